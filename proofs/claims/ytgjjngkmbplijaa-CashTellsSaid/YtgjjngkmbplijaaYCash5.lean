/- Package cash: choice. -/
import Derived.Test.YtgjjngkmbplijaaYCash4
import Derived.Deep.RegionHeld3

namespace Go.Proofs.Ytgjjngkmbplijaa
open Go.RowKit
set_option linter.unusedSimpArgs false
set_option linter.unusedVariables false

section
variable {F : FixL} {C : ChL} {id s : ByteArray} {l r : Te} {d k : Int} {st : CSt} {p e : Int}
def waitCh (s : ByteArray) (d side : Int) : Wa := ⟨true, ⟨#[]⟩, s, d, side⟩
theorem or_l (h : C.lookup (id, s) = none) (hk : 0 < k) : (Te.or s l r).walk F C id d k st = (0, (st.1, st.2 ++ [waitCh s d 0])) := by simp only [Te.walk, h]; rw [if_pos hk]; rfl
theorem or_r (h : C.lookup (id, s) = none) (hk : ¬ 0 < k) : (Te.or s l r).walk F C id d k st = (0, (st.1, st.2 ++ [waitCh s d 1])) := by simp only [Te.walk, h]; rw [if_neg hk]; rfl
theorem or_0 (h : C.lookup (id, s) = some (p, e)) (hp : p = 0) : (Te.or s l r).walk F C id d k st = l.walk F C id (Max.max d e) k st := by simp only [Te.walk, h]; rw [if_pos hp]
theorem or_1 (h : C.lookup (id, s) = some (p, e)) (hp : ¬ p = 0) : (Te.or s l r).walk F C id d k st = r.walk F C id (Max.max d e) k st := by simp only [Te.walk, h]; rw [if_neg hp]
end

set_option maxRecDepth 100000 in
set_option maxHeartbeats 6400000 in
theorem cchoice_calls (base b p f c : Nat) (F : FixL) (C : ChL) (id s : ByteArray) (l r : Te) (Hl : IntoH base b p f c F C id l) (Hr : IntoH base b p f c F C id r) (hl : l.wf) (hr : r.wf) (w : World) (v1 v2 : Value) (st : CSt) (d k : Int) (h : Wk base w b p f c F C id v1 v2 st) (hk : Vd k = true) (hR : Room st (l.nodes + r.nodes + 1)) :
    Calls Try.prog 146 #[.pointer (some ⟨b, 0, none⟩), .agg #[.string s, l.val, r.val], .int .i64 d, .int .i64 k] w (RetW base w b p f c F C id v1 v2 ((Te.or s l r).walk F C id d k st)) := by
  obtain ⟨R1, R2⟩ := hR
  have HC := fun w' (h' : Ext w w') => chosen_calls p f c F C id s w' (h.wld.ext h')
  have hbx := fun (w1 : World) (u1 u2 : Value) (ob : Obj) (m : Moved (w.alloc ob) w1 b v1 v2 u1 u2) => box_kept h m
  have hfl := Te.form hl
  have hfr := Te.form hr
  obtain ⟨k0, k1, k2, k3, kf, kb⟩ := h.cells
  have h63 : st.2.length + 1 ≤ maxLen := by unfold maxLen; omega
  have hby : (st.2.length + 1) * 56 ≤ 140737488355328 := by omega
  obtain ⟨A2, C2, rfl, hA1, hA2⟩ := own_form h.wa
  unfold maxLen at hA2
  have h0 := Lib.hid h
  have hbb := h.bb
  cases hq : C.lookup (id, s) with
  | none =>
    rw [hq] at HC
    by_cases hk0 : 0 < k
    · have HE := Lib.hid (or_l (F := F) (l := l) (r := r) (d := d) (st := st) hq hk0)
      generalize (Te.or s l r).walk F C id d k st = q at *
      generalize l.val = lv at *
      generalize r.val = rv at *
      clear Hl Hr hl hr hk R1 R2 h hq
      rcases hfl with rfl | ⟨t1, x1, rfl⟩ <;> rcases hfr with rfl | ⟨t2, x2, rfl⟩
      all_goals
        go_enter Try.func146, Try.ntmps146
        go_wp2_with fail
        go_region_held3 (fun w' => w'.cell? ⟨b, 0, none⟩ = some (.string id) ∧ w'.cell? ⟨b, 1, none⟩ = some (.pointer (some ⟨p, 0, none⟩)) ∧ w'.cell? ⟨w.heap.size, 0, none⟩ = some (.string s)) (first | go_keep | exact ⟨s0, s1, s2⟩)
          (first | (go_at_call 38; (with_reducible refine (HC _ ?_).mono ?_); exact ((by repeat' (first | (with_reducible exact Ext.refl _) | (with_reducible assumption) | (with_reducible refine Ext.alloc ?_ _) | (with_reducible refine Ext.drew ?_) | (with_reducible refine Ext.drewN ?_ _) | (with_reducible refine Ext.setCell ?_ (by first | exact Nat.le_refl _ | (simp; done) | (simp; omega) | omega) _) | (with_reducible refine Ext.trans ?_ (by assumption))))); rintro e w2 ⟨rfl, hx⟩; have hE2 : Ext w w2 := ((by repeat' (first | (with_reducible exact Ext.refl _) | (with_reducible assumption) | (with_reducible refine Ext.alloc ?_ _) | (with_reducible refine Ext.drew ?_) | (with_reducible refine Ext.drewN ?_ _) | (with_reducible refine Ext.setCell ?_ (by first | exact Nat.le_refl _ | (simp; done) | (simp; omega) | omega) _) | (with_reducible refine Ext.trans ?_ (by assumption))))); have s0 := hE2.cell k0; have s1 := hE2.cell k1; have s2 := hx.cell (p := ⟨w.heap.size, 0, none⟩) (v := .string s) (by simp [go_sem]); unfold Ret3) | fail)
        have hW2 := h0.out.ext hE2
        obtain ⟨k0, k1, k2, k3, kf, kb⟩ := hW2.cells
        have hW3 := Lib.hid hW2
        clear hW2
        go_wp2_with fail
        go_region_law (refine step_app elemWa (by rfl) _ _ (by rfl) base (.slice A2 st.2.length C2) st.2.length (waCells st.2) (by rfl) ((hW3.out.wa.alloc _).drew) (some ⟨w2.heap.size, 0, none⟩) 1 1 (waitCh s d 0).cells (by rfl) (by exact Rd.ext (Rd.newAt (by simp) rfl rfl) ((Ext.refl _).drew)) (by simp [waitCh, Wa.cells, Value.oneCell']) h63 hby (by have := hW3.out.bb; simp; omega) ?_; intro A' C' w1 hown1 hg1 hat1; obtain ⟨q3, qf⟩ := (hW3.out.ext (w' := (w2.alloc _).drew) ((by repeat' (first | (with_reducible exact Ext.refl _) | (with_reducible assumption) | (with_reducible refine Ext.alloc ?_ _) | (with_reducible refine Ext.drew ?_) | (with_reducible refine Ext.drewN ?_ _) | (with_reducible refine Ext.setCell ?_ (by first | exact Nat.le_refl _ | (simp; done) | (simp; omega) | omega) _) | (with_reducible refine Ext.trans ?_ (by assumption)))))).grown2 hg1)
        all_goals
          have hP := Lib.hid ((hW3.out.ext (w' := (w2.alloc _).drew) ((by repeat' (first | (with_reducible exact Ext.refl _) | (with_reducible assumption) | (with_reducible refine Ext.alloc ?_ _) | (with_reducible refine Ext.drew ?_) | (with_reducible refine Ext.drewN ?_ _) | (with_reducible refine Ext.setCell ?_ (by first | exact Nat.le_refl _ | (simp; done) | (simp; omega) | omega) _) | (with_reducible refine Ext.trans ?_ (by assumption)))))).put2 (waitCh s d 0) hown1 hg1 hat1)
          clear hown1 hg1 hat1 q3 qf
          go_wp2
          go_ret
          exact ⟨v1, _, by rw [HE.out]; rfl, by rw [HE.out]; exact hP.out.1, (Moved.of_ext ((by repeat' (first | (with_reducible exact Ext.refl _) | (with_reducible assumption) | (with_reducible refine Ext.alloc ?_ _) | (with_reducible refine Ext.drew ?_) | (with_reducible refine Ext.drewN ?_ _) | (with_reducible refine Ext.setCell ?_ (by first | exact Nat.le_refl _ | (simp; done) | (simp; omega) | omega) _) | (with_reducible refine Ext.trans ?_ (by assumption))))) b _ _).trans hP.out.2⟩
    · have HE := Lib.hid (or_r (F := F) (l := l) (r := r) (d := d) (st := st) hq hk0)
      generalize (Te.or s l r).walk F C id d k st = q at *
      have hk1 : k ≤ 0 := by omega
      generalize l.val = lv at *
      generalize r.val = rv at *
      clear Hl Hr hl hr hk R1 R2 h hq
      rcases hfl with rfl | ⟨t1, x1, rfl⟩ <;> rcases hfr with rfl | ⟨t2, x2, rfl⟩
      all_goals
        go_enter Try.func146, Try.ntmps146
        go_wp2_with fail
        go_region_held3 (fun w' => w'.cell? ⟨b, 0, none⟩ = some (.string id) ∧ w'.cell? ⟨b, 1, none⟩ = some (.pointer (some ⟨p, 0, none⟩)) ∧ w'.cell? ⟨w.heap.size, 0, none⟩ = some (.string s)) (first | go_keep | exact ⟨s0, s1, s2⟩)
          (first | (go_at_call 38; (with_reducible refine (HC _ ?_).mono ?_); exact ((by repeat' (first | (with_reducible exact Ext.refl _) | (with_reducible assumption) | (with_reducible refine Ext.alloc ?_ _) | (with_reducible refine Ext.drew ?_) | (with_reducible refine Ext.drewN ?_ _) | (with_reducible refine Ext.setCell ?_ (by first | exact Nat.le_refl _ | (simp; done) | (simp; omega) | omega) _) | (with_reducible refine Ext.trans ?_ (by assumption))))); rintro e w2 ⟨rfl, hx⟩; have hE2 : Ext w w2 := ((by repeat' (first | (with_reducible exact Ext.refl _) | (with_reducible assumption) | (with_reducible refine Ext.alloc ?_ _) | (with_reducible refine Ext.drew ?_) | (with_reducible refine Ext.drewN ?_ _) | (with_reducible refine Ext.setCell ?_ (by first | exact Nat.le_refl _ | (simp; done) | (simp; omega) | omega) _) | (with_reducible refine Ext.trans ?_ (by assumption))))); have s0 := hE2.cell k0; have s1 := hE2.cell k1; have s2 := hx.cell (p := ⟨w.heap.size, 0, none⟩) (v := .string s) (by simp [go_sem]); unfold Ret3) | fail)
        have hW2 := h0.out.ext hE2
        obtain ⟨k0, k1, k2, k3, kf, kb⟩ := hW2.cells
        have hW3 := Lib.hid hW2
        clear hW2
        go_wp2_with fail
        go_region_law (refine step_app elemWa (by rfl) _ _ (by rfl) base (.slice A2 st.2.length C2) st.2.length (waCells st.2) (by rfl) ((hW3.out.wa.alloc _).drew) (some ⟨w2.heap.size, 0, none⟩) 1 1 (waitCh s d 1).cells (by rfl) (by exact Rd.ext (Rd.newAt (by simp) rfl rfl) ((Ext.refl _).drew)) (by simp [waitCh, Wa.cells, Value.oneCell']) h63 hby (by have := hW3.out.bb; simp; omega) ?_; intro A' C' w1 hown1 hg1 hat1; obtain ⟨q3, qf⟩ := (hW3.out.ext (w' := (w2.alloc _).drew) ((by repeat' (first | (with_reducible exact Ext.refl _) | (with_reducible assumption) | (with_reducible refine Ext.alloc ?_ _) | (with_reducible refine Ext.drew ?_) | (with_reducible refine Ext.drewN ?_ _) | (with_reducible refine Ext.setCell ?_ (by first | exact Nat.le_refl _ | (simp; done) | (simp; omega) | omega) _) | (with_reducible refine Ext.trans ?_ (by assumption)))))).grown2 hg1)
        all_goals
          have hP := Lib.hid ((hW3.out.ext (w' := (w2.alloc _).drew) ((by repeat' (first | (with_reducible exact Ext.refl _) | (with_reducible assumption) | (with_reducible refine Ext.alloc ?_ _) | (with_reducible refine Ext.drew ?_) | (with_reducible refine Ext.drewN ?_ _) | (with_reducible refine Ext.setCell ?_ (by first | exact Nat.le_refl _ | (simp; done) | (simp; omega) | omega) _) | (with_reducible refine Ext.trans ?_ (by assumption)))))).put2 (waitCh s d 1) hown1 hg1 hat1)
          clear hown1 hg1 hat1 q3 qf
          go_wp2
          go_ret
          exact ⟨v1, _, by rw [HE.out]; rfl, by rw [HE.out]; exact hP.out.1, (Moved.of_ext ((by repeat' (first | (with_reducible exact Ext.refl _) | (with_reducible assumption) | (with_reducible refine Ext.alloc ?_ _) | (with_reducible refine Ext.drew ?_) | (with_reducible refine Ext.drewN ?_ _) | (with_reducible refine Ext.setCell ?_ (by first | exact Nat.le_refl _ | (simp; done) | (simp; omega) | omega) _) | (with_reducible refine Ext.trans ?_ (by assumption))))) b _ _).trans hP.out.2⟩
  | some pe =>
    obtain ⟨pp, e⟩ := pe
    rw [hq] at HC
    simp only [Option.getD_some, Option.isSome] at HC
    have hkk : 0 < k ∨ k ≤ 0 := by omega
    by_cases hp0 : pp = 0
    · subst hp0
      have HE := Lib.hid (or_0 (F := F) (l := l) (r := r) (d := d) (k := k) (st := st) hq rfl)
      have HT := fun w' u1 u2 hw => Hl w' u1 u2 st (Max.max d e) k hw hk ⟨by omega, by omega⟩
      generalize (Te.or s l r).walk F C id d k st = q at *
      generalize l.walk F C id (Max.max d e) k st = q2 at *
      have hmx : (d < e ∧ Max.max d e = e) ∨ (e ≤ d ∧ Max.max d e = d) := by omega
      rcases hmx with ⟨g1, g2⟩ | ⟨g1, g2⟩
      all_goals
        rw [g2] at HT
        clear g2
        generalize l.val = lv at *
        generalize r.val = rv at *
        clear Hl Hr hl hr hk R1 R2 h hq
        rcases hfl with rfl | ⟨t1, x1, rfl⟩ <;> rcases hfr with rfl | ⟨t2, x2, rfl⟩
        all_goals
          go_enter Try.func146, Try.ntmps146
          go_wp2_with fail
          go_region_held3 (fun w' => w'.cell? ⟨b, 0, none⟩ = some (.string id) ∧ w'.cell? ⟨b, 1, none⟩ = some (.pointer (some ⟨p, 0, none⟩)) ∧ w'.cell? ⟨w.heap.size, 0, none⟩ = some (.string s)) (first | go_keep | exact ⟨s0, s1, s2⟩)
            (first | (go_at_call 38; (with_reducible refine (HC _ ?_).mono ?_); exact ((by repeat' (first | (with_reducible exact Ext.refl _) | (with_reducible assumption) | (with_reducible refine Ext.alloc ?_ _) | (with_reducible refine Ext.drew ?_) | (with_reducible refine Ext.drewN ?_ _) | (with_reducible refine Ext.setCell ?_ (by first | exact Nat.le_refl _ | (simp; done) | (simp; omega) | omega) _) | (with_reducible refine Ext.trans ?_ (by assumption))))); rintro e w2 ⟨rfl, hx⟩; have hE2 : Ext w w2 := ((by repeat' (first | (with_reducible exact Ext.refl _) | (with_reducible assumption) | (with_reducible refine Ext.alloc ?_ _) | (with_reducible refine Ext.drew ?_) | (with_reducible refine Ext.drewN ?_ _) | (with_reducible refine Ext.setCell ?_ (by first | exact Nat.le_refl _ | (simp; done) | (simp; omega) | omega) _) | (with_reducible refine Ext.trans ?_ (by assumption))))); have s0 := hE2.cell k0; have s1 := hE2.cell k1; have s2 := hx.cell (p := ⟨w.heap.size, 0, none⟩) (v := .string s) (by simp [go_sem]); unfold Ret3) | fail)
          have hW2 := h0.out.ext hE2
          obtain ⟨g4, g5, g6⟩ := obj_cells (hx.lit (heap_new w _))
          have s1 := g4 1 _ rfl
          have s2 := g4 2 _ rfl
          clear g4
          go_wp2_with fail
          (with_reducible refine (HT _ v1 (.slice A2 st.2.length C2) hW2).mono ?_)
          rintro e w3 ⟨y1, y2, rfl, hw3, hm3⟩
          go_wp2
          go_ret
          exact ⟨y1, y2, by rw [HE.out]; rfl, by rw [HE.out]; exact hw3, (Moved.of_ext hE2 b _ _).trans hm3⟩
    · have hpf : (pp == 0) = false := by simpa using hp0
      have HE := Lib.hid (or_1 (F := F) (l := l) (r := r) (d := d) (k := k) (st := st) hq hp0)
      have HT := fun w' u1 u2 hw => Hr w' u1 u2 st (Max.max d e) k hw hk ⟨by omega, by omega⟩
      generalize (Te.or s l r).walk F C id d k st = q at *
      generalize r.walk F C id (Max.max d e) k st = q2 at *
      have hmx : (d < e ∧ Max.max d e = e) ∨ (e ≤ d ∧ Max.max d e = d) := by omega
      rcases hmx with ⟨g1, g2⟩ | ⟨g1, g2⟩
      all_goals
        rw [g2] at HT
        clear g2
        generalize l.val = lv at *
        generalize r.val = rv at *
        clear Hl Hr hl hr hk R1 R2 h hq
        rcases hfl with rfl | ⟨t1, x1, rfl⟩ <;> rcases hfr with rfl | ⟨t2, x2, rfl⟩
        all_goals
          go_enter Try.func146, Try.ntmps146
          go_wp2_with fail
          go_region_held3 (fun w' => w'.cell? ⟨b, 0, none⟩ = some (.string id) ∧ w'.cell? ⟨b, 1, none⟩ = some (.pointer (some ⟨p, 0, none⟩)) ∧ w'.cell? ⟨w.heap.size, 0, none⟩ = some (.string s)) (first | go_keep | exact ⟨s0, s1, s2⟩)
            (first | (go_at_call 38; (with_reducible refine (HC _ ?_).mono ?_); exact ((by repeat' (first | (with_reducible exact Ext.refl _) | (with_reducible assumption) | (with_reducible refine Ext.alloc ?_ _) | (with_reducible refine Ext.drew ?_) | (with_reducible refine Ext.drewN ?_ _) | (with_reducible refine Ext.setCell ?_ (by first | exact Nat.le_refl _ | (simp; done) | (simp; omega) | omega) _) | (with_reducible refine Ext.trans ?_ (by assumption))))); rintro e w2 ⟨rfl, hx⟩; have hE2 : Ext w w2 := ((by repeat' (first | (with_reducible exact Ext.refl _) | (with_reducible assumption) | (with_reducible refine Ext.alloc ?_ _) | (with_reducible refine Ext.drew ?_) | (with_reducible refine Ext.drewN ?_ _) | (with_reducible refine Ext.setCell ?_ (by first | exact Nat.le_refl _ | (simp; done) | (simp; omega) | omega) _) | (with_reducible refine Ext.trans ?_ (by assumption))))); have s0 := hE2.cell k0; have s1 := hE2.cell k1; have s2 := hx.cell (p := ⟨w.heap.size, 0, none⟩) (v := .string s) (by simp [go_sem]); unfold Ret3) | fail)
          have hW2 := h0.out.ext hE2
          obtain ⟨g4, g5, g6⟩ := obj_cells (hx.lit (heap_new w _))
          have s1 := g4 1 _ rfl
          have s2 := g4 2 _ rfl
          clear g4
          go_wp2_with fail
          (with_reducible refine (HT _ v1 (.slice A2 st.2.length C2) hW2).mono ?_)
          rintro e w3 ⟨y1, y2, rfl, hw3, hm3⟩
          go_wp2
          go_ret
          exact ⟨y1, y2, by rw [HE.out]; rfl, by rw [HE.out]; exact hw3, (Moved.of_ext hE2 b _ _).trans hm3⟩

end Go.Proofs.Ytgjjngkmbplijaa
