/- Texts put together: Cash6, Cash7, Cash8. -/
import Derived.Test.YtgjjngkmbplijaaYCash5
import Derived.Test.YtgjjngkmbplijaaYValueOverW
/- Package cash: into, Of; the law's 'wakes'. -/
namespace Go.Proofs.Ytgjjngkmbplijaa
open Go.RowKit
set_option linter.unusedSimpArgs false
set_option linter.unusedVariables false

theorem Vd_neg {k : Int} (h : Vd k = true) : Vd (-k) = true := by
  have := (Vd_iff k).1 h
  exact (Vd_iff _).2 (by omega)

set_option maxRecDepth 100000 in
set_option maxHeartbeats 6400000 in
theorem cinto_calls (base b p f c : Nat) (F : FixL) (C : ChL) (id : ByteArray) (n : Nat) : ∀ (t : Te), SizeOf.sizeOf t < n → t.wf → t.nodes ≤ 2 ^ 32 → IntoH base b p f c F C id t := by
  induction n with
  | zero => intro t h; omega
  | succ n ih =>
    intro t hs hwf hn w v1 v2 st d k h hk hR
    obtain ⟨R1, R2⟩ := hR
    have hkk := (Vd_iff k).1 hk
    have kl := hkk.1
    have kh := hkk.2
    clear hkk
    cases t with
    | zero =>
      simp only [Te.val, Te.walk]
      clear ih
      go_enter Try.func120, Try.ntmps120
      go_wp2
      go_ret
      exact ⟨v1, v2, rfl, h.ext ((by repeat' (first | (with_reducible exact Ext.refl _) | (with_reducible assumption) | (with_reducible refine Ext.alloc ?_ _) | (with_reducible refine Ext.drew ?_) | (with_reducible refine Ext.drewN ?_ _) | (with_reducible refine Ext.setCell ?_ (by first | exact Nat.le_refl _ | (simp; done) | (simp; omega) | omega) _) | (with_reducible refine Ext.trans ?_ (by assumption))))), Moved.of_ext ((by repeat' (first | (with_reducible exact Ext.refl _) | (with_reducible assumption) | (with_reducible refine Ext.alloc ?_ _) | (with_reducible refine Ext.drew ?_) | (with_reducible refine Ext.drewN ?_ _) | (with_reducible refine Ext.setCell ?_ (by first | exact Nat.le_refl _ | (simp; done) | (simp; omega) | omega) _) | (with_reducible refine Ext.trans ?_ (by assumption))))) b _ _⟩
    | odd v =>
      simp only [Te.walk]
      clear ih
      rcases hwf with rfl | ⟨t, x, rfl, h1, h2, h3, h4, h5, h6, h7, h8⟩
      all_goals
        simp only [Te.val]
        go_enter Try.func120, Try.ntmps120
        go_wp2
        go_ret
        exact ⟨v1, v2, rfl, h.ext ((by repeat' (first | (with_reducible exact Ext.refl _) | (with_reducible assumption) | (with_reducible refine Ext.alloc ?_ _) | (with_reducible refine Ext.drew ?_) | (with_reducible refine Ext.drewN ?_ _) | (with_reducible refine Ext.setCell ?_ (by first | exact Nat.le_refl _ | (simp; done) | (simp; omega) | omega) _) | (with_reducible refine Ext.trans ?_ (by assumption))))), Moved.of_ext ((by repeat' (first | (with_reducible exact Ext.refl _) | (with_reducible assumption) | (with_reducible refine Ext.alloc ?_ _) | (with_reducible refine Ext.drew ?_) | (with_reducible refine Ext.drewN ?_ _) | (with_reducible refine Ext.setCell ?_ (by first | exact Nat.le_refl _ | (simp; done) | (simp; omega) | omega) _) | (with_reducible refine Ext.trans ?_ (by assumption))))) b _ _⟩
    | one s =>
      simp only [Te.val, Te.walk]
      simp only [Te.nodes] at R1 R2
      clear ih
      obtain ⟨k0, k1, k2, k3, kf, kb⟩ := h.cells
      have h63 : st.1.length + 1 ≤ maxLen := by unfold maxLen; omega
      have hby : (st.1.length + 1) * 32 ≤ 140737488355328 := by omega
      obtain ⟨A2, C2, rfl, hA1, hA2⟩ := own_form h.fl
      have h0 := Lib.hid h
      unfold maxLen at hA2
      clear h
      go_enter Try.func120, Try.ntmps120
      go_wp2_with fail
      go_region_law (refine step_app elemFl (by rfl) _ _ (by rfl) base (.slice A2 st.1.length C2) st.1.length (flCells st.1) (by rfl) (((h0.out.fl.alloc _).alloc _).drew) (some ⟨w.heap.size + 1, 0, none⟩) 1 1 (Fl.mk d s k).cells (by rfl) (by exact Rd.ext (Rd.newAt (by simp) rfl rfl) ((Ext.refl _).drew)) (by simp [Fl.cells, Value.oneCell']) h63 hby (by have := h0.out.bb; simp; omega) ?_; intro A' C' w1 hown1 hg1 hat1; obtain ⟨q3, qf⟩ := (h0.out.ext (w' := ((w.alloc _).alloc _).drew) ((by repeat' (first | (with_reducible exact Ext.refl _) | (with_reducible assumption) | (with_reducible refine Ext.alloc ?_ _) | (with_reducible refine Ext.drew ?_) | (with_reducible refine Ext.drewN ?_ _) | (with_reducible refine Ext.setCell ?_ (by first | exact Nat.le_refl _ | (simp; done) | (simp; omega) | omega) _) | (with_reducible refine Ext.trans ?_ (by assumption)))))).grown1 hg1)
      all_goals
        have hP := Lib.hid ((h0.out.ext (w' := ((w.alloc _).alloc _).drew) ((by repeat' (first | (with_reducible exact Ext.refl _) | (with_reducible assumption) | (with_reducible refine Ext.alloc ?_ _) | (with_reducible refine Ext.drew ?_) | (with_reducible refine Ext.drewN ?_ _) | (with_reducible refine Ext.setCell ?_ (by first | exact Nat.le_refl _ | (simp; done) | (simp; omega) | omega) _) | (with_reducible refine Ext.trans ?_ (by assumption)))))).put1 (Fl.mk d s k) hown1 hg1 hat1)
        clear hown1 hg1 hat1 q3 qf
        go_wp2
        go_ret
        exact ⟨_, v2, rfl, hP.out.1, (Moved.of_ext ((by repeat' (first | (with_reducible exact Ext.refl _) | (with_reducible assumption) | (with_reducible refine Ext.alloc ?_ _) | (with_reducible refine Ext.drew ?_) | (with_reducible refine Ext.drewN ?_ _) | (with_reducible refine Ext.setCell ?_ (by first | exact Nat.le_refl _ | (simp; done) | (simp; omega) | omega) _) | (with_reducible refine Ext.trans ?_ (by assumption))))) b _ _).trans hP.out.2⟩
    | give t =>
      simp only [Te.val, Te.walk]
      simp only [Te.nodes] at R1 R2 hn
      have hT := fun w' (h' : Ext w w') => ih t (by simp at hs; omega) hwf (by omega) w' v1 v2 st d (-k) (h.ext h') (Vd_neg hk) ⟨by omega, by omega⟩
      generalize t.walk F C id d (-k) st = q at *
      have hf := Te.form (show t.wf from hwf)
      generalize t.val = tv at *
      clear ih hs hwf hk
      rcases hf with rfl | ⟨t1, x1, rfl⟩
      all_goals
        go_enter Try.func120, Try.ntmps120
        (go_wp2_with fail; (with_reducible refine (hT _ ((by repeat' (first | (with_reducible exact Ext.refl _) | (with_reducible assumption) | (with_reducible refine Ext.alloc ?_ _) | (with_reducible refine Ext.drew ?_) | (with_reducible refine Ext.drewN ?_ _) | (with_reducible refine Ext.setCell ?_ (by first | exact Nat.le_refl _ | (simp; done) | (simp; omega) | omega) _) | (with_reducible refine Ext.trans ?_ (by assumption)))))).mono ?_); rintro e w' ⟨y1, y2, rfl, hw3, hm3⟩)
        go_wp2
        go_ret
        exact ⟨y1, y2, rfl, hw3, (Moved.of_ext ((by repeat' (first | (with_reducible exact Ext.refl _) | (with_reducible assumption) | (with_reducible refine Ext.alloc ?_ _) | (with_reducible refine Ext.drew ?_) | (with_reducible refine Ext.drewN ?_ _) | (with_reducible refine Ext.setCell ?_ (by first | exact Nat.le_refl _ | (simp; done) | (simp; omega) | omega) _) | (with_reducible refine Ext.trans ?_ (by assumption))))) b _ _).trans hm3⟩
    | whn e t =>
      simp only [Te.val, Te.walk]
      simp only [Te.nodes] at R1 R2 hn
      have hT := fun w' (h' : Ext w w') => ih t (by simp at hs; omega) hwf.2 (by omega) w' v1 v2 st (Max.max d e) k (h.ext h') hk ⟨by omega, by omega⟩
      generalize t.walk F C id (Max.max d e) k st = q at *
      have hf := Te.form hwf.2
      generalize t.val = tv at *
      clear ih hs hwf hk
      have hmx : (d < e ∧ Max.max d e = e) ∨ (e ≤ d ∧ Max.max d e = d) := by omega
      rcases hmx with ⟨g1, g2⟩ | ⟨g1, g2⟩ <;> rcases hf with rfl | ⟨t1, x1, rfl⟩
      all_goals
        rw [g2] at hT
        clear g2
        go_enter Try.func120, Try.ntmps120
        (go_wp2_with fail; (with_reducible refine (hT _ ((by repeat' (first | (with_reducible exact Ext.refl _) | (with_reducible assumption) | (with_reducible refine Ext.alloc ?_ _) | (with_reducible refine Ext.drew ?_) | (with_reducible refine Ext.drewN ?_ _) | (with_reducible refine Ext.setCell ?_ (by first | exact Nat.le_refl _ | (simp; done) | (simp; omega) | omega) _) | (with_reducible refine Ext.trans ?_ (by assumption)))))).mono ?_); rintro e w' ⟨y1, y2, rfl, hw3, hm3⟩)
        go_wp2
        go_ret
        exact ⟨y1, y2, rfl, hw3, (Moved.of_ext ((by repeat' (first | (with_reducible exact Ext.refl _) | (with_reducible assumption) | (with_reducible refine Ext.alloc ?_ _) | (with_reducible refine Ext.drew ?_) | (with_reducible refine Ext.drewN ?_ _) | (with_reducible refine Ext.setCell ?_ (by first | exact Nat.le_refl _ | (simp; done) | (simp; omega) | omega) _) | (with_reducible refine Ext.trans ?_ (by assumption))))) b _ _).trans hm3⟩
    | and l r =>
      simp only [Te.val]
      simp only [Te.nodes] at R1 R2 hn
      have hT := fun w' (h' : Ext w w') => cboth_calls base b p f c F C id l r (ih l (by simp at hs; omega) hwf.1 (by omega)) (ih r (by simp at hs; omega) hwf.2 (by omega)) w' v1 v2 st d k (h.ext h') hk ⟨by omega, by omega⟩
      generalize (Te.and l r).walk F C id d k st = q at *
      have hf := Te.form hwf.1
      have hf2 := Te.form hwf.2
      generalize l.val = lv at *
      generalize r.val = rv at *
      clear ih hs hwf hk
      rcases hf with rfl | ⟨t1, x1, rfl⟩ <;> rcases hf2 with rfl | ⟨t2, x2, rfl⟩
      all_goals
        go_enter Try.func120, Try.ntmps120
        (go_wp2_with fail; (with_reducible refine (hT _ ((by repeat' (first | (with_reducible exact Ext.refl _) | (with_reducible assumption) | (with_reducible refine Ext.alloc ?_ _) | (with_reducible refine Ext.drew ?_) | (with_reducible refine Ext.drewN ?_ _) | (with_reducible refine Ext.setCell ?_ (by first | exact Nat.le_refl _ | (simp; done) | (simp; omega) | omega) _) | (with_reducible refine Ext.trans ?_ (by assumption)))))).mono ?_); rintro e w' ⟨y1, y2, rfl, hw3, hm3⟩)
        go_wp2
        go_ret
        exact ⟨y1, y2, rfl, hw3, (Moved.of_ext ((by repeat' (first | (with_reducible exact Ext.refl _) | (with_reducible assumption) | (with_reducible refine Ext.alloc ?_ _) | (with_reducible refine Ext.drew ?_) | (with_reducible refine Ext.drewN ?_ _) | (with_reducible refine Ext.setCell ?_ (by first | exact Nat.le_refl _ | (simp; done) | (simp; omega) | omega) _) | (with_reducible refine Ext.trans ?_ (by assumption))))) b _ _).trans hm3⟩
    | or s l r =>
      simp only [Te.val]
      simp only [Te.nodes] at R1 R2 hn
      have hT := fun w' (h' : Ext w w') => cchoice_calls base b p f c F C id s l r (ih l (by simp at hs; omega) hwf.2.1 (by omega)) (ih r (by simp at hs; omega) hwf.2.2 (by omega)) hwf.2.1 hwf.2.2 w' v1 v2 st d k (h.ext h') hk ⟨by omega, by omega⟩
      generalize (Te.or s l r).walk F C id d k st = q at *
      have hf := Te.form hwf.2.1
      have hf2 := Te.form hwf.2.2
      generalize l.val = lv at *
      generalize r.val = rv at *
      clear ih hs hwf hk
      rcases hf with rfl | ⟨t1, x1, rfl⟩ <;> rcases hf2 with rfl | ⟨t2, x2, rfl⟩
      all_goals
        go_enter Try.func120, Try.ntmps120
        (go_wp2_with fail; (with_reducible refine (hT _ ((by repeat' (first | (with_reducible exact Ext.refl _) | (with_reducible assumption) | (with_reducible refine Ext.alloc ?_ _) | (with_reducible refine Ext.drew ?_) | (with_reducible refine Ext.drewN ?_ _) | (with_reducible refine Ext.setCell ?_ (by first | exact Nat.le_refl _ | (simp; done) | (simp; omega) | omega) _) | (with_reducible refine Ext.trans ?_ (by assumption)))))).mono ?_); rintro e w' ⟨y1, y2, rfl, hw3, hm3⟩)
        go_wp2
        go_ret
        exact ⟨y1, y2, rfl, hw3, (Moved.of_ext ((by repeat' (first | (with_reducible exact Ext.refl _) | (with_reducible assumption) | (with_reducible refine Ext.alloc ?_ _) | (with_reducible refine Ext.drew ?_) | (with_reducible refine Ext.drewN ?_ _) | (with_reducible refine Ext.setCell ?_ (by first | exact Nat.le_refl _ | (simp; done) | (simp; omega) | omega) _) | (with_reducible refine Ext.trans ?_ (by assumption))))) b _ _).trans hm3⟩
    | scale o t =>
      simp only [Te.val]
      simp only [Te.nodes] at R1 R2 hn
      have hT := fun w' (h' : Ext w w') => cscale_calls base b p f c F C id o t (ih t (by simp at hs; omega) hwf.2 (by omega)) hwf.1 hwf.2 (by omega) w' v1 v2 st d k (h.ext h') hk ⟨by omega, by omega⟩
      generalize (Te.scale o t).walk F C id d k st = q at *
      have hf := Ob.form hwf.1
      have hf2 := Te.form hwf.2
      generalize o.val = lv at *
      generalize t.val = rv at *
      clear ih hs hwf hk
      rcases hf with rfl | ⟨t1, x1, rfl⟩ <;> rcases hf2 with rfl | ⟨t2, x2, rfl⟩
      all_goals
        go_enter Try.func120, Try.ntmps120
        (go_wp2_with fail; (with_reducible refine (hT _ ((by repeat' (first | (with_reducible exact Ext.refl _) | (with_reducible assumption) | (with_reducible refine Ext.alloc ?_ _) | (with_reducible refine Ext.drew ?_) | (with_reducible refine Ext.drewN ?_ _) | (with_reducible refine Ext.setCell ?_ (by first | exact Nat.le_refl _ | (simp; done) | (simp; omega) | omega) _) | (with_reducible refine Ext.trans ?_ (by assumption)))))).mono ?_); rintro e w' ⟨y1, y2, rfl, hw3, hm3⟩)
        go_wp2
        go_ret
        exact ⟨y1, y2, rfl, hw3, (Moved.of_ext ((by repeat' (first | (with_reducible exact Ext.refl _) | (with_reducible assumption) | (with_reducible refine Ext.alloc ?_ _) | (with_reducible refine Ext.drew ?_) | (with_reducible refine Ext.drewN ?_ _) | (with_reducible refine Ext.setCell ?_ (by first | exact Nat.le_refl _ | (simp; done) | (simp; omega) | omega) _) | (with_reducible refine Ext.trans ?_ (by assumption))))) b _ _).trans hm3⟩
    | cond o l r =>
      simp only [Te.val]
      simp only [Te.nodes] at R1 R2 hn
      have hT := fun w' (h' : Ext w w') => ctest_calls base b p f c F C id o l r (ih l (by simp at hs; omega) hwf.2.1 (by omega)) (ih r (by simp at hs; omega) hwf.2.2 (by omega)) hwf.1 hwf.2.1 hwf.2.2 (by omega) w' v1 v2 st d k (h.ext h') hk ⟨by omega, by omega⟩
      generalize (Te.cond o l r).walk F C id d k st = q at *
      have hf0 := Ob.form hwf.1
      have hf := Te.form hwf.2.1
      have hf2 := Te.form hwf.2.2
      generalize o.val = ov at *
      generalize l.val = lv at *
      generalize r.val = rv at *
      clear ih hs hwf hk
      rcases hf0 with rfl | ⟨t0, x0, rfl⟩ <;> rcases hf with rfl | ⟨t1, x1, rfl⟩ <;> rcases hf2 with rfl | ⟨t2, x2, rfl⟩
      all_goals
        go_enter Try.func120, Try.ntmps120
        (go_wp2_with fail; (with_reducible refine (hT _ ((by repeat' (first | (with_reducible exact Ext.refl _) | (with_reducible assumption) | (with_reducible refine Ext.alloc ?_ _) | (with_reducible refine Ext.drew ?_) | (with_reducible refine Ext.drewN ?_ _) | (with_reducible refine Ext.setCell ?_ (by first | exact Nat.le_refl _ | (simp; done) | (simp; omega) | omega) _) | (with_reducible refine Ext.trans ?_ (by assumption)))))).mono ?_); rintro e w' ⟨y1, y2, rfl, hw3, hm3⟩)
        go_wp2
        go_ret
        exact ⟨y1, y2, rfl, hw3, (Moved.of_ext ((by repeat' (first | (with_reducible exact Ext.refl _) | (with_reducible assumption) | (with_reducible refine Ext.alloc ?_ _) | (with_reducible refine Ext.drew ?_) | (with_reducible refine Ext.drewN ?_ _) | (with_reducible refine Ext.setCell ?_ (by first | exact Nat.le_refl _ | (simp; done) | (simp; omega) | omega) _) | (with_reducible refine Ext.trans ?_ (by assumption))))) b _ _).trans hm3⟩

end Go.Proofs.Ytgjjngkmbplijaa

/- Package cash: Of; the law's 'wakes'. -/
namespace Go.Proofs.Ytgjjngkmbplijaa
open Go.RowKit
set_option linter.unusedSimpArgs false
set_option linter.unusedVariables false

/-- What cash.Of tells. -/
def cashOf (F : FixL) (C : ChL) (id : ByteArray) (t : Te) (d : Int) : Int × CSt :=
  if t.checked = 0 ∧ dayB d = true then (if (t.walk F C id d 1 ([], [])).1 = 0 then t.walk F C id d 1 ([], []) else ((t.walk F C id d 1 ([], [])).1, ([], []))) else (1, ([], []))
theorem cashOf_arg {F : FixL} {C : ChL} {id : ByteArray} {t : Te} {d : Int} (h : t.checked ≠ 0 ∨ dayB d = false) : cashOf F C id t d = (1, ([], [])) := by
  unfold cashOf; rw [if_neg (by rintro ⟨h1, h2⟩; rcases h with h | h; exact h h1; rw [h2] at h; cases h)]
theorem cashOf_err {F : FixL} {C : ChL} {id : ByteArray} {t : Te} {d : Int} (h : t.checked = 0) (h2 : dayB d = true) (h3 : (t.walk F C id d 1 ([], [])).1 ≠ 0) : cashOf F C id t d = ((t.walk F C id d 1 ([], [])).1, ([], [])) := by
  unfold cashOf; rw [if_pos ⟨h, h2⟩, if_neg h3]
theorem cashOf_ok {F : FixL} {C : ChL} {id : ByteArray} {t : Te} {d : Int} (h : t.checked = 0) (h2 : dayB d = true) (h3 : (t.walk F C id d 1 ([], [])).1 = 0) : cashOf F C id t d = t.walk F C id d 1 ([], []) := by
  unfold cashOf; rw [if_pos ⟨h, h2⟩, if_pos h3]
/-- Flows, waits, an error's number come back, in rows of their own. -/
def RetCash (w : World) (r : Int × CSt) (e : Ending) (w' : World) : Prop :=
  ∃ v1 v2, e = .returned (.tuple #[v1, v2, .int .i64 r.1]) ∧ w'.ownsRow w.heap.size 144 3 v1 r.2.1.length (flCells r.2.1) ∧ w'.ownsRow w.heap.size 152 5 v2 r.2.2.length (waCells r.2.2) ∧ Ext w w'
theorem Te.checked_form {t : Te} (h : t.checked = 0) : t.formed = true ∧ t.nodes ≤ 60 ∧ t.depth ≤ 12 ∧ twice t.labels = false := by
  cases hf : t.formed with
  | false => rw [Te.checked_no hf] at h; cases h
  | true =>
    by_cases h1 : 60 < t.nodes ∨ 12 < t.depth
    · rw [Te.checked_lim hf h1] at h; cases h
    · cases h4 : twice t.labels with
      | true => rw [Te.checked_tw hf (by omega) (by omega) h4] at h; cases h
      | false => exact ⟨rfl, by omega, by omega, rfl⟩

set_option maxRecDepth 100000 in
set_option maxHeartbeats 3200000 in
theorem cof_calls (p f c : Nat) (F : FixL) (C : ChL) (id : ByteArray) (t : Te) (d : Int) (w : World) (hwf : t.wf) (hn : t.nodes ≤ 2 ^ 32) (hW : Wld w p f c F C) :
    Calls Try.prog 81 #[.string id, t.val, .int .i64 d, .pointer (some ⟨p, 0, none⟩)] w (RetCash w (cashOf F C id t d)) := by
  have H1 := tcheck_calls t w hwf hn
  by_cases h : t.checked = 0
  · rw [h] at H1
    by_cases h1 : 0 ≤ d
    · by_cases h2 : d ≤ 10000
      · have hd := (dayB_iff d).2 ⟨h1, h2⟩
        have hlts := hW.lts
        have hR : Room ([], []) t.nodes := ⟨by simp; omega, by simp; omega⟩
        have HI := fun (w' : World) (hW' : Wk (w'.heap.size) (w'.alloc (.cells #[.string id, .pointer (some ⟨p, 0, none⟩), .slice none 0 0, .slice none 0 0] 221 (0, 0))) w'.heap.size p f c F C id (.slice none 0 0) (.slice none 0 0) ([], [])) => cinto_calls w'.heap.size w'.heap.size p f c F C id _ t (Nat.lt_succ_self _) hwf hn (w'.alloc (.cells #[.string id, .pointer (some ⟨p, 0, none⟩), .slice none 0 0, .slice none 0 0] 221 (0, 0))) (.slice none 0 0) (.slice none 0 0) ([], []) d 1 hW' (by decide) hR
        have mkW : ∀ w', Ext w w' → Wk (w'.heap.size) (w'.alloc (.cells #[.string id, .pointer (some ⟨p, 0, none⟩), .slice none 0 0, .slice none 0 0] 221 (0, 0))) w'.heap.size p f c F C id (.slice none 0 0) (.slice none 0 0) ([], []) := fun w' hx => by
          have := hx.le
          exact ⟨heap_new _ _, World.ownsRow_nil _ _ _ _, World.ownsRow_nil _ _ _ _, (hW.ext hx).ext ((Ext.refl _).alloc _), by omega, Nat.le_refl _, by simp [Value.ownBlock], by simp [Value.ownBlock], .inl rfl⟩
        have mkW := Lib.hid mkW
        clear hR hwf hn hW
        by_cases h3 : (t.walk F C id d 1 ([], [])).1 = 0
        · have HE := Lib.hid (cashOf_ok h hd h3)
          generalize cashOf F C id t d = q at *
          generalize t.walk F C id d 1 ([], []) = q2 at *
          obtain ⟨q2e, q21, q22⟩ := q2
          obtain rfl : q2e = 0 := h3
          generalize t.val = tv at *
          clear h hd hlts
          go_enter Try.func81, Try.ntmps81
          (go_wp2_with fail; (with_reducible refine (H1).mono ?_); rintro e w' ⟨rfl, hx⟩)
          (go_wp2_with fail; (with_reducible refine (HI _ (mkW.out _ hx)).mono ?_); rintro e w' ⟨u1, u2, rfl, hWk, hM⟩)
          have hE := Lib.hid (hM.ext (mkW.out _ hx) ((Ext.refl _).alloc _) (Nat.le_refl _))
          obtain ⟨A1, C1, rfl, _, _⟩ := own_form hWk.fl
          obtain ⟨A2, C2, rfl, _, _⟩ := own_form hWk.wa
          obtain ⟨k0, k1, k2, k3, kf, kb⟩ := hWk.cells
          have hWk := Lib.hid hWk
          have hle := Lib.hid hx.le
          clear hM
          go_wp2_with fail
          go_quiet (fail)
          go_wp2
          go_ret3
          refine ⟨_, _, by rw [HE.out]; rfl, ?_, ?_, ?_⟩
          · rw [HE.out]; exact (Ext.own (Ext.drewN (Ext.refl _) _) (own_mono hWk.out.fl hle.out))
          · rw [HE.out]; exact (Ext.own (Ext.drewN (Ext.refl _) _) (own_mono hWk.out.wa hle.out))
          · exact (hx.trans hE.out).drewN _
        · have HE := Lib.hid (cashOf_err h hd h3)
          have hne : ((t.walk F C id d 1 ([], [])).1 != 0) = true := by simpa using h3
          generalize cashOf F C id t d = q at *
          generalize t.walk F C id d 1 ([], []) = q2 at *
          obtain ⟨q2e, q21, q22⟩ := q2
          generalize t.val = tv at *
          simp only at hne HE h3
          clear h hd hlts
          go_enter Try.func81, Try.ntmps81
          (go_wp2_with fail; (with_reducible refine (H1).mono ?_); rintro e w' ⟨rfl, hx⟩)
          (go_wp2_with fail; (with_reducible refine (HI _ (mkW.out _ hx)).mono ?_); rintro e w' ⟨u1, u2, rfl, hWk, hM⟩)
          have hE := Lib.hid (hM.ext (mkW.out _ hx) ((Ext.refl _).alloc _) (Nat.le_refl _))
          clear hM hWk
          go_wp2
          go_ret3
          exact ⟨_, _, by rw [HE.out]; rfl, by rw [HE.out]; exact World.ownsRow_nil _ _ _ _, by rw [HE.out]; exact World.ownsRow_nil _ _ _ _, hx.trans hE.out⟩
      · have HE := Lib.hid (cashOf_arg (F := F) (C := C) (id := id) (t := t) (d := d) (.inr (bool_no (dayB_iff d) (by omega))))
        generalize cashOf F C id t d = q at *
        generalize t.val = tv at *
        clear h hwf hn hW
        go_enter Try.func81, Try.ntmps81
        (go_wp2_with fail; (with_reducible refine (H1).mono ?_); rintro e w' ⟨rfl, hx⟩)
        go_wp2
        go_ret3
        exact ⟨_, _, by rw [HE.out]; rfl, by rw [HE.out]; exact World.ownsRow_nil _ _ _ _, by rw [HE.out]; exact World.ownsRow_nil _ _ _ _, hx⟩
    · have HE := Lib.hid (cashOf_arg (F := F) (C := C) (id := id) (t := t) (d := d) (.inr (bool_no (dayB_iff d) (by omega))))
      generalize cashOf F C id t d = q at *
      generalize t.val = tv at *
      clear h hwf hn hW
      go_enter Try.func81, Try.ntmps81
      (go_wp2_with fail; (with_reducible refine (H1).mono ?_); rintro e w' ⟨rfl, hx⟩)
      go_wp2
      go_ret3
      exact ⟨_, _, by rw [HE.out]; rfl, by rw [HE.out]; exact World.ownsRow_nil _ _ _ _, by rw [HE.out]; exact World.ownsRow_nil _ _ _ _, hx⟩
  · have HE := Lib.hid (cashOf_arg (F := F) (C := C) (id := id) (t := t) (d := d) (.inl h))
    have hne : (t.checked != 0) = true := by simpa using h
    generalize cashOf F C id t d = q at *
    generalize t.val = tv at *
    generalize t.checked = ck at *
    clear h hwf hn hW
    go_enter Try.func81, Try.ntmps81
    (go_wp2_with fail; (with_reducible refine (H1).mono ?_); rintro e w' ⟨rfl, hx⟩)
    go_wp2
    go_ret3
    exact ⟨_, _, by rw [HE.out]; rfl, by rw [HE.out]; exact World.ownsRow_nil _ _ _ _, by rw [HE.out]; exact World.ownsRow_nil _ _ _ _, hx⟩

theorem flCells_at {l : List Fl} {j : Nat} {x : Fl} (h : l[j]? = some x) (i : Nat) (hi : i < 3) : (flCells l)[j * 3 + i]? = x.cells[i]? := by
  induction l generalizing j with
  | nil => simp at h
  | cons y r ih =>
    have hl : y.cells.length = 3 := rfl
    cases j with
    | zero => simp at h; subst h; simp only [flCells, List.flatMap_cons, Nat.zero_mul, Nat.zero_add]; rw [List.getElem?_append_left (by omega)]
    | succ j =>
      simp only [List.getElem?_cons_succ] at h
      have := ih h
      simp only [flCells, List.flatMap_cons] at *
      rw [List.getElem?_append_right (by omega), ← this]
      congr 1
      omega
theorem fl_at {w : World} {base : Nat} {e : TypeId} {a : Option Addr} {c n : Nat} {l : List Fl} (h : w.ownsRow base e 3 (.slice a n c) n (flCells l)) {j : Nat} {x : Fl} (hx : l[j]? = some x) (hj : j < n) :
    ∃ g, a = some ⟨g, 0, none⟩ ∧ w.cell? ⟨g, j * 3, none⟩ = some (.int .i64 x.day) ∧ w.cell? ⟨g, j * 3 + 1, none⟩ = some (.string x.cur) ∧ w.cell? ⟨g, j * 3 + 2, none⟩ = some (.int .i64 x.amt) := by
  obtain ⟨g, e1, _, _⟩ := own_at h hj
  have hr := Rd.of_own h
  obtain ⟨ad0, e2, c0⟩ := hr.2 (j * 3 + 0) _ (flCells_at hx 0 (by omega))
  obtain ⟨ad1, e3, c1⟩ := hr.2 (j * 3 + 1) _ (flCells_at hx 1 (by omega))
  obtain ⟨ad2, e4, c2⟩ := hr.2 (j * 3 + 2) _ (flCells_at hx 2 (by omega))
  rw [e1] at e2 e3 e4
  injection e2 with e2; injection e3 with e3; injection e4 with e4
  subst e2 e3 e4
  simp only [Addr.add_lit, Nat.zero_add] at c0 c1 c2
  exact ⟨g, e1, c0, c1, c2⟩
theorem held_flow : Try.prog.stoodInHeld 144 = false ∧ Try.prog.eqGuardType Try.prog.depth 144 = false := ⟨by kernel_rfl, by kernel_rfl⟩
def Fl.val (x : Fl) : Value := .agg #[.int .i64 x.day, .string x.cur, .int .i64 x.amt]
def Fl.same (x y : Fl) : Bool := x.day == y.day && (x.cur == y.cur && x.amt == y.amt)
set_option maxRecDepth 100000 in
set_option maxHeartbeats 400000 in
theorem eql_flow (x y : Fl) (w : World) : (Op.equalIn 10000 144 x.val y.val).run Try.prog w = .ok (x.same y) w := by
  obtain ⟨f1, f2⟩ := held_flow
  obtain ⟨a1, a2, a3⟩ := x
  obtain ⟨b1, b2, b3⟩ := y
  unfold Fl.val Fl.same
  simp only
  rw [run_equalIn_agg _ _ _ _ _ (by kernel_rfl) f1, ← bytes_beq]
  go_simp
  by_cases h1 : a1 = b1 <;> by_cases h2 : a2.toList = b2.toList <;> by_cases h3 : a3 = b3 <;> simp [h1, h2, h3]

set_option maxRecDepth 100000 in
set_option maxHeartbeats 1600000 in
theorem wakes10_calls (w : World) : Calls Try.prog 83 #[] w fun e w' => e = .returned (.bool true) ∧ Ext w w' := by
  have H := fun p f c w' hW => cof_calls p f c [] [] ⟨#[116]⟩ (.one ⟨#[117, 115, 100]⟩) 3 w' (by show (⟨#[117, 115, 100]⟩ : ByteArray).size ≤ 1000; decide) (by decide) hW
  rw [show cashOf [] [] ⟨#[116]⟩ (.one ⟨#[117, 115, 100]⟩) 3 = (0, ([⟨3, ⟨#[117, 115, 100]⟩, 1⟩], [])) by
    rw [cashOf_ok (by decide +kernel) (by decide) rfl]; rfl] at H
  simp only [Te.val] at H
  have hE := fun W => eql_flow ⟨3, ⟨#[117, 115, 100]⟩, 1⟩ ⟨3, ⟨#[117, 115, 100]⟩, 1⟩ W
  have f2 := held_flow.2
  unfold Fl.val at hE
  simp only at hE
  go_enter Try.func83, Try.ntmps83
  (go_wp2_with fail; (with_reducible refine (new_calls _).mono ?_); rintro e w' ⟨p, f, c, rfl, hW, hx, h1, h2, h3⟩)
  (go_wp2_with fail; (with_reducible refine (H p f c _ hW).mono ?_); rintro e w' ⟨v1, v2, rfl, hf, hw, hy⟩)
  obtain ⟨A1, C1, rfl, _, _⟩ := own_form hf
  obtain ⟨A2, C2, rfl, _, _⟩ := own_form hw
  obtain ⟨g, rfl, c0, c1, c2⟩ := fl_at hf (j := 0) rfl (by decide)
  simp only [List.length_cons, List.length_nil, Nat.zero_add, Nat.zero_mul] at *
  go_wp2_with fail
  go_ret
  exact ⟨by rw [show Fl.same ⟨3, ⟨#[117, 115, 100]⟩, 1⟩ ⟨3, ⟨#[117, 115, 100]⟩, 1⟩ = true by decide]; rfl, (by repeat' (first | (with_reducible exact Ext.refl _) | (with_reducible assumption) | (with_reducible refine Ext.alloc ?_ _) | (with_reducible refine Ext.drew ?_) | (with_reducible refine Ext.drewN ?_ _) | (with_reducible refine Ext.setCell ?_ (by first | exact Nat.le_refl _ | (simp; done) | (simp; omega) | omega) _) | (with_reducible refine Ext.trans ?_ (by assumption))))⟩

end Go.Proofs.Ytgjjngkmbplijaa

/- What small contracts pay: helps of the laws of chapter 10. -/
namespace Go.Proofs.Ytgjjngkmbplijaa
open Go.RowKit
set_option linter.unusedSimpArgs false
set_option linter.unusedVariables false

def usdB : ByteArray := ⟨#[117, 115, 100]⟩
def eurB : ByteArray := ⟨#[101, 117, 114]⟩
theorem usd_name : isName ⟨#[117, 115, 100]⟩ = true := by decide +kernel
theorem eur_name : isName ⟨#[101, 117, 114]⟩ = true := by decide +kernel
theorem ofV_const {a : Int} (F : FixL) (d : Int) (h : Vd a = true) : (Ob.const a).ofV F d = ⟨a, true, 0⟩ := by
  rw [ofV_ok F d (o := .const a) h (by simp [Ob.nodes]) (by simp [Ob.depth])]; rfl
section
variable {F : FixL} {C : ChL} {id : ByteArray} {t : Te} {d k a : Int} {st : CSt}
theorem sk_over (h : Vd a = true) (h2 : (mulS k a).2 = false) : (Te.scale (.const a) t).walk F C id d k st = (6, st) := by
  have e := ofV_const F d h
  rw [sc_o (by rw [e]) (by rw [e]) (by rw [e]; exact h2)]
theorem sk_zero (h : Vd a = true) (h2 : (mulS k a).2 = true) (h3 : (mulS k a).1 = 0) : (Te.scale (.const a) t).walk F C id d k st = (0, st) := by
  have e := ofV_const F d h
  rw [sc_z (by rw [e]) (by rw [e]) (by rw [e]; exact h2) (by rw [e]; exact h3)]
theorem sk_go (h : Vd a = true) (h2 : (mulS k a).2 = true) (h3 : (mulS k a).1 ≠ 0) : (Te.scale (.const a) t).walk F C id d k st = t.walk F C id d (mulS k a).1 st := by
  have e := ofV_const F d h
  rw [sc_g (by rw [e]) (by rw [e]) (by rw [e]; exact h2) (by rw [e]; exact h3), e]
theorem mulS_yes {a b : Int} (h : Vd a = true) (h' : Vd b = true) (h2 : Vd (a * b) = true) : mulS a b = (a * b, true) := by simp only [mulS, h, h', h2, and_self, if_true]
end

end Go.Proofs.Ytgjjngkmbplijaa
