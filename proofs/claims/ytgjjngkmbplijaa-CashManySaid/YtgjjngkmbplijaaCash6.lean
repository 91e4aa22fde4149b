/- Package cash: into, Of; the law's 'wakes'. -/
import Derived.Test.YtgjjngkmbplijaaCash5
namespace Go.Proofs.Ytgjjngkmbplijaa
open Go.RowKit
set_option linter.unusedSimpArgs false
set_option linter.unusedVariables false

theorem Vd_neg {k : Int} (h : Vd k = true) : Vd (-k) = true := by
  have := (Vd_iff k).1 h
  exact (Vd_iff _).2 (by omega)

set_option maxRecDepth 100000 in
set_option maxHeartbeats 6400000 in
theorem cinto_calls (base b p f c : Nat) (F : FixL) (C : ChL) (id : ByteArray) (n : Nat) : ∀ (t : Te), SizeOf.sizeOf t < n → t.wf → t.nodes ≤ 2 ^ 32 → IntoH base b p f c F C id t := by
  induction n with
  | zero => intro t h; omega
  | succ n ih =>
    intro t hs hwf hn w v1 v2 st d k h hk hR
    obtain ⟨R1, R2⟩ := hR
    have hkk := (Vd_iff k).1 hk
    have kl := hkk.1
    have kh := hkk.2
    clear hkk
    cases t with
    | zero =>
      simp only [Te.val, Te.walk]
      clear ih
      go_enter Try.func120, Try.ntmps120
      go_wp2
      go_ret
      exact ⟨v1, v2, rfl, h.ext ((by repeat' (first | (with_reducible exact Ext.refl _) | (with_reducible assumption) | (with_reducible refine Ext.alloc ?_ _) | (with_reducible refine Ext.drew ?_) | (with_reducible refine Ext.drewN ?_ _) | (with_reducible refine Ext.setCell ?_ (by first | exact Nat.le_refl _ | (simp; done) | (simp; omega) | omega) _) | (with_reducible refine Ext.trans ?_ (by assumption))))), Moved.of_ext ((by repeat' (first | (with_reducible exact Ext.refl _) | (with_reducible assumption) | (with_reducible refine Ext.alloc ?_ _) | (with_reducible refine Ext.drew ?_) | (with_reducible refine Ext.drewN ?_ _) | (with_reducible refine Ext.setCell ?_ (by first | exact Nat.le_refl _ | (simp; done) | (simp; omega) | omega) _) | (with_reducible refine Ext.trans ?_ (by assumption))))) b _ _⟩
    | odd v =>
      simp only [Te.walk]
      clear ih
      rcases hwf with rfl | ⟨t, x, rfl, h1, h2, h3, h4, h5, h6, h7, h8⟩
      all_goals
        simp only [Te.val]
        go_enter Try.func120, Try.ntmps120
        go_wp2
        go_ret
        exact ⟨v1, v2, rfl, h.ext ((by repeat' (first | (with_reducible exact Ext.refl _) | (with_reducible assumption) | (with_reducible refine Ext.alloc ?_ _) | (with_reducible refine Ext.drew ?_) | (with_reducible refine Ext.drewN ?_ _) | (with_reducible refine Ext.setCell ?_ (by first | exact Nat.le_refl _ | (simp; done) | (simp; omega) | omega) _) | (with_reducible refine Ext.trans ?_ (by assumption))))), Moved.of_ext ((by repeat' (first | (with_reducible exact Ext.refl _) | (with_reducible assumption) | (with_reducible refine Ext.alloc ?_ _) | (with_reducible refine Ext.drew ?_) | (with_reducible refine Ext.drewN ?_ _) | (with_reducible refine Ext.setCell ?_ (by first | exact Nat.le_refl _ | (simp; done) | (simp; omega) | omega) _) | (with_reducible refine Ext.trans ?_ (by assumption))))) b _ _⟩
    | one s =>
      simp only [Te.val, Te.walk]
      simp only [Te.nodes] at R1 R2
      clear ih
      obtain ⟨k0, k1, k2, k3, kf, kb⟩ := h.cells
      have h63 : st.1.length + 1 ≤ maxLen := by unfold maxLen; omega
      have hby : (st.1.length + 1) * 32 ≤ 140737488355328 := by omega
      obtain ⟨A2, C2, rfl, hA1, hA2⟩ := own_form h.fl
      have h0 := Lib.hid h
      unfold maxLen at hA2
      clear h
      go_enter Try.func120, Try.ntmps120
      go_wp2_with fail
      go_region_law (refine step_app elemFl (by rfl) _ _ (by rfl) base (.slice A2 st.1.length C2) st.1.length (flCells st.1) (by rfl) (((h0.out.fl.alloc _).alloc _).drew) (some ⟨w.heap.size + 1, 0, none⟩) 1 1 (Fl.mk d s k).cells (by rfl) (by exact Rd.ext (Rd.newAt (by simp) rfl rfl) ((Ext.refl _).drew)) (by simp [Fl.cells, Value.oneCell']) h63 hby (by have := h0.out.bb; simp; omega) ?_; intro A' C' w1 hown1 hg1 hat1; obtain ⟨q3, qf⟩ := (h0.out.ext (w' := ((w.alloc _).alloc _).drew) ((by repeat' (first | (with_reducible exact Ext.refl _) | (with_reducible assumption) | (with_reducible refine Ext.alloc ?_ _) | (with_reducible refine Ext.drew ?_) | (with_reducible refine Ext.drewN ?_ _) | (with_reducible refine Ext.setCell ?_ (by first | exact Nat.le_refl _ | (simp; done) | (simp; omega) | omega) _) | (with_reducible refine Ext.trans ?_ (by assumption)))))).grown1 hg1)
      all_goals
        have hP := Lib.hid ((h0.out.ext (w' := ((w.alloc _).alloc _).drew) ((by repeat' (first | (with_reducible exact Ext.refl _) | (with_reducible assumption) | (with_reducible refine Ext.alloc ?_ _) | (with_reducible refine Ext.drew ?_) | (with_reducible refine Ext.drewN ?_ _) | (with_reducible refine Ext.setCell ?_ (by first | exact Nat.le_refl _ | (simp; done) | (simp; omega) | omega) _) | (with_reducible refine Ext.trans ?_ (by assumption)))))).put1 (Fl.mk d s k) hown1 hg1 hat1)
        clear hown1 hg1 hat1 q3 qf
        go_wp2
        go_ret
        exact ⟨_, v2, rfl, hP.out.1, (Moved.of_ext ((by repeat' (first | (with_reducible exact Ext.refl _) | (with_reducible assumption) | (with_reducible refine Ext.alloc ?_ _) | (with_reducible refine Ext.drew ?_) | (with_reducible refine Ext.drewN ?_ _) | (with_reducible refine Ext.setCell ?_ (by first | exact Nat.le_refl _ | (simp; done) | (simp; omega) | omega) _) | (with_reducible refine Ext.trans ?_ (by assumption))))) b _ _).trans hP.out.2⟩
    | give t =>
      simp only [Te.val, Te.walk]
      simp only [Te.nodes] at R1 R2 hn
      have hT := fun w' (h' : Ext w w') => ih t (by simp at hs; omega) hwf (by omega) w' v1 v2 st d (-k) (h.ext h') (Vd_neg hk) ⟨by omega, by omega⟩
      generalize t.walk F C id d (-k) st = q at *
      have hf := Te.form (show t.wf from hwf)
      generalize t.val = tv at *
      clear ih hs hwf hk
      rcases hf with rfl | ⟨t1, x1, rfl⟩
      all_goals
        go_enter Try.func120, Try.ntmps120
        (go_wp2_with fail; (with_reducible refine (hT _ ((by repeat' (first | (with_reducible exact Ext.refl _) | (with_reducible assumption) | (with_reducible refine Ext.alloc ?_ _) | (with_reducible refine Ext.drew ?_) | (with_reducible refine Ext.drewN ?_ _) | (with_reducible refine Ext.setCell ?_ (by first | exact Nat.le_refl _ | (simp; done) | (simp; omega) | omega) _) | (with_reducible refine Ext.trans ?_ (by assumption)))))).mono ?_); rintro e w' ⟨y1, y2, rfl, hw3, hm3⟩)
        go_wp2
        go_ret
        exact ⟨y1, y2, rfl, hw3, (Moved.of_ext ((by repeat' (first | (with_reducible exact Ext.refl _) | (with_reducible assumption) | (with_reducible refine Ext.alloc ?_ _) | (with_reducible refine Ext.drew ?_) | (with_reducible refine Ext.drewN ?_ _) | (with_reducible refine Ext.setCell ?_ (by first | exact Nat.le_refl _ | (simp; done) | (simp; omega) | omega) _) | (with_reducible refine Ext.trans ?_ (by assumption))))) b _ _).trans hm3⟩
    | whn e t =>
      simp only [Te.val, Te.walk]
      simp only [Te.nodes] at R1 R2 hn
      have hT := fun w' (h' : Ext w w') => ih t (by simp at hs; omega) hwf.2 (by omega) w' v1 v2 st (Max.max d e) k (h.ext h') hk ⟨by omega, by omega⟩
      generalize t.walk F C id (Max.max d e) k st = q at *
      have hf := Te.form hwf.2
      generalize t.val = tv at *
      clear ih hs hwf hk
      have hmx : (d < e ∧ Max.max d e = e) ∨ (e ≤ d ∧ Max.max d e = d) := by omega
      rcases hmx with ⟨g1, g2⟩ | ⟨g1, g2⟩ <;> rcases hf with rfl | ⟨t1, x1, rfl⟩
      all_goals
        rw [g2] at hT
        clear g2
        go_enter Try.func120, Try.ntmps120
        (go_wp2_with fail; (with_reducible refine (hT _ ((by repeat' (first | (with_reducible exact Ext.refl _) | (with_reducible assumption) | (with_reducible refine Ext.alloc ?_ _) | (with_reducible refine Ext.drew ?_) | (with_reducible refine Ext.drewN ?_ _) | (with_reducible refine Ext.setCell ?_ (by first | exact Nat.le_refl _ | (simp; done) | (simp; omega) | omega) _) | (with_reducible refine Ext.trans ?_ (by assumption)))))).mono ?_); rintro e w' ⟨y1, y2, rfl, hw3, hm3⟩)
        go_wp2
        go_ret
        exact ⟨y1, y2, rfl, hw3, (Moved.of_ext ((by repeat' (first | (with_reducible exact Ext.refl _) | (with_reducible assumption) | (with_reducible refine Ext.alloc ?_ _) | (with_reducible refine Ext.drew ?_) | (with_reducible refine Ext.drewN ?_ _) | (with_reducible refine Ext.setCell ?_ (by first | exact Nat.le_refl _ | (simp; done) | (simp; omega) | omega) _) | (with_reducible refine Ext.trans ?_ (by assumption))))) b _ _).trans hm3⟩
    | and l r =>
      simp only [Te.val]
      simp only [Te.nodes] at R1 R2 hn
      have hT := fun w' (h' : Ext w w') => cboth_calls base b p f c F C id l r (ih l (by simp at hs; omega) hwf.1 (by omega)) (ih r (by simp at hs; omega) hwf.2 (by omega)) w' v1 v2 st d k (h.ext h') hk ⟨by omega, by omega⟩
      generalize (Te.and l r).walk F C id d k st = q at *
      have hf := Te.form hwf.1
      have hf2 := Te.form hwf.2
      generalize l.val = lv at *
      generalize r.val = rv at *
      clear ih hs hwf hk
      rcases hf with rfl | ⟨t1, x1, rfl⟩ <;> rcases hf2 with rfl | ⟨t2, x2, rfl⟩
      all_goals
        go_enter Try.func120, Try.ntmps120
        (go_wp2_with fail; (with_reducible refine (hT _ ((by repeat' (first | (with_reducible exact Ext.refl _) | (with_reducible assumption) | (with_reducible refine Ext.alloc ?_ _) | (with_reducible refine Ext.drew ?_) | (with_reducible refine Ext.drewN ?_ _) | (with_reducible refine Ext.setCell ?_ (by first | exact Nat.le_refl _ | (simp; done) | (simp; omega) | omega) _) | (with_reducible refine Ext.trans ?_ (by assumption)))))).mono ?_); rintro e w' ⟨y1, y2, rfl, hw3, hm3⟩)
        go_wp2
        go_ret
        exact ⟨y1, y2, rfl, hw3, (Moved.of_ext ((by repeat' (first | (with_reducible exact Ext.refl _) | (with_reducible assumption) | (with_reducible refine Ext.alloc ?_ _) | (with_reducible refine Ext.drew ?_) | (with_reducible refine Ext.drewN ?_ _) | (with_reducible refine Ext.setCell ?_ (by first | exact Nat.le_refl _ | (simp; done) | (simp; omega) | omega) _) | (with_reducible refine Ext.trans ?_ (by assumption))))) b _ _).trans hm3⟩
    | or s l r =>
      simp only [Te.val]
      simp only [Te.nodes] at R1 R2 hn
      have hT := fun w' (h' : Ext w w') => cchoice_calls base b p f c F C id s l r (ih l (by simp at hs; omega) hwf.2.1 (by omega)) (ih r (by simp at hs; omega) hwf.2.2 (by omega)) hwf.2.1 hwf.2.2 w' v1 v2 st d k (h.ext h') hk ⟨by omega, by omega⟩
      generalize (Te.or s l r).walk F C id d k st = q at *
      have hf := Te.form hwf.2.1
      have hf2 := Te.form hwf.2.2
      generalize l.val = lv at *
      generalize r.val = rv at *
      clear ih hs hwf hk
      rcases hf with rfl | ⟨t1, x1, rfl⟩ <;> rcases hf2 with rfl | ⟨t2, x2, rfl⟩
      all_goals
        go_enter Try.func120, Try.ntmps120
        (go_wp2_with fail; (with_reducible refine (hT _ ((by repeat' (first | (with_reducible exact Ext.refl _) | (with_reducible assumption) | (with_reducible refine Ext.alloc ?_ _) | (with_reducible refine Ext.drew ?_) | (with_reducible refine Ext.drewN ?_ _) | (with_reducible refine Ext.setCell ?_ (by first | exact Nat.le_refl _ | (simp; done) | (simp; omega) | omega) _) | (with_reducible refine Ext.trans ?_ (by assumption)))))).mono ?_); rintro e w' ⟨y1, y2, rfl, hw3, hm3⟩)
        go_wp2
        go_ret
        exact ⟨y1, y2, rfl, hw3, (Moved.of_ext ((by repeat' (first | (with_reducible exact Ext.refl _) | (with_reducible assumption) | (with_reducible refine Ext.alloc ?_ _) | (with_reducible refine Ext.drew ?_) | (with_reducible refine Ext.drewN ?_ _) | (with_reducible refine Ext.setCell ?_ (by first | exact Nat.le_refl _ | (simp; done) | (simp; omega) | omega) _) | (with_reducible refine Ext.trans ?_ (by assumption))))) b _ _).trans hm3⟩
    | scale o t =>
      simp only [Te.val]
      simp only [Te.nodes] at R1 R2 hn
      have hT := fun w' (h' : Ext w w') => cscale_calls base b p f c F C id o t (ih t (by simp at hs; omega) hwf.2 (by omega)) hwf.1 hwf.2 (by omega) w' v1 v2 st d k (h.ext h') hk ⟨by omega, by omega⟩
      generalize (Te.scale o t).walk F C id d k st = q at *
      have hf := Ob.form hwf.1
      have hf2 := Te.form hwf.2
      generalize o.val = lv at *
      generalize t.val = rv at *
      clear ih hs hwf hk
      rcases hf with rfl | ⟨t1, x1, rfl⟩ <;> rcases hf2 with rfl | ⟨t2, x2, rfl⟩
      all_goals
        go_enter Try.func120, Try.ntmps120
        (go_wp2_with fail; (with_reducible refine (hT _ ((by repeat' (first | (with_reducible exact Ext.refl _) | (with_reducible assumption) | (with_reducible refine Ext.alloc ?_ _) | (with_reducible refine Ext.drew ?_) | (with_reducible refine Ext.drewN ?_ _) | (with_reducible refine Ext.setCell ?_ (by first | exact Nat.le_refl _ | (simp; done) | (simp; omega) | omega) _) | (with_reducible refine Ext.trans ?_ (by assumption)))))).mono ?_); rintro e w' ⟨y1, y2, rfl, hw3, hm3⟩)
        go_wp2
        go_ret
        exact ⟨y1, y2, rfl, hw3, (Moved.of_ext ((by repeat' (first | (with_reducible exact Ext.refl _) | (with_reducible assumption) | (with_reducible refine Ext.alloc ?_ _) | (with_reducible refine Ext.drew ?_) | (with_reducible refine Ext.drewN ?_ _) | (with_reducible refine Ext.setCell ?_ (by first | exact Nat.le_refl _ | (simp; done) | (simp; omega) | omega) _) | (with_reducible refine Ext.trans ?_ (by assumption))))) b _ _).trans hm3⟩
    | cond o l r =>
      simp only [Te.val]
      simp only [Te.nodes] at R1 R2 hn
      have hT := fun w' (h' : Ext w w') => ctest_calls base b p f c F C id o l r (ih l (by simp at hs; omega) hwf.2.1 (by omega)) (ih r (by simp at hs; omega) hwf.2.2 (by omega)) hwf.1 hwf.2.1 hwf.2.2 (by omega) w' v1 v2 st d k (h.ext h') hk ⟨by omega, by omega⟩
      generalize (Te.cond o l r).walk F C id d k st = q at *
      have hf0 := Ob.form hwf.1
      have hf := Te.form hwf.2.1
      have hf2 := Te.form hwf.2.2
      generalize o.val = ov at *
      generalize l.val = lv at *
      generalize r.val = rv at *
      clear ih hs hwf hk
      rcases hf0 with rfl | ⟨t0, x0, rfl⟩ <;> rcases hf with rfl | ⟨t1, x1, rfl⟩ <;> rcases hf2 with rfl | ⟨t2, x2, rfl⟩
      all_goals
        go_enter Try.func120, Try.ntmps120
        (go_wp2_with fail; (with_reducible refine (hT _ ((by repeat' (first | (with_reducible exact Ext.refl _) | (with_reducible assumption) | (with_reducible refine Ext.alloc ?_ _) | (with_reducible refine Ext.drew ?_) | (with_reducible refine Ext.drewN ?_ _) | (with_reducible refine Ext.setCell ?_ (by first | exact Nat.le_refl _ | (simp; done) | (simp; omega) | omega) _) | (with_reducible refine Ext.trans ?_ (by assumption)))))).mono ?_); rintro e w' ⟨y1, y2, rfl, hw3, hm3⟩)
        go_wp2
        go_ret
        exact ⟨y1, y2, rfl, hw3, (Moved.of_ext ((by repeat' (first | (with_reducible exact Ext.refl _) | (with_reducible assumption) | (with_reducible refine Ext.alloc ?_ _) | (with_reducible refine Ext.drew ?_) | (with_reducible refine Ext.drewN ?_ _) | (with_reducible refine Ext.setCell ?_ (by first | exact Nat.le_refl _ | (simp; done) | (simp; omega) | omega) _) | (with_reducible refine Ext.trans ?_ (by assumption))))) b _ _).trans hm3⟩

end Go.Proofs.Ytgjjngkmbplijaa
