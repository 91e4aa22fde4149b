/- The walk of the law ValueOver. -/
import Derived.Test.YtgjjngkmbplijaaZVa

namespace Go.Proofs.Ytgjjngkmbplijaa
open Go.RowKit
set_option linter.unusedSimpArgs false
set_option linter.unusedVariables false

theorem Vd_of {n : Int} (h1 : -1000000000000 ≤ n) (h2 : n ≤ 1000000000000) : Vd n = true := (Vd_iff n).2 ⟨h1, h2⟩
theorem checked_ok {o : Ob} (h : o.formed = true) (h1 : o.nodes ≤ 60) (h2 : o.depth ≤ 12) : o.checked = 0 := by
  unfold Ob.checked
  rw [if_pos h, if_neg (by omega)]
theorem ofV_ok {o : Ob} (F : FixL) (d : Int) (h : o.formed = true) (h1 : o.nodes ≤ 60) (h2 : o.depth ≤ 12) : o.ofV F d = o.value F d := by
  unfold Ob.ofV; rw [if_pos (checked_ok h h1 h2)]
def bx : ByteArray := ⟨#[120]⟩
theorem over_mul {n : Int} (h1 : 2 ≤ n) (h2 : n ≤ 1000) : mulS 1000000000000 n = (0, false) :=
  mulS_o ((Vd_false _).2 (by omega))

def overL (n : Int) : Ob := .add (.fix bx) (.mul (.const 1000000000000) (.const n))
def overR (n : Int) : Ob := .add (.mul (.const 1000000000000) (.const n)) (.fix bx)
theorem over_l {n : Int} (h1 : 2 ≤ n) (h2 : n ≤ 1000) : (overL n).ofV [] 3 = ⟨0, false, 6⟩ ∧ (overR n).ofV [] 3 = ⟨0, false, 6⟩ := by
  have hv : Vd n = true := Vd_of (by omega) (by omega)
  have hM : Vd 1000000000000 = true := by decide
  constructor
  · rw [ofV_ok _ _ (by simp [overL, Ob.formed, hv, hM, bx, name_x]) (by simp [overL, Ob.nodes]) (by simp [overL, Ob.depth])]
    show pairK addS ⟨0, false, 0⟩ (pairK mulS ⟨1000000000000, true, 0⟩ ⟨n, true, 0⟩) = _
    rw [pairK_ok (a := ⟨1000000000000, true, 0⟩) (b := ⟨n, true, 0⟩) rfl rfl rfl rfl]
    simp only [over_mul h1 h2]
    rfl
  · rw [ofV_ok _ _ (by simp [overR, Ob.formed, hv, hM, bx, name_x]) (by simp [overR, Ob.nodes]) (by simp [overR, Ob.depth])]
    show pairK addS (pairK mulS ⟨1000000000000, true, 0⟩ ⟨n, true, 0⟩) ⟨0, false, 0⟩ = _
    rw [pairK_ok (a := ⟨1000000000000, true, 0⟩) (b := ⟨n, true, 0⟩) rfl rfl rfl rfl]
    simp only [over_mul h1 h2]
    rfl
def less (n : Int) : Ob := .add (.const 1000000000000) (.neg (.const n))
theorem less_v {n : Int} (h1 : 2 ≤ n) (h2 : n ≤ 1000) : (less n).ofV [] 3 = ⟨1000000000000 - n, true, 0⟩ := by
  have hv : Vd n = true := Vd_of (by omega) (by omega)
  have hM : Vd 1000000000000 = true := by decide
  have hN : Vd (-n) = true := Vd_of (by omega) (by omega)
  have hS : Vd (1000000000000 + -n) = true := Vd_of (by omega) (by omega)
  rw [ofV_ok _ _ (by simp [less, Ob.formed, hv, hM]) (by simp [less, Ob.nodes]) (by simp [less, Ob.depth])]
  simp only [less, Ob.value]
  rw [negK_ok rfl rfl]
  simp only [negS_yes hv, toldK_yes]
  rw [pairK_ok rfl rfl rfl rfl]
  simp only [addS, hM, hN, hS, if_true, and_self, toldK_yes]
  rfl

set_option maxRecDepth 100000 in
set_option maxHeartbeats 800000 in
theorem valueOver_walk (n : Int) (left : Bool) (w : World) (w0 : (Lit.int .i64 n).wf = true) :
    Calls Try.prog 13 #[.int .i64 n, .bool left] w fun e w' => e = .returned (.bool true) ∧ Ext w w' := by
  have b1 := i64_of w0
  have m1 := within_lo n 100 (by omega)
  have m2 := within_hi n 100 (by omega)
  clear w0
  generalize hq : n % 100 = q at *
  have HL := over_l (n := 2 + q) (by omega) (by omega)
  have HS := less_v (n := 2 + q) (by omega) (by omega)
  have hsz : bx.size ≤ 1000 := by decide
  cases left with
  | true =>
    have H1 := fun p f c w' hW => vOf_calls p f c [] [] 3 (overL (2 + q)) w' ⟨hsz, ⟨by omega, by omega⟩, ⟨by omega, by omega⟩⟩ (by simp [overL, Ob.nodes]) hW
    have H2 := fun p f c w' hW => vOf_calls p f c [] [] 3 (less (2 + q)) w' ⟨⟨by omega, by omega⟩, ⟨by omega, by omega⟩⟩ (by simp [less, Ob.nodes]) hW
    have e1 := Lib.hid (show (1000000000000 : Int) - (2 + q) = 1000000000000 - (2 + q) from rfl)
    rw [HL.1] at H1
    rw [HS] at H2
    simp only [overL, less, Ob.val, bx] at H1 H2
    clear HL HS
    go_enter Try.func13, Try.ntmps13
    (go_wp2_with fail; (with_reducible refine (new_calls _).mono ?_); rintro e w' ⟨p, f, c, rfl, hW, hx, h1, h2, h3⟩)
    (go_wp2_with fail; (with_reducible refine (within_calls _ _ _ (by omega) (by omega) b1.1 b1.2).mono ?_); rintro e w' ⟨rfl, rfl⟩)
    rw [hq]
    (go_wp2_with fail; (with_reducible refine (H1 p f c _ (hW.ext ((by repeat' (first | (with_reducible exact Ext.refl _) | (with_reducible assumption) | (with_reducible refine Ext.alloc ?_ _) | (with_reducible refine Ext.drew ?_) | (with_reducible refine Ext.drewN ?_ _) | (with_reducible refine Ext.setCell ?_ (by first | exact Nat.le_refl _ | (simp; done) | (simp; omega) | omega) _) | (with_reducible refine Ext.trans ?_ (by assumption))))))).mono ?_); rintro e w' ⟨rfl, hy⟩)
    (go_wp2_with fail; (with_reducible refine (H2 p f c _ (hW.ext ((by repeat' (first | (with_reducible exact Ext.refl _) | (with_reducible assumption) | (with_reducible refine Ext.alloc ?_ _) | (with_reducible refine Ext.drew ?_) | (with_reducible refine Ext.drewN ?_ _) | (with_reducible refine Ext.setCell ?_ (by first | exact Nat.le_refl _ | (simp; done) | (simp; omega) | omega) _) | (with_reducible refine Ext.trans ?_ (by assumption))))))).mono ?_); rintro e w' ⟨rfl, hz⟩)
    go_wp2_with (go_at_call 63; (with_reducible refine (wakes09_calls _).mono ?_); rintro e w' ⟨rfl, hv⟩)
    go_ret
    exact ⟨rfl, (by repeat' (first | (with_reducible exact Ext.refl _) | (with_reducible assumption) | (with_reducible refine Ext.alloc ?_ _) | (with_reducible refine Ext.drew ?_) | (with_reducible refine Ext.drewN ?_ _) | (with_reducible refine Ext.setCell ?_ (by first | exact Nat.le_refl _ | (simp; done) | (simp; omega) | omega) _) | (with_reducible refine Ext.trans ?_ (by assumption))))⟩
  | false =>
    have H1 := fun p f c w' hW => vOf_calls p f c [] [] 3 (overR (2 + q)) w' ⟨⟨⟨by omega, by omega⟩, ⟨by omega, by omega⟩⟩, hsz⟩ (by simp [overR, Ob.nodes]) hW
    have H2 := fun p f c w' hW => vOf_calls p f c [] [] 3 (less (2 + q)) w' ⟨⟨by omega, by omega⟩, ⟨by omega, by omega⟩⟩ (by simp [less, Ob.nodes]) hW
    have e1 := Lib.hid (show (1000000000000 : Int) - (2 + q) = 1000000000000 - (2 + q) from rfl)
    rw [HL.2] at H1
    rw [HS] at H2
    simp only [overR, less, Ob.val, bx] at H1 H2
    clear HL HS
    go_enter Try.func13, Try.ntmps13
    (go_wp2_with fail; (with_reducible refine (new_calls _).mono ?_); rintro e w' ⟨p, f, c, rfl, hW, hx, h1, h2, h3⟩)
    (go_wp2_with fail; (with_reducible refine (within_calls _ _ _ (by omega) (by omega) b1.1 b1.2).mono ?_); rintro e w' ⟨rfl, rfl⟩)
    rw [hq]
    (go_wp2_with fail; (with_reducible refine (H1 p f c _ (hW.ext ((by repeat' (first | (with_reducible exact Ext.refl _) | (with_reducible assumption) | (with_reducible refine Ext.alloc ?_ _) | (with_reducible refine Ext.drew ?_) | (with_reducible refine Ext.drewN ?_ _) | (with_reducible refine Ext.setCell ?_ (by first | exact Nat.le_refl _ | (simp; done) | (simp; omega) | omega) _) | (with_reducible refine Ext.trans ?_ (by assumption))))))).mono ?_); rintro e w' ⟨rfl, hy⟩)
    (go_wp2_with fail; (with_reducible refine (H2 p f c _ (hW.ext ((by repeat' (first | (with_reducible exact Ext.refl _) | (with_reducible assumption) | (with_reducible refine Ext.alloc ?_ _) | (with_reducible refine Ext.drew ?_) | (with_reducible refine Ext.drewN ?_ _) | (with_reducible refine Ext.setCell ?_ (by first | exact Nat.le_refl _ | (simp; done) | (simp; omega) | omega) _) | (with_reducible refine Ext.trans ?_ (by assumption))))))).mono ?_); rintro e w' ⟨rfl, hz⟩)
    go_wp2_with (go_at_call 63; (with_reducible refine (wakes09_calls _).mono ?_); rintro e w' ⟨rfl, hv⟩)
    go_ret
    exact ⟨rfl, (by repeat' (first | (with_reducible exact Ext.refl _) | (with_reducible assumption) | (with_reducible refine Ext.alloc ?_ _) | (with_reducible refine Ext.drew ?_) | (with_reducible refine Ext.drewN ?_ _) | (with_reducible refine Ext.setCell ?_ (by first | exact Nat.le_refl _ | (simp; done) | (simp; omega) | omega) _) | (with_reducible refine Ext.trans ?_ (by assumption))))⟩

end Go.Proofs.Ytgjjngkmbplijaa
