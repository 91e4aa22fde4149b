/- The walk of the law CentsEdges. -/
import Derived.Test.YtnlkfdbmedklaaaLaw02
namespace Go.Proofs.Ytnlkfdbmedklaaa
open Go.RowKit
set_option linter.unusedSimpArgs false
set_option linter.unusedVariables false

theorem edge_div (k : Int) (h1 : 1 ≤ k) (h2 : k ≤ 1000000) : ∃ q, 1000000000000 / k = q ∧ 0 ≤ q ∧ q ≤ 1000000000000 ∧ 0 ≤ q * k ∧ q * k ≤ 1000000000000 ∧ 1000000000000 < (q + 1) * k ∧ -q * k = -(q * k) ∧ 1000000 ≤ q := by
  refine ⟨_, rfl, Int.ediv_nonneg (by omega) (by omega), Int.ediv_le_self _ (by omega), ?_, ?_, ?_, ?_, ?_⟩
  · exact Int.mul_nonneg (Int.ediv_nonneg (by omega) (by omega)) (by omega)
  · exact Int.ediv_mul_le _ (by omega)
  · exact Int.lt_ediv_add_one_mul_self _ (by omega)
  · rw [Int.neg_mul]
  · exact (Int.le_ediv_iff_mul_le (by omega)).2 (by omega)

set_option maxRecDepth 100000 in
set_option maxHeartbeats 400000 in
theorem centsEdges_walk (a0 : Int) (w : World) (w0 : (Lit.int .i64 a0).wf = true) :
    Calls Try.prog 3 #[.int .i64 a0] w fun e w' => e = .returned (.bool true) ∧ Ext w w' := by
  have b0 := i64_of w0
  clear w0
  go_enter Try.func3, Try.ntmps3
  (go_wp2_with fail; (with_reducible refine (within_calls _ _ _ (by omega) (by omega) b0.1 b0.2).mono ?_); rintro e w' ⟨rfl, rfl⟩)
  have n1 := within_lo a0 1000000000001 (by omega)
  have n2 := within_hi a0 1000000000001 (by omega)
  generalize a0 % 1000000000001 = n at *
  clear b0
  have e1 : addS (1000000000000 - n) n = (1000000000000, true) := by
    rw [addS_t (by rw [Vd_iff]; omega) (by rw [Vd_iff]; omega), show 1000000000000 - n + n = 1000000000000 by omega, toldS_yes (by decide)]
  have e2 : (addS (1000000000000 - n) (n + 1)).2 = false := by
    cases h : (addS (1000000000000 - n) (n + 1)).2 with
    | false => rfl
    | true => have := (Vd_iff _).1 (addS_ok h).2.2.1; omega
  have e3 : addS (-1000000000000 + n) (-n) = (-1000000000000, true) := by
    rw [addS_t (by rw [Vd_iff]; omega) (by rw [Vd_iff]; omega), show -1000000000000 + n + -n = -1000000000000 by omega, toldS_yes (by decide)]
  have e4 : (addS (-1000000000000 + n) (-n - 1)).2 = false := by
    cases h : (addS (-1000000000000 + n) (-n - 1)).2 with
    | false => rfl
    | true => have := (Vd_iff _).1 (addS_ok h).2.2.1; omega
  have k1 : 1 ≤ 1 + n % 1000000 := by omega
  have k2 : 1 + n % 1000000 ≤ 1000000 := by omega
  obtain ⟨q, hq, q1, q2, q3, q4, q5, q6, q7⟩ := edge_div _ k1 k2
  have e5 : mulS q (1 + n % 1000000) = (q * (1 + n % 1000000), true) := by
    rw [mulS_t (by rw [Vd_iff]; omega) (by rw [Vd_iff]; omega), toldS_yes (by rw [Vd_iff]; omega)]
  have e6 : (mulS (q + 1) (1 + n % 1000000)).2 = false := by
    cases h : (mulS (q + 1) (1 + n % 1000000)).2 with
    | false => rfl
    | true => have := (Vd_iff _).1 (mulS_ok h).2.2.1; omega
  have e7 : mulS (-q) (1 + n % 1000000) = (-(q * (1 + n % 1000000)), true) := by
    rw [mulS_t (by rw [Vd_iff]; omega) (by rw [Vd_iff]; omega), toldS_yes (by rw [Vd_iff, q6]; omega), q6]
  clear q5 q6
  go_wp2_with (first | (go_at_call 9; (with_reducible refine (add_calls _ _ _).mono ?_); rintro e w' ⟨rfl, rfl⟩; unfold retIB) | (go_at_call 10; (with_reducible refine (mul_calls _ _ _).mono ?_); rintro e w' ⟨rfl, rfl⟩; unfold retIB) | (go_at_call 11; (with_reducible refine (wakes_calls _).mono ?_); rintro e w' ⟨rfl, rfl⟩))
  go_ret
  exact ⟨rfl, Ext.refl _⟩

end Go.Proofs.Ytnlkfdbmedklaaa
