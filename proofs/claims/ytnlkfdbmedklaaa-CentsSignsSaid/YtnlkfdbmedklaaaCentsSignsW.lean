/- The walk of the law CentsSigns. -/
import Derived.Test.YtnlkfdbmedklaaaLaw02
namespace Go.Proofs.Ytnlkfdbmedklaaa
open Go.RowKit
set_option linter.unusedSimpArgs false
set_option linter.unusedVariables false

set_option maxRecDepth 100000 in
set_option maxHeartbeats 400000 in
theorem centsSigns_walk (a0 a1 how : Int) (w : World) (w0 : (Lit.int .i64 a0).wf = true) (w1 : (Lit.int .i64 a1).wf = true) (w2 : (Lit.int .i64 how).wf = true) :
    Calls Try.prog 7 #[.int .i64 a0, .int .i64 a1, .int .i64 how] w fun e w' => e = .returned (.bool true) ∧ Ext w w' := by
  have b0 := i64_of w0
  have b1 := i64_of w1
  have b2 := i64_of w2
  clear w0 w1 w2
  go_enter Try.func7, Try.ntmps7
  have t5 := tdiv_rng how 5 b2.1 b2.2 (by omega)
  (go_wp2_with fail; (with_reducible refine (near_calls _ _ _ b0.1 b0.2 b2.1 b2.2).mono ?_); rintro e w' ⟨a, al, ah, rfl, rfl⟩)
  (go_wp2_with fail; (with_reducible refine (near_calls _ _ _ b1.1 b1.2 t5.1 t5.2).mono ?_); rintro e w' ⟨b, bl, bh, rfl, rfl⟩)
  clear t5 b0 b1 b2 al ah bl bh
  have s1 : (signI (a * b) != wrap64 (signI a * signI b)) = false := by
    rw [signI_mul]
    have h : -1 ≤ signI a * signI b ∧ signI a * signI b ≤ 1 := by rw [← signI_mul]; exact signI_rng _
    rw [show wrap64 (signI a * signI b) = signI a * signI b from IntWalk.wrap64_in _ ⟨by omega, by omega⟩]
    simp
  have hm : mulS a b = (a * b, true) ∨ mulS a b = (0, false) := by
    cases h : (mulS a b).2
    · exact .inr (mulS_no h)
    · exact .inl (mulS_ok h).2.2.2
  cases ha : Vd a with
  | false =>
    have hm : mulS a b = (0, false) := mulS_l ha
    have hn : negS a = (0, false) := negS_no ha
    have h1 : addS a 0 = (0, false) := addS_l ha
    have h2 : mulS 0 a = (0, false) := mulS_r ha
    have h3 := sumFrom_one ha
    clear s1
    go_wp2_with (first | (go_at_call 9; (with_reducible refine (add_calls _ _ _).mono ?_); rintro e w' ⟨rfl, rfl⟩; unfold retIB) | (go_at_call 10; (with_reducible refine (mul_calls _ _ _).mono ?_); rintro e w' ⟨rfl, rfl⟩; unfold retIB) | (go_at_call 13; (with_reducible refine (neg_calls _ _).mono ?_); rintro e w' ⟨rfl, rfl⟩; unfold retIB) | (go_at_call 14; (with_reducible refine (valid_calls _ _).mono ?_); rintro e w' ⟨rfl, rfl⟩) | (go_at_call 21; (with_reducible refine (sign_calls _ _).mono ?_); rintro e w' ⟨rfl, rfl⟩) | (go_at_call 11; (with_reducible refine (wakes_calls _).mono ?_); rintro e w' ⟨rfl, rfl⟩) | (go_at_call 16; (with_reducible refine (sum_calls _ 1 1 [a] _ (Rd.new _ #[.int .i64 a] _ 1 1 rfl) (by omega)).mono ?_); rintro e w' ⟨rfl, rfl⟩; unfold retIB))
    go_ret
    exact ⟨rfl, (Ext.refl _).alloc _⟩
  | true =>
    have v := (Vd_iff a).1 ha
    have hn : negS a = (-a, true) := negS_yes ha
    have hna : Vd (-a) = true := by rw [Vd_iff]; omega
    have hn2 : negS (-a) = (a, true) := by rw [negS_yes hna, Int.neg_neg]
    have h0 : addS a (-a) = (0, true) := by
      have : a + -a = 0 := by omega
      rw [addS_t ha hna, this, toldS_yes (by decide)]
    have s2 := signI_rng a
    have s3 := s2.1
    have s4 := s2.2
    have s5 : (signI (-a) != -signI a) = false := by rw [signI_opp]; simp
    clear v hna s2
    rcases hm with hm | hm
    all_goals
      go_wp2_with (first | (go_at_call 9; (with_reducible refine (add_calls _ _ _).mono ?_); rintro e w' ⟨rfl, rfl⟩; unfold retIB) | (go_at_call 10; (with_reducible refine (mul_calls _ _ _).mono ?_); rintro e w' ⟨rfl, rfl⟩; unfold retIB) | (go_at_call 13; (with_reducible refine (neg_calls _ _).mono ?_); rintro e w' ⟨rfl, rfl⟩; unfold retIB) | (go_at_call 14; (with_reducible refine (valid_calls _ _).mono ?_); rintro e w' ⟨rfl, rfl⟩) | (go_at_call 21; (with_reducible refine (sign_calls _ _).mono ?_); rintro e w' ⟨rfl, rfl⟩) | (go_at_call 11; (with_reducible refine (wakes_calls _).mono ?_); rintro e w' ⟨rfl, rfl⟩) )
      go_ret
      exact ⟨rfl, Ext.refl _⟩

end Go.Proofs.Ytnlkfdbmedklaaa
