/- The walk of the law CentsLaws. -/
import Derived.Test.YtnlkfdbmedklaaaLaw02
namespace Go.Proofs.Ytnlkfdbmedklaaa
open Go.RowKit
set_option linter.unusedSimpArgs false
set_option linter.unusedVariables false

set_option maxRecDepth 100000 in
set_option maxHeartbeats 400000 in
theorem centsLaws_walk (a0 a1 a2 how : Int) (w : World) (w0 : (Lit.int .i64 a0).wf = true) (w1 : (Lit.int .i64 a1).wf = true) (w2 : (Lit.int .i64 a2).wf = true) (w3 : (Lit.int .i64 how).wf = true) :
    Calls Try.prog 4 #[.int .i64 a0, .int .i64 a1, .int .i64 a2, .int .i64 how] w fun e w' => e = .returned (.bool true) ∧ Ext w w' := by
  have b0 := i64_of w0
  have b1 := i64_of w1
  have b2 := i64_of w2
  have b3 := i64_of w3
  clear w0 w1 w2 w3
  go_enter Try.func4, Try.ntmps4
  have t5 := tdiv_rng how 5 b3.1 b3.2 (by omega)
  have t25 := tdiv_rng how 25 b3.1 b3.2 (by omega)
  (go_wp2_with fail; (with_reducible refine (near_calls _ _ _ b0.1 b0.2 b3.1 b3.2).mono ?_); rintro e w' ⟨a, al, ah, rfl, rfl⟩)
  (go_wp2_with fail; (with_reducible refine (near_calls _ _ _ b1.1 b1.2 t5.1 t5.2).mono ?_); rintro e w' ⟨b, bl, bh, rfl, rfl⟩)
  (go_wp2_with fail; (with_reducible refine (near_calls _ _ _ b2.1 b2.2 t25.1 t25.2).mono ?_); rintro e w' ⟨c, cl, ch, rfl, rfl⟩)
  clear t5 t25 b0 b1 b2 b3 al ah bl bh cl ch
  have F1 := addS_comm a b
  have F2 := mulS_comm a b
  have hdist : ∀ _ : (addS b c).2 = true ∧ (mulS a (addS b c).1).2 = true ∧ (mulS a b).2 = true ∧ (mulS a c).2 = true ∧ (addS (mulS a b).1 (mulS a c).1).2 = true,
      ((mulS a (addS b c).1).1 != (addS (mulS a b).1 (mulS a c).1).1) = false := by
    rintro ⟨h1, h2, h3, h4, h5⟩
    obtain ⟨_, _, _, e1⟩ := addS_ok h1
    obtain ⟨_, _, _, e2⟩ := mulS_ok h2
    obtain ⟨_, _, _, e3⟩ := mulS_ok h3
    obtain ⟨_, _, _, e4⟩ := mulS_ok h4
    obtain ⟨_, _, _, e5⟩ := addS_ok h5
    rw [e5, e2, e3, e4, e1]
    simp [Int.mul_add]
  have HD := Lib.hid hdist
  clear hdist
  have v1 : Vd 1 = true := by decide
  have v0 : Vd 0 = true := by decide
  cases ha : Vd a with
  | false =>
    have hone : mulS a 1 = (0, false) := mulS_l ha
    have hzero : mulS a 0 = (0, false) := mulS_l ha
    have hab : addS a b = (0, false) := addS_l ha
    have hm : mulS a b = (0, false) := mulS_l ha
    have hm2 : mulS a (addS b c).1 = (0, false) := mulS_l ha
    clear HD v1 v0
    go_wp2_with (first | (go_at_call 9; (with_reducible refine (add_calls _ _ _).mono ?_); rintro e w' ⟨rfl, rfl⟩; unfold retIB) | (go_at_call 10; (with_reducible refine (mul_calls _ _ _).mono ?_); rintro e w' ⟨rfl, rfl⟩; unfold retIB) | (go_at_call 13; (with_reducible refine (neg_calls _ _).mono ?_); rintro e w' ⟨rfl, rfl⟩; unfold retIB) | (go_at_call 14; (with_reducible refine (valid_calls _ _).mono ?_); rintro e w' ⟨rfl, rfl⟩) | (go_at_call 11; (with_reducible refine (wakes_calls _).mono ?_); rintro e w' ⟨rfl, rfl⟩))
    all_goals
      go_ret
      exact ⟨rfl, Ext.refl _⟩
  | true =>
    have hone : mulS a 1 = (a, true) := by rw [mulS_t ha v1, Int.mul_one, toldS_yes ha]
    have hzero : mulS a 0 = (0, true) := by rw [mulS_t ha v0, Int.mul_zero, toldS_yes v0]
    clear v1 v0
    cases hs : (addS a b).2 with
    | false =>
      have hab := addS_no hs
      clear hs
      go_wp2_with (first | (go_at_call 9; (with_reducible refine (add_calls _ _ _).mono ?_); rintro e w' ⟨rfl, rfl⟩; unfold retIB) | (go_at_call 10; (with_reducible refine (mul_calls _ _ _).mono ?_); rintro e w' ⟨rfl, rfl⟩; unfold retIB) | (go_at_call 13; (with_reducible refine (neg_calls _ _).mono ?_); rintro e w' ⟨rfl, rfl⟩; unfold retIB) | (go_at_call 14; (with_reducible refine (valid_calls _ _).mono ?_); rintro e w' ⟨rfl, rfl⟩) | (go_at_call 11; (with_reducible refine (wakes_calls _).mono ?_); rintro e w' ⟨rfl, rfl⟩))
      all_goals first
        | (go_ret; exact ⟨rfl, Ext.refl _⟩)
        | (exfalso; have := HD.out ⟨by assumption, by assumption, by assumption, by assumption, by assumption⟩; simp_all)
    | true =>
      obtain ⟨_, hb, hab, e1⟩ := addS_ok hs
      have e2 := negS_yes hb
      have hnb : Vd (-b) = true := by have := (Vd_iff b).1 hb; rw [Vd_iff]; omega
      have e3 : addS (a + b) (-b) = (a, true) := by
        rw [addS_t hab hnb, show a + b + -b = a from by omega, toldS_yes ha]
      clear hs hnb
      go_wp2_with (first | (go_at_call 9; (with_reducible refine (add_calls _ _ _).mono ?_); rintro e w' ⟨rfl, rfl⟩; unfold retIB) | (go_at_call 10; (with_reducible refine (mul_calls _ _ _).mono ?_); rintro e w' ⟨rfl, rfl⟩; unfold retIB) | (go_at_call 13; (with_reducible refine (neg_calls _ _).mono ?_); rintro e w' ⟨rfl, rfl⟩; unfold retIB) | (go_at_call 14; (with_reducible refine (valid_calls _ _).mono ?_); rintro e w' ⟨rfl, rfl⟩) | (go_at_call 11; (with_reducible refine (wakes_calls _).mono ?_); rintro e w' ⟨rfl, rfl⟩))
      all_goals first
        | (go_ret; exact ⟨rfl, Ext.refl _⟩)
        | (exfalso; have := HD.out ⟨by assumption, by assumption, by assumption, by assumption, by assumption⟩; simp_all)

end Go.Proofs.Ytnlkfdbmedklaaa
