/- The walk of the law CentsTell. -/
import Derived.Test.YtnlkfdbmedklaaaLaw02
namespace Go.Proofs.Ytnlkfdbmedklaaa
open Go.RowKit
set_option linter.unusedSimpArgs false
set_option linter.unusedVariables false

set_option maxRecDepth 100000 in
set_option maxHeartbeats 400000 in
theorem centsTell_walk (a0 b0 how other : Int) (A0 : Option Addr) (n c : Nat) (l : List Int) (w : World) (w0 : (Lit.int .i64 a0).wf = true) (w1 : (Lit.int .i64 b0).wf = true) (w2 : (Lit.int .i64 how).wf = true) (w3 : (Lit.int .i64 other).wf = true) (w4 : InInts w A0 n c l) :
    Calls Try.prog 6 #[.int .i64 a0, .int .i64 b0, .int .i64 how, .int .i64 other, .slice A0 n c] w fun e w' => e = .returned (.bool true) ∧ Ext w w' := by
  have b1 := i64_of w0
  have b2 := i64_of w1
  have b3 := i64_of w2
  have b4 := i64_of w3
  obtain ⟨hr, hnc, hcm, hwf⟩ := w4
  clear w0 w1 w2 w3
  go_enter Try.func6, Try.ntmps6
  (go_wp2_with fail; (with_reducible refine (near_calls _ _ _ b1.1 b1.2 b3.1 b3.2).mono ?_); rintro e w' ⟨a, al, ah, rfl, rfl⟩)
  (go_wp2_with fail; (with_reducible refine (near_calls _ _ _ b2.1 b2.2 b4.1 b4.2).mono ?_); rintro e w' ⟨b, bl, bh, rfl, rfl⟩)
  clear b1 b2 b4
  have hng : (Vd a = true ∧ negS a = (-a, true) ∧ -1000000000000 ≤ a ∧ a ≤ 1000000000000) ∨ (Vd a = false ∧ negS a = (0, false) ∧ -9223372036854775808 ≤ a ∧ a ≤ 9223372036854775807) := by
    cases h : Vd a with
    | true => have := (Vd_iff a).1 h; exact .inl ⟨rfl, negS_yes h, this.1, this.2⟩
    | false => exact .inr ⟨rfl, negS_no h, al, ah⟩
  have hsg : (a < 0 ∧ signI a = -1) ∨ (0 < a ∧ signI a = 1) ∨ (a = 0 ∧ signI a = 0) := by
    rcases Int.lt_trichotomy a 0 with h | h | h
    · exact .inl ⟨h, signI_neg h⟩
    · exact .inr (.inr ⟨h, signI_zero h⟩)
    · exact .inr (.inl ⟨h, signI_pos h⟩)
  clear al ah
  have Hsg := Lib.hid hsg
  clear hsg
  have hm9 : min n (8 : Int).toNat ≤ 9 := by have : (8 : Int).toNat = 8 := rfl; omega
  rcases hng with ⟨v1, v2, v3, v4⟩ | ⟨v1, v2, v3, v4⟩
  all_goals
    go_wp2_with (first | (go_at_call 9; (with_reducible refine (add_calls _ _ _).mono ?_); rintro e w' ⟨rfl, rfl⟩; unfold retIB) | (go_at_call 17; (with_reducible refine (radd_calls _ _ _).mono ?_); rintro e w' ⟨rfl, rfl⟩; unfold retIB) | (go_at_call 10; (with_reducible refine (mul_calls _ _ _).mono ?_); rintro e w' ⟨rfl, rfl⟩; unfold retIB) | (go_at_call 18; (with_reducible refine (rmul_calls _ _ _).mono ?_); rintro e w' ⟨rfl, rfl⟩; unfold retIB) | (go_at_call 13; (with_reducible refine (neg_calls _ _).mono ?_); rintro e w' ⟨rfl, rfl⟩; unfold retIB) | (go_at_call 14; (with_reducible refine (valid_calls _ _).mono ?_); rintro e w' ⟨rfl, rfl⟩) | (go_at_call 19; (with_reducible refine (rvalid_calls _ _).mono ?_); rintro e w' ⟨rfl, rfl⟩))
    clear v1 v2 bl bh
    (with_reducible refine (cut_calls _ _ _ _ _ _ hr hnc hcm (by omega) (by omega)).mono ?_)
    rintro e w' ⟨v, rfl, hown, hext⟩
    obtain ⟨A, C, rfl, hC1, hC2⟩ := own_form hown
    have hrng : Rng (l.take (min n (8 : Int).toNat)) := fun x hx => i64_of (hwf x (List.mem_of_mem_take hx))
    generalize l.take (min n (8 : Int).toNat) = L at *
    generalize min n (8 : Int).toNat = m at *
    clear hr hnc hcm hwf
    unfold maxLen at hC2
    go_wp2_with fail
    go_loopw [115] (fun i wr => ∃ (k : Nat) (L' : List Int), k ≤ m ∧ i = .int .i64 k ∧ Rng L' ∧ wr.ownsRow w.heap.size 3 1 (.slice A m C) m (ints L') ∧ Ext w wr) (fun i _ => m - (intOf i).toNat)
    case atStart => exact ⟨0, L, Nat.zero_le _, rfl, hrng, hown, hext⟩
    case round =>
      obtain ⟨k, L', hk, rfl, hrng', hown', hext'⟩ := hrel
      by_cases hlt : k < m
      · obtain ⟨g, rfl, hg1, hg2⟩ := own_at hown' hlt
        have hcell := hown'.cellAt k (by omega)
        have hfz := hown'.frozenAt k
        obtain ⟨ad, u, e0, hu, hcc⟩ := (Rd.of_own hown').at1 hlt
        injection e0 with e0
        subst e0
        obtain ⟨x, rfl, x1, x2⟩ := hrng'.at hu
        rw [hu] at hcell
        have hst := fun u => hown'.stored k u
        have HS := Lib.hid hst
        clear hst hcc hu
        go_wp2_with (go_at_call 12; (with_reducible refine (near_calls _ _ _ x1 x2 (rng _).1 (rng _).2).mono ?_); rintro e w' ⟨r, r1, r2, rfl, rfl⟩)
        go_roundw
        case rel => exact ⟨k + 1, L'.set k r, by omega, by go_num, hrng'.set r1 r2, by rw [← ints_set]; exact (HS.out _).1, hext'.setCell hg1 _⟩
        case measure => simp [intOf]; omega
      · clear hown hext hrng L
        have hrd := Rd.of_own hown'
        have hsg := Hsg.out
        rcases hsg with ⟨s1, s2⟩ | ⟨s1, s2⟩ | ⟨s1, s2⟩
        all_goals
          try subst s1
          go_wp2_with (first | (go_at_call 16; (with_reducible refine (sum_calls _ _ _ _ _ hrd (by omega)).mono ?_); rintro e w' ⟨rfl, rfl⟩; unfold retIB) | (go_at_call 20; (with_reducible refine (rsum_calls _ _ _ _ _ hrd (by omega)).mono ?_); rintro e w' ⟨rfl, rfl⟩; unfold retIB) | (go_at_call 21; (with_reducible refine (sign_calls _ _).mono ?_); rintro e w' ⟨rfl, rfl⟩) | (go_at_call 11; (with_reducible refine (wakes_calls _).mono ?_); rintro e w' ⟨rfl, rfl⟩))
          go_ret
          exact ⟨rfl, hext'⟩

end Go.Proofs.Ytnlkfdbmedklaaa
