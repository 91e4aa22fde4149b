/- The walk of the law CentsSums. -/
import Derived.Test.YtnlkfdbmedklaaaLaw02
namespace Go.Proofs.Ytnlkfdbmedklaaa
open Go.RowKit
set_option linter.unusedSimpArgs false
set_option linter.unusedVariables false

set_option maxRecDepth 100000 in
set_option maxHeartbeats 400000 in
theorem centsSums_walk (a : Option Addr) (n c : Nat) (l : List Int) (how cut : Int) (w : World) (w0 : InInts w a n c l) (w1 : (Lit.int .i64 how).wf = true) (w2 : (Lit.int .i64 cut).wf = true) :
    Calls Try.prog 5 #[.slice a n c, .int .i64 how, .int .i64 cut] w fun e w' => e = .returned (.bool true) ∧ Ext w w' := by
  have b1 := i64_of w1
  have b2 := i64_of w2
  obtain ⟨hr, hnc, hcm, hwf⟩ := w0
  clear w1 w2
  go_enter Try.func5, Try.ntmps5
  (go_wp2_with fail; (with_reducible refine (cut_calls _ _ _ _ _ _ hr hnc hcm (by omega) (by omega)).mono ?_); rintro e w' ⟨v, rfl, hown, hext⟩)
  have hm9 : min n (9 : Int).toNat ≤ 9 := by have : (9 : Int).toNat = 9 := rfl; omega
  obtain ⟨A, C, rfl, hC1, hC2⟩ := own_form hown
  have hrng : Rng (l.take (min n (9 : Int).toNat)) := fun x hx => i64_of (hwf x (List.mem_of_mem_take hx))
  generalize l.take (min n (9 : Int).toNat) = L at *
  generalize min n (9 : Int).toNat = m at *
  clear hr hnc hcm hwf
  unfold maxLen at hC2
  go_wp2_with fail
  go_loopw [24] (fun i wr => ∃ (k : Nat) (L' : List Int), k ≤ m ∧ i = .int .i64 k ∧ Rng L' ∧ wr.ownsRow w.heap.size 3 1 (.slice A m C) m (ints L') ∧ Ext w wr) (fun i _ => m - (intOf i).toNat)
  case atStart => exact ⟨0, L, Nat.zero_le _, rfl, hrng, hown, hext⟩
  case round =>
    obtain ⟨k, L', hk, rfl, hrng', hown', hext'⟩ := hrel
    by_cases hlt : k < m
    · obtain ⟨g, rfl, hg1, hg2⟩ := own_at hown' hlt
      have hcell := hown'.cellAt k (by omega)
      have hfz := hown'.frozenAt k
      obtain ⟨ad, u, e0, hu, hcc⟩ := (Rd.of_own hown').at1 hlt
      injection e0 with e0
      subst e0
      obtain ⟨x, rfl, x1, x2⟩ := hrng'.at hu
      rw [hu] at hcell
      have hst := fun u => hown'.stored k u
      have HS := Lib.hid hst
      clear hst hcc hu
      go_wp2_with (go_at_call 12; (with_reducible refine (near_calls _ _ _ x1 x2 (rng _).1 (rng _).2).mono ?_); rintro e w' ⟨r, r1, r2, rfl, rfl⟩)
      go_roundw
      case rel => exact ⟨k + 1, L'.set k r, by omega, by go_num, hrng'.set r1 r2, by rw [← ints_set]; exact (HS.out _).1, hext'.setCell hg1 _⟩
      case measure => simp [intOf]; omega
    · clear hown hext hrng L
      have hw1 := within_lo cut (m + 1) (by omega)
      have hw2 := within_hi cut (m + 1) (by omega)
      obtain ⟨wo, rfl⟩ : ∃ wo : World, wo = wr := ⟨_, rfl⟩
      go_wp2_with fail
      (with_reducible refine (within_calls _ _ _ (by omega) (by omega) b2.1 b2.2).mono ?_)
      rintro e w' ⟨rfl, rfl⟩
      obtain ⟨j, hj⟩ : ∃ j : Nat, cut % (m + 1) = j := ⟨(cut % (m + 1)).toNat, by omega⟩
      rw [hj] at hw1 hw2 ⊢
      clear hj
      have hrd := Rd.of_own hown'
      have hrt := hrd.take (k := j) (by omega)
      have hrdr := hrd.drop (k := j) (cap := C) (by omega) hC1
      rw [show (ints L').take (j * 1) = ints (L'.take j) by simp [ints]] at hrt
      rw [show (ints L').drop (j * 1) = ints (L'.drop j) by simp [ints]] at hrdr
      have hsl := fun W => run_slice_from elemInt A m C j (by omega) hC1 W
      generalize (if C = j then A else A.map (·.add (j * 1))) = B at hsl hrdr
      have hcut := sumFrom_cut L' j
      have HC := Lib.hid hcut
      clear hcut
      have hlen : (L'.drop j).length = m - j := by have := hrdr.1; simpa [ints] using this
      generalize L'.drop j = D at *
      have HL := Lib.hid hlen
      clear hlen
      (go_wp2_with fail; (with_reducible refine (sum_calls _ _ _ _ _ hrt (by omega)).mono ?_); rintro e w' ⟨rfl, rfl⟩)
      unfold retIB
      (go_wp2_with fail; (with_reducible refine (sum_calls _ _ _ _ _ hrd (by omega)).mono ?_); rintro e w' ⟨rfl, rfl⟩)
      unfold retIB
      clear hrt
      go_wp2_with fail
      go_loop [14, 15, 62] (fun s o i => ∃ (k : Nat) (acc : Int × Bool), k ≤ m - j ∧ i = .int .i64 k ∧ s = .int .i64 acc.1 ∧ o = .bool acc.2 ∧ sumFrom 0 L' = (D.drop k).foldl stepS acc) (fun _ _ i => m - j - (intOf i).toNat)
      case atStart => exact ⟨0, _, Nat.zero_le _, rfl, rfl, rfl, HC.out⟩
      case round =>
        obtain ⟨k, acc, hk, rfl, rfl, rfl, hs⟩ := hrel
        have Hs := Lib.hid hs
        clear hs
        by_cases hlt : k < m - j
        · obtain ⟨ad, u, rfl, hu, hc⟩ := hrdr.at1 hlt
          obtain ⟨x, rfl, hd⟩ := drop_at hu
          have Hd := Lib.hid hd
          clear hd hu hsl
          cases hb : acc.2 with
          | true =>
            have hy := Lib.hid (stepS_yes x hb)
            go_wp2_with (go_at_call 9; (with_reducible refine (add_calls _ _ _).mono ?_); rintro e w' ⟨rfl, rfl⟩; unfold retIB)
            go_round
            case rel => exact ⟨k + 1, _, by omega, by go_num, rfl, rfl, by rw [Hs.out, Hd.out, List.foldl_cons, hy.out]⟩
            case measure => simp [intOf]; omega
          | false =>
            have hy := Lib.hid (stepS_no x hb)
            go_wp2
            go_round
            case rel => exact ⟨k + 1, acc, by omega, by go_num, rfl, by rw [hb], by rw [Hs.out, Hd.out, List.foldl_cons, hy.out]⟩
            case measure => simp [intOf]; omega
        · have hd := List.drop_of_length_le (show D.length ≤ k by rw [HL.out]; omega)
          have hfin := Hs.out
          rw [hd] at hfin
          have hacc : acc = sumFrom 0 L' := hfin.symm
          clear hfin Hs hd
          subst hacc
          have h0 := sumFrom_zero L' 0
          have hnil : sumFrom 0 [] = (0, true) := rfl
          clear hsl
          cases hb : (sumFrom 0 L').2 with
          | true =>
            clear h0
            go_wp2_with (first | (go_at_call 16; (with_reducible refine (sum_calls none 0 0 [] _ Rd.nil (by omega)).mono ?_); rintro e w' ⟨rfl, rfl⟩; unfold retIB) | (go_at_call 11; (with_reducible refine (wakes_calls _).mono ?_); rintro e w' ⟨rfl, rfl⟩))
            go_ret
            exact ⟨rfl, hext'⟩
          | false =>
            have h1 := h0 hb
            clear h0
            go_wp2_with (first | (go_at_call 16; (with_reducible refine (sum_calls none 0 0 [] _ Rd.nil (by omega)).mono ?_); rintro e w' ⟨rfl, rfl⟩; unfold retIB) | (go_at_call 11; (with_reducible refine (wakes_calls _).mono ?_); rintro e w' ⟨rfl, rfl⟩))
            go_ret
            exact ⟨rfl, hext'⟩

end Go.Proofs.Ytnlkfdbmedklaaa
