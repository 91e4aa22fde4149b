/- The walk of the law WorldErrors. -/
import Derived.Test.YtgjjngkmbplijaaLaw08
namespace Go.Proofs.Ytgjjngkmbplijaa
open Go.RowKit
set_option linter.unusedSimpArgs false
set_option linter.unusedVariables false

theorem name_t : isName ⟨#[116]⟩ = true := by decide +kernel
theorem name_a : isName ⟨#[97]⟩ = true := by decide +kernel
set_option maxRecDepth 100000 in
set_option maxHeartbeats 400000 in
theorem worldErrors_walk (n0 : Int) (w : World) (w0 : (Lit.int .i64 n0).wf = true) :
    Calls Try.prog 3 #[.int .i64 n0] w fun e w' => e = .returned (.bool true) ∧ Ext w w' := by
  have b0 := i64_of w0
  clear w0
  go_enter Try.func3, Try.ntmps3
  (go_wp2_with fail; (with_reducible refine (new_own (Ext.refl w)).mono ?_); rintro e w' ⟨p, f, c, rfl, hO, hx⟩)
  clear hx
  (go_wp2_with fail; (with_reducible refine (within_calls _ _ _ (by omega) (by omega) b0.1 b0.2).mono ?_); rintro e w' ⟨rfl, rfl⟩)
  have n1 := within_lo n0 10001 (by omega)
  have n2 := within_hi n0 10001 (by omega)
  generalize n0 % 10001 = n at *
  have hd : dayB n = true := (dayB_iff n).2 ⟨n1, by omega⟩
  clear b0
  (go_wp2_with fail; (with_reducible refine (fix_arg _ _ _ hO (.inl (by decide +kernel))).mono ?_); rintro e w' ⟨rfl, hO, hg⟩)
  clear hg
  (go_wp2_with fail; (with_reducible refine (fix_arg _ _ _ hO (.inl (by decide +kernel))).mono ?_); rintro e w' ⟨rfl, hO, hg⟩)
  clear hg
  (go_wp2_with fail; (with_reducible refine (fix_arg _ _ _ hO (.inl (by decide +kernel))).mono ?_); rintro e w' ⟨rfl, hO, hg⟩)
  clear hg
  (go_wp2_with fail; (with_reducible refine (fix_arg _ _ _ hO (.inr (.inl (by decide)))).mono ?_); rintro e w' ⟨rfl, hO, hg⟩)
  clear hg
  (go_wp2_with fail; (with_reducible refine (fix_arg _ _ _ hO (.inr (.inl (by decide)))).mono ?_); rintro e w' ⟨rfl, hO, hg⟩)
  clear hg
  (go_wp2_with fail; (with_reducible refine (fix_arg _ _ _ hO (.inr (.inr (by decide)))).mono ?_); rintro e w' ⟨rfl, hO, hg⟩)
  clear hg
  (go_wp2_with fail; (with_reducible refine (fix_arg _ _ _ hO (.inr (.inr (by decide)))).mono ?_); rintro e w' ⟨rfl, hO, hg⟩)
  clear hg
  (go_wp2_with fail; (with_reducible refine (ch_arg _ _ _ _ hO (.inl (by decide +kernel))).mono ?_); rintro e w' ⟨rfl, hO, hg⟩)
  clear hg
  (go_wp2_with fail; (with_reducible refine (ch_arg _ _ _ _ hO (.inr (.inl (by decide +kernel)))).mono ?_); rintro e w' ⟨rfl, hO, hg⟩)
  clear hg
  (go_wp2_with fail; (with_reducible refine (ch_arg _ _ _ _ hO (.inr (.inr (.inl (by decide))))).mono ?_); rintro e w' ⟨rfl, hO, hg⟩)
  clear hg
  (go_wp2_with fail; (with_reducible refine (ch_arg _ _ _ _ hO (.inr (.inr (.inl (by decide))))).mono ?_); rintro e w' ⟨rfl, hO, hg⟩)
  clear hg
  (go_wp2_with fail; (with_reducible refine (ch_arg _ _ _ _ hO (.inr (.inr (.inr (by decide))))).mono ?_); rintro e w' ⟨rfl, hO, hg⟩)
  clear hg
  (go_wp2_with fail; (with_reducible refine (ch_arg _ _ _ _ hO (.inr (.inr (.inr (by decide))))).mono ?_); rintro e w' ⟨rfl, hO, hg⟩)
  clear hg
  go_wp2_with fail
  go_loop [53] (fun i => ∃ k : Nat, k ≤ 13 ∧ i = .int .i64 k) (fun i => 13 - (intOf i).toNat)
  case atStart => exact ⟨0, by omega, rfl⟩
  case round =>
    obtain ⟨k, hk, rfl⟩ := hrel
    by_cases hlt : k < 13
    · have hr := (Rd.new w' #[.int .i64 1, .int .i64 1, .int .i64 1, .int .i64 1, .int .i64 1, .int .i64 1, .int .i64 1, .int .i64 1, .int .i64 1, .int .i64 1, .int .i64 1, .int .i64 1, .int .i64 1] 25 13 1 rfl).at1 hlt
      obtain ⟨ad, u, e0, hu, hc⟩ := hr
      injection e0 with e0
      subst e0
      have hu1 : u = .int .i64 1 := by
        have := List.mem_of_getElem? hu
        simpa using this
      subst hu1
      rw [Addr.add_lit] at hc
      simp only [Nat.zero_add] at hc
      clear hu
      go_wp2_with fail
      go_round
      case rel => exact ⟨k + 1, by omega, by go_num⟩
      case measure => simp [intOf]; omega
    · have hO2 := hO.keep ((Ext.refl _).alloc (.cells #[.int .i64 1, .int .i64 1, .int .i64 1, .int .i64 1, .int .i64 1, .int .i64 1, .int .i64 1, .int .i64 1, .int .i64 1, .int .i64 1, .int .i64 1, .int .i64 1, .int .i64 1] 25))
      (go_wp2_with fail; (with_reducible refine (fixed_own _ _ hO2).mono ?_); rintro e w' ⟨rfl, rfl⟩)
      (go_wp2_with fail; (with_reducible refine (chosen_own _ _ hO2).mono ?_); rintro e w' ⟨rfl, hO3, hx⟩)
      unfold Ret3
      clear hx hO hO2
      (go_wp2_with fail; (with_reducible refine (fixes_own hO3).mono ?_); rintro e w' ⟨rfl, rfl⟩)
      (go_wp2_with fail; (with_reducible refine (fix_ok _ _ _ hO3 name_x hd (by decide) rfl (by decide)).mono ?_); rintro e w' ⟨rfl, hO4, hg⟩)
      clear hg
      (go_wp2_with fail; (with_reducible refine (ch_ok _ _ _ _ hO4 name_t name_a (by decide) hd rfl).mono ?_); rintro e w' ⟨rfl, hO5, hg⟩)
      clear hg
      (go_wp2_with fail; (with_reducible refine (wakes08_calls _).mono ?_); rintro e w' ⟨rfl, hx⟩)
      go_wp2
      go_ret
      exact ⟨rfl, hO5.ext.trans hx⟩

end Go.Proofs.Ytgjjngkmbplijaa
