/- The walk of the law WorldApart. -/
import Derived.Test.YtgjjngkmbplijaaLaw08
namespace Go.Proofs.Ytgjjngkmbplijaa
open Go.RowKit
set_option linter.unusedSimpArgs false
set_option linter.unusedVariables false

theorem name_t2 : isName ⟨#[116]⟩ = true := by decide +kernel
theorem name_l : isName ⟨#[108]⟩ = true := by decide +kernel
theorem name_u : isName ⟨#[117]⟩ = true := by decide +kernel
theorem key_ne {s : ByteArray} {a b : Int} (h : a ≠ b) : ((s, b) == (s, a)) = false := beq_eq_false_iff_ne.2 (fun e => h (by injection e with _ e; exact e.symm))
theorem look_ne {s : ByteArray} {a b : Int} (v : Int) (h : a ≠ b) : (List.lookup (s, b) ([] ++ [((s, a), v)])).isSome = false := by
  simp [List.lookup, key_ne h]
theorem look_two {s : ByteArray} {a b : Int} (v u : Int) (h : a ≠ b) : List.lookup (s, b) ([] ++ [((s, a), v)] ++ [((s, b), u)]) = some u := by
  simp [List.lookup, key_ne h]
theorem look_one {s : ByteArray} {a b : Int} (v u : Int) : List.lookup (s, a) ([] ++ [((s, a), v)] ++ [((s, b), u)]) = some v := by
  simp [List.lookup]
theorem ch_ne {a : Int} (x : Int × Int) : (List.lookup ((⟨#[117]⟩ : ByteArray), (⟨#[108]⟩ : ByteArray)) ([] ++ [(((⟨#[116]⟩ : ByteArray), (⟨#[108]⟩ : ByteArray)), x)])).isSome = false := by
  have : (((⟨#[117]⟩ : ByteArray), (⟨#[108]⟩ : ByteArray)) == ((⟨#[116]⟩ : ByteArray), (⟨#[108]⟩ : ByteArray))) = false := by decide
  simp [List.lookup, this]
theorem ch_u (x y : Int × Int) : List.lookup ((⟨#[117]⟩ : ByteArray), (⟨#[108]⟩ : ByteArray)) ([] ++ [(((⟨#[116]⟩ : ByteArray), (⟨#[108]⟩ : ByteArray)), x)] ++ [(((⟨#[117]⟩ : ByteArray), (⟨#[108]⟩ : ByteArray)), y)]) = some y := by
  have : (((⟨#[117]⟩ : ByteArray), (⟨#[108]⟩ : ByteArray)) == ((⟨#[116]⟩ : ByteArray), (⟨#[108]⟩ : ByteArray))) = false := by decide
  simp [List.lookup, this]
theorem ch_l (x y : Int × Int) : List.lookup ((⟨#[108]⟩ : ByteArray), (⟨#[117]⟩ : ByteArray)) ([] ++ [(((⟨#[116]⟩ : ByteArray), (⟨#[108]⟩ : ByteArray)), x)] ++ [(((⟨#[117]⟩ : ByteArray), (⟨#[108]⟩ : ByteArray)), y)]) = none := by
  have h1 : (((⟨#[108]⟩ : ByteArray), (⟨#[117]⟩ : ByteArray)) == ((⟨#[116]⟩ : ByteArray), (⟨#[108]⟩ : ByteArray))) = false := by decide
  have h2 : (((⟨#[108]⟩ : ByteArray), (⟨#[117]⟩ : ByteArray)) == ((⟨#[117]⟩ : ByteArray), (⟨#[108]⟩ : ByteArray))) = false := by decide
  simp [List.lookup, h1, h2]
set_option maxRecDepth 100000 in
set_option maxHeartbeats 400000 in
theorem worldApart_walk (a0 b0 v0 : Int) (w : World) (w0 : (Lit.int .i64 a0).wf = true) (w1 : (Lit.int .i64 b0).wf = true) (w2 : (Lit.int .i64 v0).wf = true) :
    Calls Try.prog 5 #[.int .i64 a0, .int .i64 b0, .int .i64 v0] w fun e w' => e = .returned (.bool true) ∧ Ext w w' := by
  have b1 := i64_of w0
  have b2 := i64_of w1
  have b3 := i64_of w2
  clear w0 w1 w2
  go_enter Try.func5, Try.ntmps5
  (go_wp2_with fail; (with_reducible refine (new_own (Ext.refl w)).mono ?_); rintro e w' ⟨p, f, c, rfl, hO, hx⟩)
  clear hx
  (go_wp2_with fail; (with_reducible refine (within_calls _ _ _ (by omega) (by omega) b1.1 b1.2).mono ?_); rintro e w' ⟨rfl, rfl⟩)
  (go_wp2_with fail; (with_reducible refine (within_calls _ _ _ (by omega) (by omega) b2.1 b2.2).mono ?_); rintro e w' ⟨rfl, rfl⟩)
  have n1 := within_lo a0 50 (by omega)
  have n2 := within_hi a0 50 (by omega)
  have n3 := within_lo b0 50 (by omega)
  have n4 := within_hi b0 50 (by omega)
  (go_wp2_with fail; (with_reducible refine (within_calls _ _ _ (by omega) (by omega) b3.1 b3.2).mono ?_); rintro e w' ⟨rfl, rfl⟩)
  have n5 := within_lo v0 1000 (by omega)
  have n6 := within_hi v0 1000 (by omega)
  generalize a0 % 50 = a at *
  generalize b0 % 50 = b at *
  generalize v0 % 1000 = v at *
  have ha : dayB a = true := (dayB_iff a).2 (by omega)
  have hb : dayB (50 + b) = true := (dayB_iff _).2 (by omega)
  have hv : Vd v = true := (Vd_iff v).2 (by omega)
  have hv1 : Vd (v + 1) = true := (Vd_iff _).2 (by omega)
  have hv2 : Vd (v + 2) = true := (Vd_iff _).2 (by omega)
  have hne : a ≠ 50 + b := by omega
  clear b1 b2 b3
  (go_wp2_with fail; (with_reducible refine (fix_ok _ _ _ hO name_x ha hv rfl (by decide)).mono ?_); rintro e w' ⟨rfl, hO, hg⟩)
  clear hg
  (go_wp2_with fail; (with_reducible refine (ch_ok _ _ _ _ hO name_t2 name_l (by decide) ha rfl).mono ?_); rintro e w' ⟨rfl, hO, hg⟩)
  clear hg
  have hlt := hO.wld.lts
  (go_wp2_with fail; (with_reducible refine (clone_own hO).mono ?_); rintro e w' ⟨p', f', c', rfl, hK, hO, hz1, hz2, hz3, hx⟩)
  clear hx
  have K1 : (p' ≠ p ∧ p' ≠ f ∧ p' ≠ c) ∧ (f' ≠ p ∧ f' ≠ f ∧ f' ≠ c) ∧ (c' ≠ p ∧ c' ≠ f ∧ c' ≠ c) := by omega
  have HK := Lib.hid K1
  clear K1 hlt hz1 hz2 hz3
  have l1 := look_ne v hne (s := ⟨#[120]⟩)
  have HL := Lib.hid l1
  have Hne := Lib.hid hne
  clear l1 hne
  (go_wp2_with fail; (with_reducible refine (fix_ok _ _ _ hK name_x hb hv1 HL.out (by simp)).mono ?_); rintro e w' ⟨rfl, hK, hg⟩)
  replace hO := hO.other hg HK.out.2.1 hK.f0
  clear hg
  (go_wp2_with fail; (with_reducible refine (fix_ok _ _ _ hO name_x hb hv2 HL.out (by simp)).mono ?_); rintro e w' ⟨rfl, hO, hg⟩)
  replace hK := hK.other hg ⟨HK.out.1.2.1.symm, HK.out.2.1.2.1.symm, HK.out.2.2.2.1.symm⟩ hO.f0
  clear hg
  (go_wp2_with fail; (with_reducible refine (ch_ok _ _ _ _ hO name_u name_l (by decide) hb (ch_ne (a := a) _)).mono ?_); rintro e w' ⟨rfl, hO, hg⟩)
  replace hK := hK.other hg ⟨HK.out.1.2.2.symm, HK.out.2.1.2.2.symm, HK.out.2.2.2.2.symm⟩ hO.c0
  clear hg
  (go_wp2_with fail; (with_reducible refine (ch_ok _ _ _ _ hK name_u name_l (by decide) ha (ch_ne (a := a) _)).mono ?_); rintro e w' ⟨rfl, hK, hg⟩)
  replace hO := hO.other hg HK.out.2.2 hK.c0
  clear hg
  have f1 : List.lookup ((⟨#[120]⟩ : ByteArray), a) ([] ++ [(((⟨#[120]⟩ : ByteArray), a), v)] ++ [(((⟨#[120]⟩ : ByteArray), 50 + b), v + 1)]) = some v := look_one _ _
  have f2 : List.lookup ((⟨#[120]⟩ : ByteArray), 50 + b) ([] ++ [(((⟨#[120]⟩ : ByteArray), a), v)] ++ [(((⟨#[120]⟩ : ByteArray), 50 + b), v + 1)]) = some (v + 1) := look_two _ _ Hne.out
  have f3 : List.lookup ((⟨#[120]⟩ : ByteArray), 50 + b) ([] ++ [(((⟨#[120]⟩ : ByteArray), a), v)] ++ [(((⟨#[120]⟩ : ByteArray), 50 + b), v + 2)]) = some (v + 2) := look_two _ _ Hne.out
  have FF := Lib.hid (And.intro f1 (And.intro f2 f3))
  clear f1 f2 f3
  (go_wp2_with fail; (with_reducible refine (fixed_own _ _ hK).mono ?_); rintro e w' ⟨rfl, rfl⟩)
  rw [FF.out.1]
  (go_wp2_with fail; (with_reducible refine (fixed_own _ _ hK).mono ?_); rintro e w' ⟨rfl, rfl⟩)
  rw [FF.out.2.1]
  (go_wp2_with fail; (with_reducible refine (fixed_own _ _ hO).mono ?_); rintro e w' ⟨rfl, rfl⟩)
  rw [FF.out.2.2]
  (go_wp2_with fail; (with_reducible refine (chosen_own _ _ hO).mono ?_); rintro e w' ⟨rfl, hO, hx⟩)
  replace hK := hK.keep hx
  rw [ch_u]
  unfold Ret3
  clear hx
  (go_wp2_with fail; (with_reducible refine (chosen_own _ _ hK).mono ?_); rintro e w' ⟨rfl, hK, hx⟩)
  replace hO := hO.keep hx
  rw [ch_u]
  unfold Ret3
  clear hx
  (go_wp2_with fail; (with_reducible refine (chosen_own _ _ hO).mono ?_); rintro e w' ⟨rfl, hO, hx⟩)
  rw [ch_l]
  unfold Ret3
  clear hx hK
  (go_wp2_with fail; (with_reducible refine (wakes08_calls _).mono ?_); rintro e w' ⟨rfl, hx⟩)
  go_wp2
  go_ret
  exact ⟨rfl, hO.ext.trans hx⟩

end Go.Proofs.Ytgjjngkmbplijaa
