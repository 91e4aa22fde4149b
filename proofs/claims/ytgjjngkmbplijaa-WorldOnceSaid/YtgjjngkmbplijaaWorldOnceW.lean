/- The walk of the law WorldOnce. -/
import Derived.Test.YtgjjngkmbplijaaLaw08
namespace Go.Proofs.Ytgjjngkmbplijaa
open Go.RowKit
set_option linter.unusedSimpArgs false
set_option linter.unusedVariables false

def valAt (l : List Int) (j : Nat) : Int := match l[j]? with | some x => x % 1000 | none => j
theorem valAt_yes {l : List Int} {j : Nat} {x : Int} (h : l[j]? = some x) : valAt l j = x % 1000 := by unfold valAt; rw [h]
theorem valAt_no {l : List Int} {j : Nat} (h : l.length ≤ j) : valAt l j = j := by unfold valAt; rw [List.getElem?_eq_none h]
def FN (l : List Int) (i : Nat) : FixL := (List.range i).map fun (j : Nat) => (((⟨#[120]⟩ : ByteArray), (j : Int)), valAt l j)
theorem FN_len (l : List Int) (i : Nat) : (FN l i).length = i := by simp [FN]
theorem FN_succ (l : List Int) (i : Nat) : FN l (i + 1) = FN l i ++ [(((⟨#[120]⟩ : ByteArray), (i : Int)), valAt l i)] := by simp [FN, List.range_succ]
theorem key_ne2 {s : ByteArray} {a b : Int} (h : a ≠ b) : ((s, b) == (s, a)) = false := beq_eq_false_iff_ne.2 (fun e => h (by injection e with _ e; exact e.symm))
theorem lookup_append {α β : Type} [BEq α] (l r : List (α × β)) (a : α) : (l ++ r).lookup a = (l.lookup a).or (r.lookup a) := by
  induction l with
  | nil => simp
  | cons x t ih =>
    simp only [List.cons_append, List.lookup]
    cases a == x.1 <;> simp [ih]
theorem FN_none (l : List Int) (i k : Nat) (h : i ≤ k) : (FN l i).lookup ((⟨#[120]⟩ : ByteArray), (k : Int)) = none := by
  induction i with
  | zero => rfl
  | succ i ih =>
    have : (((⟨#[120]⟩ : ByteArray), (k : Int)) == ((⟨#[120]⟩ : ByteArray), (i : Int))) = false := key_ne2 (by omega)
    rw [FN_succ, lookup_append, ih (by omega)]
    simp [List.lookup, this]
theorem FN_some (l : List Int) (i k : Nat) (h : k < i) : (FN l i).lookup ((⟨#[120]⟩ : ByteArray), (k : Int)) = some (valAt l k) := by
  induction i with
  | zero => omega
  | succ i ih =>
    rw [FN_succ, lookup_append]
    by_cases hk : k < i
    · rw [ih hk]; rfl
    · obtain rfl : k = i := by omega
      rw [FN_none l k k (Nat.le_refl _)]
      simp [List.lookup]
theorem name_a3 : isName ⟨#[97]⟩ = true := by decide +kernel
theorem name_b3 : isName ⟨#[98]⟩ = true := by decide +kernel

structure Bnd (k m : Nat) : Prop where
  le : k + 1 ≤ 33
  mn : min (k + 1) 32 = m
  ms : 33 - (k + 1) < 33 - k

structure Bnd2 (k : Nat) : Prop where
  le : k + 1 ≤ 32
  ms : 32 - (k + 1) < 32 - k

set_option maxRecDepth 100000 in
set_option maxHeartbeats 800000 in
theorem worldOnce_walk (a : Option Addr) (n c0 : Nat) (l : List Int) (more : Int) (w : World) (w0 : InInts w a n c0 l) (w1 : (Lit.int .i64 more).wf = true) :
    Calls Try.prog 4 #[.slice a n c0, .int .i64 more] w fun e w' => e = .returned (.bool true) ∧ Ext w w' := by
  obtain ⟨hr, hnc, hcm, hwf⟩ := w0
  have hlen : l.length = n := by have := hr.1; simpa [ints] using this
  have b1 := i64_of w1
  unfold maxLen at hcm
  clear w1
  go_enter Try.func4, Try.ntmps4
  (go_wp2_with fail; (with_reducible refine (new_own (Ext.refl w)).mono ?_); rintro e w' ⟨p, f, c, rfl, hO, hx⟩)
  have HL := Lib.hid hlen
  have HW := Lib.hid hwf
  clear hx hlen hwf
  go_wp2_with fail
  go_loopw [6] (fun i wr => ∃ k : Nat, k ≤ 33 ∧ i = .int .i64 k ∧ Own w wr p f c (FN l (min k 32)) []) (fun i _ => 33 - (intOf i).toNat)
  case atStart => exact ⟨0, by omega, rfl, hO⟩
  case round =>
    obtain ⟨k, hk, rfl, hO1⟩ := hrel
    by_cases h33 : k ≤ 32
    · have hval : (∃ x ad, k < n ∧ a = some ad ∧ wr.cell? (ad.add k) = some (.int .i64 x) ∧ valAt l k = x % 1000 ∧ -9223372036854775808 ≤ x ∧ x ≤ 9223372036854775807) ∨ (n ≤ k ∧ valAt l k = k) := by
        by_cases hkn : k < n
        · obtain ⟨ad, u, e1, hu, hc⟩ := hr.at1 hkn
          simp only [ints, List.getElem?_map] at hu
          cases hx : l[k]? with
          | none => rw [hx] at hu; cases hu
          | some x =>
            rw [hx] at hu
            have hu' : u = .int .i64 x := by simpa using hu.symm
            subst hu'
            have hb := i64_of (HW.out x (List.mem_of_getElem? hx))
            exact .inl ⟨x, ad, hkn, e1, hO1.ext.cell hc, valAt_yes hx, hb.1, hb.2⟩
        · exact .inr ⟨by omega, valAt_no (by have := HL.out; omega)⟩
      have hd : dayB k = true := (dayB_iff _).2 (by omega)
      rcases hval with ⟨x, ad, hkn, rfl, hc, hva, x1, x2⟩ | ⟨hkn, hva⟩
      · have m1 := within_lo x 1000 (by omega)
        have m2 := within_hi x 1000 (by omega)
        have v1 : Vd (x % 1000) = true := (Vd_iff _).2 (by omega)
        have v2 : Vd (x % 1000 + 1) = true := (Vd_iff _).2 (by omega)
        have HV := Lib.hid hva
        clear hva hr
        by_cases h32 : k < 32
        · have hmin : min k 32 = k := by omega
          rw [hmin] at hO1
          clear hmin
          have k32 : ((k : Int) == 32) = false := beq_eq_false_iff_ne.2 (by omega)
          have HK := (show Bnd k (k + 1) from ⟨by omega, by omega, by omega⟩)
          go_wp2_with fail
          (go_wp2_with fail; (with_reducible refine (within_calls _ _ _ (by omega) (by omega) x1 x2).mono ?_); rintro e w' ⟨rfl, rfl⟩)
          (go_wp2_with fail; (with_reducible refine (fix_ok _ _ _ hO1 name_x hd v1 (by rw [FN_none l k k (Nat.le_refl _)]; simp) (by rw [FN_len]; omega)).mono ?_); rintro e w' ⟨rfl, hO2, hg⟩)
          clear hg hO1
          rw [← HV.out, ← FN_succ] at hO2
          (go_wp2_with fail; (with_reducible refine (fix_there _ _ _ hO2 name_x hd v2 (by rw [FN_some l (k + 1) k (by omega)]; simp)).mono ?_); rintro e w' ⟨rfl, hO3, hg⟩)
          clear hg hO2
          go_wp2_with fail
          go_roundw
          case rel => exact ⟨k + 1, HK.le, by go_num, by rw [HK.mn]; exact hO3⟩
          case measure => have := HK.ms; simp [intOf]; omega
        · have hmin : min k 32 = k := by omega
          rw [hmin] at hO1
          clear hmin
          have k32 : ((k : Int) == 32) = true := beq_iff_eq.2 (by omega)
          have HK := (show Bnd k k from ⟨by omega, by omega, by omega⟩)
          (go_wp2_with fail; (with_reducible refine (within_calls _ _ _ (by omega) (by omega) x1 x2).mono ?_); rintro e w' ⟨rfl, rfl⟩)
          (go_wp2_with fail; (with_reducible refine (fix_limit _ _ _ hO1 name_x hd v1 (by rw [FN_none l k k (Nat.le_refl _)]; simp) (by rw [FN_len]; omega)).mono ?_); rintro e w' ⟨rfl, hO2, hg⟩)
          clear hg hO1
          go_wp2_with fail
          go_roundw
          case rel => exact ⟨k + 1, HK.le, by go_num, by rw [HK.mn]; exact hO2⟩
          case measure => have := HK.ms; simp [intOf]; omega
      · have v1 : Vd k = true := (Vd_iff _).2 (by omega)
        have HV := Lib.hid hva
        clear hva hr
        by_cases h32 : k < 32
        · have hmin : min k 32 = k := by omega
          rw [hmin] at hO1
          clear hmin
          have k32 : ((k : Int) == 32) = false := beq_eq_false_iff_ne.2 (by omega)
          have HK := (show Bnd k (k + 1) from ⟨by omega, by omega, by omega⟩)
          (go_wp2_with fail; (with_reducible refine (fix_ok _ _ _ hO1 name_x hd v1 (by rw [FN_none l k k (Nat.le_refl _)]; simp) (by rw [FN_len]; omega)).mono ?_); rintro e w' ⟨rfl, hO2, hg⟩)
          clear hg hO1
          have e2 : FN l k ++ [(((⟨#[120]⟩ : ByteArray), (k : Int)), (k : Int))] = FN l (k + 1) := by rw [FN_succ, HV.out]
          rw [e2] at hO2
          clear e2
          (go_wp2_with fail; (with_reducible refine (fix_there _ _ _ hO2 name_x hd ((Vd_iff _).2 (by omega)) (by rw [FN_some l (k + 1) k (by omega)]; simp)).mono ?_); rintro e w' ⟨rfl, hO3, hg⟩)
          clear hg hO2
          go_wp2_with fail
          go_roundw
          case rel => exact ⟨k + 1, HK.le, by go_num, by rw [HK.mn]; exact hO3⟩
          case measure => have := HK.ms; simp [intOf]; omega
        · have hmin : min k 32 = k := by omega
          rw [hmin] at hO1
          clear hmin
          have k32 : ((k : Int) == 32) = true := beq_iff_eq.2 (by omega)
          have HK := (show Bnd k k from ⟨by omega, by omega, by omega⟩)
          (go_wp2_with fail; (with_reducible refine (fix_limit _ _ _ hO1 name_x hd v1 (by rw [FN_none l k k (Nat.le_refl _)]; simp) (by rw [FN_len]; omega)).mono ?_); rintro e w' ⟨rfl, hO2, hg⟩)
          clear hg hO1
          go_wp2_with fail
          go_roundw
          case rel => exact ⟨k + 1, HK.le, by go_num, by rw [HK.mn]; exact hO2⟩
          case measure => have := HK.ms; simp [intOf]; omega
    · have hmin : min k 32 = 32 := by omega
      rw [hmin] at hO1
      have hO9 : Own w wr p f c (FN l 32) [] := hO1
      clear hmin
      clear hO1 hO
      go_wp2_with fail
      go_loopw [9] (fun i wr => ∃ k : Nat, k ≤ 32 ∧ i = .int .i64 k ∧ Own w wr p f c (FN l 32) []) (fun i _ => 32 - (intOf i).toNat)
      case atStart => exact ⟨0, by omega, rfl, hO9⟩
      case round =>
        obtain ⟨k, hk2, rfl, hO2⟩ := hrel
        clear hO9
        by_cases h32 : k < 32
        · have hl := FN_some l 32 k h32
          have hval : (∃ x ad, k < n ∧ a = some ad ∧ wr.cell? (ad.add k) = some (.int .i64 x) ∧ valAt l k = x % 1000 ∧ -9223372036854775808 ≤ x ∧ x ≤ 9223372036854775807) ∨ (n ≤ k ∧ valAt l k = k) := by
            by_cases hkn : k < n
            · obtain ⟨ad, u, e1, hu, hc⟩ := hr.at1 hkn
              simp only [ints, List.getElem?_map] at hu
              cases hx : l[k]? with
              | none => rw [hx] at hu; cases hu
              | some x =>
                rw [hx] at hu
                have hu' : u = .int .i64 x := by simpa using hu.symm
                subst hu'
                have hb := i64_of (HW.out x (List.mem_of_getElem? hx))
                exact .inl ⟨x, ad, hkn, e1, hO2.ext.cell hc, valAt_yes hx, hb.1, hb.2⟩
            · exact .inr ⟨by omega, valAt_no (by have := HL.out; omega)⟩
          have Hl := Lib.hid hl
          clear hl hr
          have HK := (show Bnd2 k from ⟨by omega, by omega⟩)
          rcases hval with ⟨x, ad, hkn, rfl, hc, hva, x1, x2⟩ | ⟨hkn, hva⟩
          · have HV := Lib.hid hva
            clear hva
            (go_wp2_with fail; (with_reducible refine (within_calls _ _ _ (by omega) (by omega) x1 x2).mono ?_); rintro e w' ⟨rfl, rfl⟩)
            (go_wp2_with fail; (with_reducible refine (fixed_own _ _ hO2).mono ?_); rintro e w' ⟨rfl, rfl⟩)
            rw [Hl.out, HV.out]
            go_wp2_with fail
            go_roundw
            case rel => exact ⟨k + 1, HK.le, by go_num, hO2⟩
            case measure => have := HK.ms; simp [intOf]; omega
          · have HV := Lib.hid hva
            clear hva
            (go_wp2_with fail; (with_reducible refine (fixed_own _ _ hO2).mono ?_); rintro e w' ⟨rfl, rfl⟩)
            rw [Hl.out, HV.out]
            go_wp2_with fail
            go_roundw
            case rel => exact ⟨k + 1, HK.le, by go_num, hO2⟩
            case measure => have := HK.ms; simp [intOf]; omega
        · clear hr
          have m1 := within_lo more 2 (by omega)
          have m2 := within_hi more 2 (by omega)
          (go_wp2_with fail; (with_reducible refine (within_calls _ _ _ (by omega) (by omega) b1.1 b1.2).mono ?_); rintro e w' ⟨rfl, rfl⟩)
          generalize more % 2 = q at *
          have s1 : sideB q = true := (sideB_iff q).2 (by omega)
          have s2 : sideB (1 - q) = true := (sideB_iff _).2 (by omega)
          (go_wp2_with fail; (with_reducible refine (ch_ok _ _ _ _ hO2 name_a3 name_b3 s1 (by decide) rfl).mono ?_); rintro e w' ⟨rfl, hO3, hg⟩)
          clear hg
          (go_wp2_with fail; (with_reducible refine (ch_there _ _ _ _ hO3 name_a3 name_b3 s2 (by decide) rfl).mono ?_); rintro e w' ⟨rfl, hO4, hg⟩)
          clear hg
          (go_wp2_with fail; (with_reducible refine (ch_ok _ _ _ _ hO4 name_b3 name_a3 s2 (by decide) rfl).mono ?_); rintro e w' ⟨rfl, hO5, hg⟩)
          clear hg
          (go_wp2_with fail; (with_reducible refine (chosen_own _ _ hO5).mono ?_); rintro e w' ⟨rfl, hO6, hx⟩)
          clear hx
          have hl : List.lookup ((⟨#[97]⟩ : ByteArray), (⟨#[98]⟩ : ByteArray)) ([] ++ [(((⟨#[97]⟩ : ByteArray), (⟨#[98]⟩ : ByteArray)), (q, (3 : Int)))] ++ [(((⟨#[98]⟩ : ByteArray), (⟨#[97]⟩ : ByteArray)), (1 - q, (4 : Int)))]) = some (q, 3) := by simp [List.lookup]
          rw [hl]
          unfold Ret3
          clear hl
          (go_wp2_with fail; (with_reducible refine (fixes_own hO6).mono ?_); rintro e w' ⟨rfl, rfl⟩)
          rw [FN_len]
          (go_wp2_with fail; (with_reducible refine (wakes08_calls _).mono ?_); rintro e w' ⟨rfl, hx⟩)
          go_wp2
          go_ret
          exact ⟨rfl, hO6.ext.trans hx⟩

end Go.Proofs.Ytgjjngkmbplijaa
