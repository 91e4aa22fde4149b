/- Law 9's Known: a few fixings in both worlds. -/
import Derived.Test.YtgjjngkmbplijaaZRw

namespace Go.Proofs.Ytgjjngkmbplijaa
open Go.RowKit
set_option linter.unusedSimpArgs false
set_option linter.unusedVariables false

theorem tdiv_rng2 (v k : Int) (h1 : -9223372036854775808 ≤ v) (h2 : v ≤ 9223372036854775807) (hk : 1 ≤ k) : -9223372036854775808 ≤ v.tdiv k ∧ v.tdiv k ≤ 9223372036854775807 := by
  have e : (v.tdiv k).natAbs = v.natAbs / k.natAbs := Int.natAbs_tdiv v k
  have h3 : v.natAbs / k.natAbs ≤ v.natAbs := Nat.div_le_self _ _
  rw [← e] at h3
  by_cases h0 : 0 ≤ v
  · have := Int.tdiv_nonneg (a := v) (b := k) h0 (by omega)
    omega
  · have h4 := Int.tdiv_nonneg (a := -v) (b := k) (by omega) (by omega)
    rw [Int.neg_tdiv] at h4
    omega
theorem mod3 (j : Nat) : (j % 3 = 0 ∧ (j : Int).tmod 3 = 0) ∨ (j % 3 = 1 ∧ (j : Int).tmod 3 = 1) ∨ (j % 3 = 2 ∧ (j : Int).tmod 3 = 2) := by
  have e : (j : Int).tmod 3 = ((j % 3 : Nat) : Int) := by rw [Int.tmod_eq_emod_of_nonneg (by omega)]; omega
  omega

set_option maxRecDepth 100000 in
set_option maxHeartbeats 3200000 in
theorem known9_calls (w0 w : World) (p f c : Nat) (F : FixL) (C : ChL) (q : Nat) (v1 v2 : Value) (a : Option Addr) (n c0 : Nat) (l : List Int) (h : Two w0 w p f c F C q v1 v2 F C) (hF : F.length ≤ 900) (hin : InInts w0 a n c0 l) :
    Calls Try.prog 69 #[.pointer (some ⟨p, 0, none⟩), .pointer (some ⟨q, 0, none⟩), .slice a n c0] w fun e w' => ∃ F' v1' v2', e = .returned (.tuple #[]) ∧ Two w0 w' p f c F' C q v1' v2' F' C := by
  obtain ⟨hr, hnc, hcm, hwf⟩ := hin
  have hlen : l.length = n := by have := hr.1; simpa [ints] using this
  unfold maxLen at hcm
  have H0 := Lib.hid h
  have HL := Lib.hid hwf
  clear h hwf
  go_enter Try.func69, Try.ntmps69
  go_wp2_with fail
  go_loopw [6] (fun i wr => ∃ (j : Nat) (F' : FixL) (u1 u2 : Value), j ≤ n ∧ j ≤ 12 ∧ i = .int .i64 j ∧ F'.length ≤ F.length + j ∧ Two w0 wr p f c F' C q u1 u2 F' C) (fun i _ => n - (intOf i).toNat)
  case atStart => exact ⟨0, F, v1, v2, by omega, by omega, rfl, by omega, H0.out⟩
  case round =>
    obtain ⟨j, F', u1, u2, hj, hj12, rfl, hFl, hT⟩ := hrel
    by_cases hlt : j < n
    · by_cases h12 : j < 12
      · obtain ⟨ad, u, rfl, hu, hc⟩ := (hr.ext hT.a.ext).at1 hlt
        simp only [ints, List.getElem?_map] at hu
        obtain ⟨x, hx, rfl⟩ : ∃ x, l[j]? = some x ∧ Value.int .i64 x = u := by
          cases hx : l[j]? with
          | none => rw [hx] at hu; cases hu
          | some x => rw [hx] at hu; exact ⟨x, rfl, by simpa using hu⟩
        have hb := i64_of (HL.out x (List.mem_of_getElem? hx))
        have hb1 := hb.1
        have hb2 := hb.2
        have hq := tdiv_rng2 x 8 hb1 hb2 (by omega)
        have hq1 := hq.1
        have hq2 := hq.2
        have W1 := fun W => within_calls (x.tdiv 8) 40 W (by omega) (by omega) hq1 hq2
        have W2 := fun W => within_calls x 8 W (by omega) (by omega) hb1 hb2
        have m1 : 0 ≤ x.tdiv 8 % 40 := Int.emod_nonneg _ (by omega)
        have m2 : x.tdiv 8 % 40 < 40 := Int.emod_lt_of_pos _ (by omega)
        have hj0 := Lib.hid (show j + 1 ≤ n ∧ j + 1 ≤ 12 from ⟨hlt, h12⟩)
        have hF0 := Lib.hid hFl
        have hji : (j : Int) < (n : Int) := by omega
        have hji0 : (0 : Int) ≤ (j : Int) := by omega
        have hj12' : (j : Int) < 12 := by omega
        have HF := fun (W : World) (hW : Ext wr W) (s : ByteArray) (d v : Int) => two_fix s d v (hT.ext hW)
        have HR := fun (W : World) (y1 y2 : Value) (F3 : FixL) (s : ByteArray) (d v : Int) (hW : Two w0 W p f c F3 C q y1 y2 F' C) (hs : s.size ≤ 1000) => two_rfix s d v hW hs (by omega)
        have hT0 := Lib.hid hT
        have hc0 := fun (W : World) (h : Ext w0 W) => (hr.ext h).at1 hlt
        have hci : ∀ (W : World), Ext w0 W → W.cell? (ad.add j) = some (.int .i64 x) := fun W hW => by
          obtain ⟨ad', u', e1, e2, e3⟩ := hc0 W hW
          injection e1 with e1
          subst e1
          simp only [ints, List.getElem?_map, hx] at e2
          rw [e3, ← e2]; rfl
        have hcA := fun o => ((Ext.refl wr).alloc o).cell hc
        clear hu hx hb hq hT hFl hc0 hr
        generalize x.tdiv 8 % 40 = y at *
        have hmm : ((x.tmod 29 == 28) = true) ∨ ((x.tmod 29 == 28) = false) := by cases (x.tmod 29 == 28) <;> simp
        rcases hmm with h28 | h28
        all_goals
          rcases mod3 j with ⟨hm, hmt⟩ | ⟨hm, hmt⟩ | ⟨hm, hmt⟩
          all_goals
            clear hm
            go_wp2_with fail
            with_reducible refine (W1 _).mono ?_
            rintro e w2 ⟨rfl, rfl⟩
            go_wp2_with fail
            with_reducible refine (W2 _).mono ?_
            rintro e w2 ⟨rfl, rfl⟩
            go_wp2_with fail
            with_reducible refine (HF _ ((by repeat' (first | (with_reducible exact Ext.refl _) | (with_reducible assumption) | (with_reducible refine Ext.alloc ?_ _) | (with_reducible refine Ext.drew ?_) | (with_reducible refine Ext.drewN ?_ _) | (with_reducible refine Ext.setCell ?_ (by first | exact Nat.le_refl _ | (simp; done) | (simp; omega) | omega) _) | (with_reducible refine Ext.trans ?_ (by assumption))))) _ _ _).mono ?_
            rintro e w2 ⟨y1, y2, rfl, hT2⟩
            have hc2 := hci _ hT2.a.ext
            go_wp2_with fail
            with_reducible refine (W2 _).mono ?_
            rintro e w3 ⟨rfl, rfl⟩
            go_wp2_with fail
            with_reducible refine (HR _ _ _ _ _ _ _ hT2 (by decide)).mono ?_
            rintro e w3 ⟨y3, y4, rfl, hT3⟩
            have hT3 := Lib.hid hT3
            clear hT2
            go_wp2_with fail
            go_roundw
            case rel => exact ⟨j + 1, _, _, _, hj0.out.1, hj0.out.2, by go_num, Nat.le_trans (fixNew_len2 F' _ _ _) (by have := hF0.out; omega), hT3.out⟩
            case measure => simp [intOf]; omega
      · obtain rfl : j = 12 := by omega
        have hT0 := Lib.hid hT
        clear hT
        go_wp2_with fail
        go_end0
        exact ⟨F', u1, u2, rfl, hT0.out⟩
    · obtain rfl : j = n := by omega
      have hT0 := Lib.hid hT
      clear hT
      go_wp2_with fail
      go_end0
      exact ⟨F', u1, u2, rfl, hT0.out⟩

end Go.Proofs.Ytgjjngkmbplijaa
