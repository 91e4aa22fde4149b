/- Texts put together: Kn9b, Kn10b. -/
import Derived.Test.YtgjjngkmbplijaaZRw
import Derived.Test.YtgjjngkmbplijaaYDigits
import Derived.Deep.CutRange
import Derived.Test.YtgjjngkmbplijaaZFa
/- Known of chapter 9, again: what comes to be known are amounts, a few. Printed by wip/src/mkknb.py from XKn9. -/
namespace Go.Proofs.Ytgjjngkmbplijaa
open Go.RowKit
set_option linter.unusedSimpArgs false
set_option linter.unusedVariables false

theorem tdiv_rng2 (v k : Int) (h1 : -9223372036854775808 ≤ v) (h2 : v ≤ 9223372036854775807) (hk : 1 ≤ k) : -9223372036854775808 ≤ v.tdiv k ∧ v.tdiv k ≤ 9223372036854775807 := by
  have e : (v.tdiv k).natAbs = v.natAbs / k.natAbs := Int.natAbs_tdiv v k
  have h3 : v.natAbs / k.natAbs ≤ v.natAbs := Nat.div_le_self _ _
  rw [← e] at h3
  by_cases h0 : 0 ≤ v
  · have := Int.tdiv_nonneg (a := v) (b := k) h0 (by omega)
    omega
  · have h4 := Int.tdiv_nonneg (a := -v) (b := k) (by omega) (by omega)
    rw [Int.neg_tdiv] at h4
    omega
theorem mod3 (j : Nat) : (j % 3 = 0 ∧ (j : Int).tmod 3 = 0) ∨ (j % 3 = 1 ∧ (j : Int).tmod 3 = 1) ∨ (j % 3 = 2 ∧ (j : Int).tmod 3 = 2) := by
  have e : (j : Int).tmod 3 = ((j % 3 : Nat) : Int) := by rw [Int.tmod_eq_emod_of_nonneg (by omega)]; omega
  omega

theorem fixNew_vd {F : FixL} (h : ∀ x ∈ F, Vd x.2 = true) (s : ByteArray) (d v : Int) : ∀ x ∈ fixNew F s d v, Vd x.2 = true := by
  intro x hx
  unfold fixNew at hx
  split at hx
  · rename_i h0
    rcases List.mem_append.1 hx with hx | hx
    · exact h x hx
    · rw [List.mem_singleton.1 hx]
      cases hv : Vd v with
      | true => rfl
      | false => rw [(fixRes_arg (F := F) (s := s) (d := d) (v := v) (.inr (.inr hv))).1] at h0; omega
  · exact h x hx

set_option maxRecDepth 100000 in
set_option maxHeartbeats 3200000 in
theorem known9b_calls (w0 w : World) (p f c : Nat) (F : FixL) (C : ChL) (q : Nat) (v1 v2 : Value) (a : Option Addr) (n c0 : Nat) (l : List Int) (h : Two w0 w p f c F C q v1 v2 F C) (hF : F.length ≤ 900) (hFv : ∀ x ∈ F, Vd x.2 = true) (hin : InInts w0 a n c0 l) :
    Calls Try.prog 69 #[.pointer (some ⟨p, 0, none⟩), .pointer (some ⟨q, 0, none⟩), .slice a n c0] w fun e w' => ∃ F' v1' v2', e = .returned (.tuple #[]) ∧ Two w0 w' p f c F' C q v1' v2' F' C ∧ F'.length ≤ F.length + 12 ∧ ∀ x ∈ F', Vd x.2 = true := by
  obtain ⟨hr, hnc, hcm, hwf⟩ := hin
  have hlen : l.length = n := by have := hr.1; simpa [ints] using this
  unfold maxLen at hcm
  have H0 := Lib.hid h
  have HL := Lib.hid hwf
  have HV := Lib.hid hFv
  clear hFv
  clear h hwf
  go_enter Try.func69, Try.ntmps69
  go_wp2_with fail
  go_loopw [6] (fun i wr => ∃ (j : Nat) (F' : FixL) (u1 u2 : Value), j ≤ n ∧ j ≤ 12 ∧ i = .int .i64 j ∧ F'.length ≤ F.length + j ∧ (∀ x ∈ F', Vd x.2 = true) ∧ Two w0 wr p f c F' C q u1 u2 F' C) (fun i _ => n - (intOf i).toNat)
  case atStart => exact ⟨0, F, v1, v2, by omega, by omega, rfl, by omega, HV.out, H0.out⟩
  case round =>
    obtain ⟨j, F', u1, u2, hj, hj12, rfl, hFl, hFd, hT⟩ := hrel
    have hFd0 := Lib.hid hFd
    clear hFd
    by_cases hlt : j < n
    · by_cases h12 : j < 12
      · obtain ⟨ad, u, rfl, hu, hc⟩ := (hr.ext hT.a.ext).at1 hlt
        simp only [ints, List.getElem?_map] at hu
        obtain ⟨x, hx, rfl⟩ : ∃ x, l[j]? = some x ∧ Value.int .i64 x = u := by
          cases hx : l[j]? with
          | none => rw [hx] at hu; cases hu
          | some x => rw [hx] at hu; exact ⟨x, rfl, by simpa using hu⟩
        have hb := i64_of (HL.out x (List.mem_of_getElem? hx))
        have hb1 := hb.1
        have hb2 := hb.2
        have hq := tdiv_rng2 x 8 hb1 hb2 (by omega)
        have hq1 := hq.1
        have hq2 := hq.2
        have W1 := fun W => within_calls (x.tdiv 8) 40 W (by omega) (by omega) hq1 hq2
        have W2 := fun W => within_calls x 8 W (by omega) (by omega) hb1 hb2
        have m1 : 0 ≤ x.tdiv 8 % 40 := Int.emod_nonneg _ (by omega)
        have m2 : x.tdiv 8 % 40 < 40 := Int.emod_lt_of_pos _ (by omega)
        have hj0 := Lib.hid (show j + 1 ≤ n ∧ j + 1 ≤ 12 from ⟨hlt, h12⟩)
        have hF0 := Lib.hid hFl
        have hji : (j : Int) < (n : Int) := by omega
        have hji0 : (0 : Int) ≤ (j : Int) := by omega
        have hj12' : (j : Int) < 12 := by omega
        have HF := fun (W : World) (hW : Ext wr W) (s : ByteArray) (d v : Int) => two_fix s d v (hT.ext hW)
        have HR := fun (W : World) (y1 y2 : Value) (F3 : FixL) (s : ByteArray) (d v : Int) (hW : Two w0 W p f c F3 C q y1 y2 F' C) (hs : s.size ≤ 1000) => two_rfix s d v hW hs (by omega)
        have hT0 := Lib.hid hT
        have hc0 := fun (W : World) (h : Ext w0 W) => (hr.ext h).at1 hlt
        have hci : ∀ (W : World), Ext w0 W → W.cell? (ad.add j) = some (.int .i64 x) := fun W hW => by
          obtain ⟨ad', u', e1, e2, e3⟩ := hc0 W hW
          injection e1 with e1
          subst e1
          simp only [ints, List.getElem?_map, hx] at e2
          rw [e3, ← e2]; rfl
        have hcA := fun o => ((Ext.refl wr).alloc o).cell hc
        clear hu hx hb hq hT hFl hc0 hr
        generalize x.tdiv 8 % 40 = y at *
        have hmm : ((x.tmod 29 == 28) = true) ∨ ((x.tmod 29 == 28) = false) := by cases (x.tmod 29 == 28) <;> simp
        rcases hmm with h28 | h28
        all_goals
          rcases mod3 j with ⟨hm, hmt⟩ | ⟨hm, hmt⟩ | ⟨hm, hmt⟩
          all_goals
            clear hm
            go_wp2_with fail
            with_reducible refine (W1 _).mono ?_
            rintro e w2 ⟨rfl, rfl⟩
            go_wp2_with fail
            with_reducible refine (W2 _).mono ?_
            rintro e w2 ⟨rfl, rfl⟩
            go_wp2_with fail
            with_reducible refine (HF _ ((by repeat' (first | (with_reducible exact Ext.refl _) | (with_reducible assumption) | (with_reducible refine Ext.alloc ?_ _) | (with_reducible refine Ext.drew ?_) | (with_reducible refine Ext.drewN ?_ _) | (with_reducible refine Ext.setCell ?_ (by first | exact Nat.le_refl _ | (simp; done) | (simp; omega) | omega) _) | (with_reducible refine Ext.trans ?_ (by assumption))))) _ _ _).mono ?_
            rintro e w2 ⟨y1, y2, rfl, hT2⟩
            have hc2 := hci _ hT2.a.ext
            go_wp2_with fail
            with_reducible refine (W2 _).mono ?_
            rintro e w3 ⟨rfl, rfl⟩
            go_wp2_with fail
            with_reducible refine (HR _ _ _ _ _ _ _ hT2 (by decide)).mono ?_
            rintro e w3 ⟨y3, y4, rfl, hT3⟩
            have hT3 := Lib.hid hT3
            clear hT2
            go_wp2_with fail
            go_roundw
            case rel => exact ⟨j + 1, _, _, _, hj0.out.1, hj0.out.2, by go_num, Nat.le_trans (fixNew_len2 F' _ _ _) (by have := hF0.out; omega), fixNew_vd hFd0.out _ _ _, hT3.out⟩
            case measure => simp [intOf]; omega
      · obtain rfl : j = 12 := by omega
        have hT0 := Lib.hid hT
        clear hT
        go_wp2_with fail
        go_end0
        exact ⟨F', u1, u2, rfl, hT0.out, by omega, hFd0.out⟩
    · obtain rfl : j = n := by omega
      have hT0 := Lib.hid hT
      clear hT
      go_wp2_with fail
      go_end0
      exact ⟨F', u1, u2, rfl, hT0.out, by omega, hFd0.out⟩

end Go.Proofs.Ytgjjngkmbplijaa

/- Known of chapter 10, again: what comes to be known are amounts, a few. Printed by wip/src/mkknb.py from XKn10. -/
namespace Go.Proofs.Ytgjjngkmbplijaa
open Go.RowKit
set_option linter.unusedSimpArgs false
set_option linter.unusedVariables false

theorem wrap_id (y : Int) (h1 : -9223372036854775808 ≤ y) (h2 : y ≤ 9223372036854775807) : IntKind.i64.wrap y = y := by rw [IntKind.wrap_i64]; omega
/-- Choices that may be. -/
def choicesOk (C : ChL) : Prop := ∀ x ∈ C, dayB x.2.2 = true ∧ (x.2.1 = 0 ∨ x.2.1 = 1)
theorem choicesOk_new {C : ChL} (h : choicesOk C) (s t : ByteArray) (k d : Int) : choicesOk (chNew C s t k d) := by
  unfold chNew
  split
  · rename_i hr
    intro x hx
    simp only [List.mem_append, List.mem_singleton] at hx
    rcases hx with hx | rfl
    · exact h x hx
    · unfold chRes at hr
      split at hr
      · cases hr
      · rename_i hn
        simp only [not_or, Bool.not_eq_false] at hn
        exact ⟨hn.2.2.2, (sideB_iff k).1 hn.2.2.1⟩
  · exact h
theorem choicesOk.days {C : ChL} (h : choicesOk C) : daysOk C := fun x hx => (h x hx).1

set_option maxRecDepth 100000 in
set_option maxHeartbeats 6400000 in
theorem known10b_calls (w : World) (a : Option Addr) (n c0 : Nat) (l : List Int) (a2 : Option Addr) (n2 c2 : Nat) (l2 : List Int) (hl : InInts w a n c0 l) (hl2 : InInts w a2 n2 c2 l2) :
    Calls Try.prog 85 #[.slice a n c0, .slice a2 n2 c2] w fun e w' => ∃ P f c q v1 v2 F C, e = .returned (.tuple #[.pointer (some ⟨P, 0, none⟩), .pointer (some ⟨q, 0, none⟩)]) ∧ Two w w' P f c F C q v1 v2 F C ∧ choicesOk C ∧ F.length ≤ 12 ∧ (∀ x ∈ F, Vd x.2 = true) ∧ C.length ≤ 4 := by
  obtain ⟨hr, hnc, hcm, hwf⟩ := hl2
  have hlen : l2.length = n2 := by have := hr.1; simpa [ints] using this
  unfold maxLen at hcm
  have HL := Lib.hid hwf
  clear hwf
  go_enter Try.func85, Try.ntmps85
  (go_wp2_with fail; (with_reducible refine (new_own (Ext.refl w)).mono ?_); rintro e w' ⟨P, f, c, rfl, hO, hx⟩)
  have hT0 := hO.two
  clear hx hO
  (go_wp2_with fail; (with_reducible refine (known9b_calls w _ P f c [] [] _ _ _ a n c0 l hT0 (by decide) (by simp) hl).mono ?_); rintro e w3 ⟨F, v1, v2, rfl, hT, hFl, hFv⟩)
  have hFF := Lib.hid (And.intro hFl hFv)
  clear hFl hFv
  generalize w'.heap.size = q at *
  clear hT0
  have H0 := Lib.hid hT
  clear hT
  go_wp2_with fail
  go_loopw [8] (fun i wr => ∃ (j : Nat) (C : ChL) (u1 u2 : Value), j ≤ n2 ∧ j ≤ 4 ∧ i = .int .i64 j ∧ C.length ≤ j ∧ choicesOk C ∧ Two w wr P f c F C q u1 u2 F C) (fun i _ => n2 - (intOf i).toNat)
  case atStart => exact ⟨0, [], v1, v2, by omega, by omega, rfl, by simp, fun x hx => (by cases hx), H0.out⟩
  case round =>
    obtain ⟨j, C, u1, u2, hj, hj4, rfl, hCl, hCk, hT⟩ := hrel
    by_cases hlt : j < n2
    · by_cases h4 : j < 4
      · obtain ⟨ad, u, rfl, hu, hcell⟩ := (hr.ext hT.a.ext).at1 hlt
        simp only [ints, List.getElem?_map] at hu
        obtain ⟨x, hx, rfl⟩ : ∃ x, l2[j]? = some x ∧ Value.int .i64 x = u := by
          cases hx : l2[j]? with
          | none => rw [hx] at hu; cases hu
          | some x => rw [hx] at hu; exact ⟨x, rfl, by simpa using hu⟩
        have hxb := i64_of (HL.out x (List.mem_of_getElem? hx))
        have hq := tdiv_rng2 x 2 hxb.1 hxb.2 (by omega)
        have hqh := Lib.hid hq
        have HW2 := fun W => within_calls x 2 W (by omega) (by omega) hxb.1 hxb.2
        have HW6 := fun W => within_calls (x.tdiv 2) 6 W (by omega) (by omega) hq.1 hq.2
        have HD := fun W => digits_calls (j + 2) (j + 1) W (by omega) (by omega)
        have hds := decB_size 7 (j + 1) (by omega)
        have hj0 := Lib.hid (show j + 1 ≤ n2 ∧ j + 1 ≤ 4 from ⟨hlt, h4⟩)
        have hC0 := Lib.hid (And.intro hCl hCk)
        have hji : (j : Int) < (n2 : Int) := by omega
        have hji0 : (0 : Int) ≤ (j : Int) := by omega
        have hj4' : (j : Int) < 4 := by omega
        have hsz0 : ¬ (9223372036854775807 < 2 + (decB (j + 1)).size) := by omega
        have hsz3 : ¬ (9223372036854775807 < (decB (j + 1)).size + 2) := by omega
        rw [show ((j + 1 : Nat) : Int) = (j : Int) + 1 by omega] at HD
        have hcA : ∀ W, Ext wr W → W.cell? (ad.add j) = some (.int .i64 x) := fun W hW => hW.cell hcell
        have hci : ∀ (W : World), Ext w W → W.cell? (ad.add j) = some (.int .i64 x) := fun W hW => by
          obtain ⟨ad', u', e1, e2, e3⟩ := (hr.ext hW).at1 hlt
          injection e1 with e1
          subst e1
          simp only [ints, List.getElem?_map, hx] at e2
          rw [e3, ← e2]; rfl
        generalize hsd : (⟨#[99, 104]⟩ : ByteArray) ++ decB (j + 1) = s at *
        have hss : s.size ≤ 1000 := by rw [← hsd, ByteArray.size_append]; have : ByteArray.size ⟨#[99, 104]⟩ = 2 := rfl; omega
        have hT0 := Lib.hid hT
        clear hu hx hq hT
        (go_wp2_with fail; (with_reducible refine (HD _).mono ?_); rintro e w5 ⟨rfl, hx5⟩)
        have hc5 := hcA w5 hx5
        have hmm : ((x.tmod 3 != 0) = true) ∨ ((x.tmod 3 != 0) = false) := by cases (x.tmod 3 != 0) <;> simp
        rcases hmm with h3 | h3
        · go_upto_region 10 with fail
          have hT5 := Lib.hid (hT0.out.ext hx5)
          refine wp_region_slots 13 [0, 1, 2, 3, 4, 5, 6, 7, 8, 9, 10, 11, 12] _ [40, 41, 42, 43, 44, 45, 46, 47, 48, 49, 50, 51, 52] (fun i _ u => u = ([.pointer (some ⟨P, 0, none⟩), .string s, .slice (some ad) n2 c2, .int .i64 (j : Int), .pointer (some (ad.add j)), .int .i64 x, .int .i64 (x % 2), .slice (some ad) n2 c2, .int .i64 (j : Int), .pointer (some (ad.add j)), .int .i64 x, .int .i64 (x.tdiv 2), .int .i64 (x.tdiv 2 % 6)] : List Value).getD i undef) (fun _ W => Ext w5 W) (by kernel_rfl) rfl (by kernel_rfl) (by kernel_rfl) rfl rfl rfl (by decide) rfl ?_ ?_ ?_
          · exact (Ext.refl _).drew
          · refine slots_cons rfl ?_ (slots_cons rfl ?_ (slots_cons rfl ?_ (slots_cons rfl ?_ (slots_cons rfl ?_ (slots_cons rfl ?_ (slots_cons rfl ?_ (slots_cons rfl ?_ (slots_cons rfl ?_ (slots_cons rfl ?_ (slots_cons rfl ?_ (slots_cons rfl ?_ (slots_cons rfl ?_ slots_nil))))))))))))
            · intro l a W hs ho hG hd hne K' hK
              have b6 : a.tmps[6]?.getD undef = .pointer (some ⟨P, 0, none⟩) := ho.ev 6 rfl
              clear hd ho hne
              go_simp
              exact hK _ _ rfl hG (fun j' v' _ hf => hf)
            · intro l a W hs ho hG hd hne K' hK
              have b9 : a.tmps[9]?.getD undef = .string s := ho.ev 9 rfl
              clear hd ho hne
              go_simp
              exact hK _ _ rfl hG (fun j' v' _ hf => hf)
            · intro l a W hs ho hG hd hne K' hK
              have b1 : a.tmps[1]?.getD undef = .slice (some ad) n2 c2 := ho.ev 1 rfl
              clear hd ho hne
              go_simp
              exact hK _ _ rfl hG (fun j' v' _ hf => hf)
            · intro l a W hs ho hG hd hne K' hK
              have b8 : a.tmps[8]?.getD undef = .int .i64 (j : Int) := ho.ev 8 rfl
              clear hd ho hne
              go_simp
              exact hK _ _ rfl hG (fun j' v' _ hf => hf)
            · intro l a W hs ho hG hd hne K' hK
              have e2 : a.tmps[42]?.getD undef = .slice (some ad) n2 c2 := hd ⟨2, .data⟩ (by simp) rfl
              have e3 : a.tmps[43]?.getD undef = .int .i64 (j : Int) := hd ⟨3, .data⟩ (by simp) rfl
              have hj0' : (0 : Int) ≤ (j : Int) := by omega
              have hjn2 : (j : Int) < (n2 : Int) := by omega
              clear hd ho hne
              go_simp
              exact hK _ _ rfl hG (fun j' v' _ hf => hf)
            · intro l a W hs ho hG hd hne K' hK
              have e4 : a.tmps[44]?.getD undef = .pointer (some (ad.add j)) := hd ⟨4, .data⟩ (by simp) rfl
              have hc := hG.cell hc5
              clear hd ho hne
              go_simp
              exact hK _ _ rfl hG (fun j' v' _ hf => hf)
            · intro l a W hs ho hG hd hne K' hK
              have e5 : a.tmps[45]?.getD undef = .int .i64 x := hd ⟨5, .data⟩ (by simp) rfl
              clear hd ho hne
              go_simp
              go_at_call 34
              (with_reducible refine (HW2 W).mono ?_)
              rintro e W2 ⟨rfl, rfl⟩
              go_simp
              exact hK _ _ rfl hG (fun j' v' _ hf => hf)
            · intro l a W hs ho hG hd hne K' hK
              have b1 : a.tmps[1]?.getD undef = .slice (some ad) n2 c2 := ho.ev 1 rfl
              clear hd ho hne
              go_simp
              exact hK _ _ rfl hG (fun j' v' _ hf => hf)
            · intro l a W hs ho hG hd hne K' hK
              have b8 : a.tmps[8]?.getD undef = .int .i64 (j : Int) := ho.ev 8 rfl
              clear hd ho hne
              go_simp
              exact hK _ _ rfl hG (fun j' v' _ hf => hf)
            · intro l a W hs ho hG hd hne K' hK
              have e7 : a.tmps[47]?.getD undef = .slice (some ad) n2 c2 := hd ⟨7, .data⟩ (by simp) rfl
              have e8 : a.tmps[48]?.getD undef = .int .i64 (j : Int) := hd ⟨8, .data⟩ (by simp) rfl
              have hj0' : (0 : Int) ≤ (j : Int) := by omega
              have hjn2 : (j : Int) < (n2 : Int) := by omega
              clear hd ho hne
              go_simp
              exact hK _ _ rfl hG (fun j' v' _ hf => hf)
            · intro l a W hs ho hG hd hne K' hK
              have e9 : a.tmps[49]?.getD undef = .pointer (some (ad.add j)) := hd ⟨9, .data⟩ (by simp) rfl
              have hc := hG.cell hc5
              clear hd ho hne
              go_simp
              exact hK _ _ rfl hG (fun j' v' _ hf => hf)
            · intro l a W hs ho hG hd hne K' hK
              have e10 : a.tmps[50]?.getD undef = .int .i64 x := hd ⟨10, .data⟩ (by simp) rfl
              have hwr := wrap_id _ hqh.out.1 hqh.out.2
              clear hd ho hne
              go_simp
              exact hK _ _ rfl hG (fun j' v' _ hf => hf)
            · intro l a W hs ho hG hd hne K' hK
              have e11 : a.tmps[51]?.getD undef = .int .i64 (x.tdiv 2) := hd ⟨11, .data⟩ (by simp) rfl
              clear hd ho hne
              go_simp
              go_at_call 34
              (with_reducible refine (HW6 W).mono ?_)
              rintro e W2 ⟨rfl, rfl⟩
              go_simp
              exact hK _ _ rfl hG (fun j' v' _ hf => hf)
          · intro l a W ho hG hall hF K' hK
            have e0 : a.tmps[40]?.getD undef = .pointer (some ⟨P, 0, none⟩) := hF 0 (by omega)
            have e1 : a.tmps[41]?.getD undef = .string s := hF 1 (by omega)
            have e6 : a.tmps[46]?.getD undef = .int .i64 (x % 2) := hF 6 (by omega)
            have e12 : a.tmps[52]?.getD undef = .int .i64 (x.tdiv 2 % 6) := hF 12 (by omega)
            obtain ⟨fr, hfr⟩ : ∃ fr : Tmp → Value, a = ([40, 41, 42, 43, 44, 45, 46, 47, 48, 49, 50, 51, 52] : List Tmp).foldl (fun b d => b.put (some d) (fr d)) _ := ⟨_, ho.puts⟩
            have hfr0 := Lib.hid hfr
            clear hfr ho hF hall
            go_simp
            go_at_call 36
            (with_reducible refine (two_choose ⟨#[116]⟩ s _ _ (hT5.out.ext hG)).mono ?_)
            rintro e W6 ⟨y1, y2, rfl, hT6⟩
            have hc6 := hci _ hT6.a.ext
            have hT7 := Lib.hid hT6
            clear hT6
            go_simp
            refine hK _ _ ?_
            rw [hfr0.out]
            simp only [List.foldl]
            clear e0 e1 e6 e12 hfr0 hK hG
            go_upto_region 11 with fail
            go_simp
            refine wp_region_slots 13 [0, 1, 2, 3, 4, 5, 6, 7, 8, 9, 10, 11, 12] _ [54, 55, 56, 57, 58, 59, 60, 61, 62, 63, 64, 65, 66] (fun i _ u => u = ([.pointer (some ⟨q, 0, none⟩), .string s, .slice (some ad) n2 c2, .int .i64 (j : Int), .pointer (some (ad.add j)), .int .i64 x, .int .i64 (x % 2), .slice (some ad) n2 c2, .int .i64 (j : Int), .pointer (some (ad.add j)), .int .i64 x, .int .i64 (x.tdiv 2), .int .i64 (x.tdiv 2 % 6)] : List Value).getD i undef) (fun _ W => Ext W6 W) (by kernel_rfl) rfl (by kernel_rfl) (by kernel_rfl) rfl rfl rfl (by decide) rfl ?_ ?_ ?_
            · exact (Ext.refl _).drew
            · refine slots_cons rfl ?_ (slots_cons rfl ?_ (slots_cons rfl ?_ (slots_cons rfl ?_ (slots_cons rfl ?_ (slots_cons rfl ?_ (slots_cons rfl ?_ (slots_cons rfl ?_ (slots_cons rfl ?_ (slots_cons rfl ?_ (slots_cons rfl ?_ (slots_cons rfl ?_ (slots_cons rfl ?_ slots_nil))))))))))))
              · intro l a W hs ho hG hd hne K' hK
                have b7 : a.tmps[7]?.getD undef = .pointer (some ⟨q, 0, none⟩) := ho.ev 7 rfl
                clear hd ho hne
                go_simp
                exact hK _ _ rfl hG (fun j' v' _ hf => hf)
              · intro l a W hs ho hG hd hne K' hK
                have b9 : a.tmps[9]?.getD undef = .string s := ho.ev 9 rfl
                clear hd ho hne
                go_simp
                exact hK _ _ rfl hG (fun j' v' _ hf => hf)
              · intro l a W hs ho hG hd hne K' hK
                have b1 : a.tmps[1]?.getD undef = .slice (some ad) n2 c2 := ho.ev 1 rfl
                clear hd ho hne
                go_simp
                exact hK _ _ rfl hG (fun j' v' _ hf => hf)
              · intro l a W hs ho hG hd hne K' hK
                have b8 : a.tmps[8]?.getD undef = .int .i64 (j : Int) := ho.ev 8 rfl
                clear hd ho hne
                go_simp
                exact hK _ _ rfl hG (fun j' v' _ hf => hf)
              · intro l a W hs ho hG hd hne K' hK
                have e2 : a.tmps[56]?.getD undef = .slice (some ad) n2 c2 := hd ⟨2, .data⟩ (by simp) rfl
                have e3 : a.tmps[57]?.getD undef = .int .i64 (j : Int) := hd ⟨3, .data⟩ (by simp) rfl
                have hj0' : (0 : Int) ≤ (j : Int) := by omega
                have hjn2 : (j : Int) < (n2 : Int) := by omega
                clear hd ho hne
                go_simp
                exact hK _ _ rfl hG (fun j' v' _ hf => hf)
              · intro l a W hs ho hG hd hne K' hK
                have e4 : a.tmps[58]?.getD undef = .pointer (some (ad.add j)) := hd ⟨4, .data⟩ (by simp) rfl
                have hc := hG.cell hc6
                clear hd ho hne
                go_simp
                exact hK _ _ rfl hG (fun j' v' _ hf => hf)
              · intro l a W hs ho hG hd hne K' hK
                have e5 : a.tmps[59]?.getD undef = .int .i64 x := hd ⟨5, .data⟩ (by simp) rfl
                clear hd ho hne
                go_simp
                go_at_call 34
                (with_reducible refine (HW2 W).mono ?_)
                rintro e W2 ⟨rfl, rfl⟩
                go_simp
                exact hK _ _ rfl hG (fun j' v' _ hf => hf)
              · intro l a W hs ho hG hd hne K' hK
                have b1 : a.tmps[1]?.getD undef = .slice (some ad) n2 c2 := ho.ev 1 rfl
                clear hd ho hne
                go_simp
                exact hK _ _ rfl hG (fun j' v' _ hf => hf)
              · intro l a W hs ho hG hd hne K' hK
                have b8 : a.tmps[8]?.getD undef = .int .i64 (j : Int) := ho.ev 8 rfl
                clear hd ho hne
                go_simp
                exact hK _ _ rfl hG (fun j' v' _ hf => hf)
              · intro l a W hs ho hG hd hne K' hK
                have e7 : a.tmps[61]?.getD undef = .slice (some ad) n2 c2 := hd ⟨7, .data⟩ (by simp) rfl
                have e8 : a.tmps[62]?.getD undef = .int .i64 (j : Int) := hd ⟨8, .data⟩ (by simp) rfl
                have hj0' : (0 : Int) ≤ (j : Int) := by omega
                have hjn2 : (j : Int) < (n2 : Int) := by omega
                clear hd ho hne
                go_simp
                exact hK _ _ rfl hG (fun j' v' _ hf => hf)
              · intro l a W hs ho hG hd hne K' hK
                have e9 : a.tmps[63]?.getD undef = .pointer (some (ad.add j)) := hd ⟨9, .data⟩ (by simp) rfl
                have hc := hG.cell hc6
                clear hd ho hne
                go_simp
                exact hK _ _ rfl hG (fun j' v' _ hf => hf)
              · intro l a W hs ho hG hd hne K' hK
                have e10 : a.tmps[64]?.getD undef = .int .i64 x := hd ⟨10, .data⟩ (by simp) rfl
                have hwr := wrap_id _ hqh.out.1 hqh.out.2
                clear hd ho hne
                go_simp
                exact hK _ _ rfl hG (fun j' v' _ hf => hf)
              · intro l a W hs ho hG hd hne K' hK
                have e11 : a.tmps[65]?.getD undef = .int .i64 (x.tdiv 2) := hd ⟨11, .data⟩ (by simp) rfl
                clear hd ho hne
                go_simp
                go_at_call 34
                (with_reducible refine (HW6 W).mono ?_)
                rintro e W2 ⟨rfl, rfl⟩
                go_simp
                exact hK _ _ rfl hG (fun j' v' _ hf => hf)
            · intro l a W ho hG hall hF K' hK
              have e0 : a.tmps[54]?.getD undef = .pointer (some ⟨q, 0, none⟩) := hF 0 (by omega)
              have e1 : a.tmps[55]?.getD undef = .string s := hF 1 (by omega)
              have e6 : a.tmps[60]?.getD undef = .int .i64 (x % 2) := hF 6 (by omega)
              have e12 : a.tmps[66]?.getD undef = .int .i64 (x.tdiv 2 % 6) := hF 12 (by omega)
              obtain ⟨fr, hfr⟩ : ∃ fr : Tmp → Value, a = ([54, 55, 56, 57, 58, 59, 60, 61, 62, 63, 64, 65, 66] : List Tmp).foldl (fun b d => b.put (some d) (fr d)) _ := ⟨_, ho.puts⟩
              have hfr0 := Lib.hid hfr
              clear hfr ho hF hall
              go_simp
              go_at_call 95
              (with_reducible refine (two_rchoose ⟨#[116]⟩ s _ _ (hT7.out.ext hG) (by decide) hss (by have := hC0.out.1; omega)).mono ?_)
              rintro e W2 ⟨y3, y4, rfl, hT8⟩
              have hT8 := Lib.hid hT8
              go_simp
              refine hK _ _ ?_
              rw [hfr0.out]
              simp only [List.foldl]
              clear e0 e1 e6 e12 hfr0 hK hG
              go_wp2_with fail
              go_roundw
              case rel => exact ⟨j + 1, _, _, _, hj0.out.1, hj0.out.2, by go_num, Nat.le_trans (chNew_len C _ _ _ _) (by have := hC0.out.1; omega), choicesOk_new hC0.out.2 _ _ _ _, hT8.out⟩
              case measure => simp [intOf]; omega
        · go_wp2_with fail
          go_roundw
          case rel => exact ⟨j + 1, C, _, _, hj0.out.1, hj0.out.2, by go_num, by have := hC0.out.1; omega, hC0.out.2, hT0.out.ext hx5⟩
          case measure => simp [intOf]; omega
      · obtain rfl : j = 4 := by omega
        have hT0 := Lib.hid (And.intro hT hCk)
        clear hT
        go_wp2_with fail
        go_ret2
        exact ⟨P, f, c, q, u1, u2, F, C, rfl, hT0.out.1, hT0.out.2, by have := hFF.out.1; simpa using this, hFF.out.2, by omega⟩
    · obtain rfl : j = n2 := by omega
      have hT0 := Lib.hid (And.intro hT hCk)
      clear hT
      go_wp2_with fail
      go_ret2
      exact ⟨P, f, c, q, u1, u2, F, C, rfl, hT0.out.1, hT0.out.2, by have := hFF.out.1; simpa using this, hFF.out.2, by omega⟩

end Go.Proofs.Ytgjjngkmbplijaa
