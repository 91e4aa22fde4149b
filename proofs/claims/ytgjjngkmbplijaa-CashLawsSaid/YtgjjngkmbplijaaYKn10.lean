/- Law 10's Known: fixings and choices in both worlds. Printed by wip/src/mkkn10.py. -/
import Derived.Test.YtgjjngkmbplijaaYKn9
import Derived.Test.YtgjjngkmbplijaaYDigits
import Derived.Deep.CutRange
import Derived.Test.YtgjjngkmbplijaaZFa

namespace Go.Proofs.Ytgjjngkmbplijaa
open Go.RowKit
set_option linter.unusedSimpArgs false
set_option linter.unusedVariables false

theorem wrap_id (y : Int) (h1 : -9223372036854775808 ≤ y) (h2 : y ≤ 9223372036854775807) : IntKind.i64.wrap y = y := by rw [IntKind.wrap_i64]; omega
/-- Choices that may be. -/
def choicesOk (C : ChL) : Prop := ∀ x ∈ C, dayB x.2.2 = true ∧ (x.2.1 = 0 ∨ x.2.1 = 1)
theorem choicesOk_new {C : ChL} (h : choicesOk C) (s t : ByteArray) (k d : Int) : choicesOk (chNew C s t k d) := by
  unfold chNew
  split
  · rename_i hr
    intro x hx
    simp only [List.mem_append, List.mem_singleton] at hx
    rcases hx with hx | rfl
    · exact h x hx
    · unfold chRes at hr
      split at hr
      · cases hr
      · rename_i hn
        simp only [not_or, Bool.not_eq_false] at hn
        exact ⟨hn.2.2.2, (sideB_iff k).1 hn.2.2.1⟩
  · exact h
theorem choicesOk.days {C : ChL} (h : choicesOk C) : daysOk C := fun x hx => (h x hx).1

set_option maxRecDepth 100000 in
set_option maxHeartbeats 6400000 in
theorem known10_calls (w : World) (a : Option Addr) (n c0 : Nat) (l : List Int) (a2 : Option Addr) (n2 c2 : Nat) (l2 : List Int) (hl : InInts w a n c0 l) (hl2 : InInts w a2 n2 c2 l2) :
    Calls Try.prog 85 #[.slice a n c0, .slice a2 n2 c2] w fun e w' => ∃ P f c q v1 v2 F C, e = .returned (.tuple #[.pointer (some ⟨P, 0, none⟩), .pointer (some ⟨q, 0, none⟩)]) ∧ Two w w' P f c F C q v1 v2 F C ∧ choicesOk C := by
  obtain ⟨hr, hnc, hcm, hwf⟩ := hl2
  have hlen : l2.length = n2 := by have := hr.1; simpa [ints] using this
  unfold maxLen at hcm
  have HL := Lib.hid hwf
  clear hwf
  go_enter Try.func85, Try.ntmps85
  (go_wp2_with fail; (with_reducible refine (new_own (Ext.refl w)).mono ?_); rintro e w' ⟨P, f, c, rfl, hO, hx⟩)
  have hT0 := hO.two
  clear hx hO
  (go_wp2_with fail; (with_reducible refine (known9_calls w _ P f c [] [] _ _ _ a n c0 l hT0 (by decide) hl).mono ?_); rintro e w3 ⟨F, v1, v2, rfl, hT⟩)
  generalize w'.heap.size = q at *
  clear hT0
  have H0 := Lib.hid hT
  clear hT
  go_wp2_with fail
  go_loopw [8] (fun i wr => ∃ (j : Nat) (C : ChL) (u1 u2 : Value), j ≤ n2 ∧ j ≤ 4 ∧ i = .int .i64 j ∧ C.length ≤ j ∧ choicesOk C ∧ Two w wr P f c F C q u1 u2 F C) (fun i _ => n2 - (intOf i).toNat)
  case atStart => exact ⟨0, [], v1, v2, by omega, by omega, rfl, by simp, fun x hx => (by cases hx), H0.out⟩
  case round =>
    obtain ⟨j, C, u1, u2, hj, hj4, rfl, hCl, hCk, hT⟩ := hrel
    by_cases hlt : j < n2
    · by_cases h4 : j < 4
      · obtain ⟨ad, u, rfl, hu, hcell⟩ := (hr.ext hT.a.ext).at1 hlt
        simp only [ints, List.getElem?_map] at hu
        obtain ⟨x, hx, rfl⟩ : ∃ x, l2[j]? = some x ∧ Value.int .i64 x = u := by
          cases hx : l2[j]? with
          | none => rw [hx] at hu; cases hu
          | some x => rw [hx] at hu; exact ⟨x, rfl, by simpa using hu⟩
        have hxb := i64_of (HL.out x (List.mem_of_getElem? hx))
        have hq := tdiv_rng2 x 2 hxb.1 hxb.2 (by omega)
        have hqh := Lib.hid hq
        have HW2 := fun W => within_calls x 2 W (by omega) (by omega) hxb.1 hxb.2
        have HW6 := fun W => within_calls (x.tdiv 2) 6 W (by omega) (by omega) hq.1 hq.2
        have HD := fun W => digits_calls (j + 2) (j + 1) W (by omega) (by omega)
        have hds := decB_size 7 (j + 1) (by omega)
        have hj0 := Lib.hid (show j + 1 ≤ n2 ∧ j + 1 ≤ 4 from ⟨hlt, h4⟩)
        have hC0 := Lib.hid (And.intro hCl hCk)
        have hji : (j : Int) < (n2 : Int) := by omega
        have hji0 : (0 : Int) ≤ (j : Int) := by omega
        have hj4' : (j : Int) < 4 := by omega
        have hsz0 : ¬ (9223372036854775807 < 2 + (decB (j + 1)).size) := by omega
        have hsz3 : ¬ (9223372036854775807 < (decB (j + 1)).size + 2) := by omega
        rw [show ((j + 1 : Nat) : Int) = (j : Int) + 1 by omega] at HD
        have hcA : ∀ W, Ext wr W → W.cell? (ad.add j) = some (.int .i64 x) := fun W hW => hW.cell hcell
        have hci : ∀ (W : World), Ext w W → W.cell? (ad.add j) = some (.int .i64 x) := fun W hW => by
          obtain ⟨ad', u', e1, e2, e3⟩ := (hr.ext hW).at1 hlt
          injection e1 with e1
          subst e1
          simp only [ints, List.getElem?_map, hx] at e2
          rw [e3, ← e2]; rfl
        generalize hsd : (⟨#[99, 104]⟩ : ByteArray) ++ decB (j + 1) = s at *
        have hss : s.size ≤ 1000 := by rw [← hsd, ByteArray.size_append]; have : ByteArray.size ⟨#[99, 104]⟩ = 2 := rfl; omega
        have hT0 := Lib.hid hT
        clear hu hx hq hT
        (go_wp2_with fail; (with_reducible refine (HD _).mono ?_); rintro e w5 ⟨rfl, hx5⟩)
        have hc5 := hcA w5 hx5
        have hmm : ((x.tmod 3 != 0) = true) ∨ ((x.tmod 3 != 0) = false) := by cases (x.tmod 3 != 0) <;> simp
        rcases hmm with h3 | h3
        · go_upto_region 10 with fail
          have hT5 := Lib.hid (hT0.out.ext hx5)
          refine wp_region_slots 13 [0, 1, 2, 3, 4, 5, 6, 7, 8, 9, 10, 11, 12] _ [40, 41, 42, 43, 44, 45, 46, 47, 48, 49, 50, 51, 52] (fun i _ u => u = ([.pointer (some ⟨P, 0, none⟩), .string s, .slice (some ad) n2 c2, .int .i64 (j : Int), .pointer (some (ad.add j)), .int .i64 x, .int .i64 (x % 2), .slice (some ad) n2 c2, .int .i64 (j : Int), .pointer (some (ad.add j)), .int .i64 x, .int .i64 (x.tdiv 2), .int .i64 (x.tdiv 2 % 6)] : List Value).getD i undef) (fun _ W => Ext w5 W) (by kernel_rfl) rfl (by kernel_rfl) (by kernel_rfl) rfl rfl rfl (by decide) rfl ?_ ?_ ?_
          · exact (Ext.refl _).drew
          · refine slots_cons rfl ?_ (slots_cons rfl ?_ (slots_cons rfl ?_ (slots_cons rfl ?_ (slots_cons rfl ?_ (slots_cons rfl ?_ (slots_cons rfl ?_ (slots_cons rfl ?_ (slots_cons rfl ?_ (slots_cons rfl ?_ (slots_cons rfl ?_ (slots_cons rfl ?_ (slots_cons rfl ?_ slots_nil))))))))))))
            · intro l a W hs ho hG hd hne K' hK
              have b6 : a.tmps[6]?.getD undef = .pointer (some ⟨P, 0, none⟩) := ho.ev 6 rfl
              clear hd ho hne
              go_simp
              exact hK _ _ rfl hG (fun j' v' _ hf => hf)
            · intro l a W hs ho hG hd hne K' hK
              have b9 : a.tmps[9]?.getD undef = .string s := ho.ev 9 rfl
              clear hd ho hne
              go_simp
              exact hK _ _ rfl hG (fun j' v' _ hf => hf)
            · intro l a W hs ho hG hd hne K' hK
              have b1 : a.tmps[1]?.getD undef = .slice (some ad) n2 c2 := ho.ev 1 rfl
              clear hd ho hne
              go_simp
              exact hK _ _ rfl hG (fun j' v' _ hf => hf)
            · intro l a W hs ho hG hd hne K' hK
              have b8 : a.tmps[8]?.getD undef = .int .i64 (j : Int) := ho.ev 8 rfl
              clear hd ho hne
              go_simp
              exact hK _ _ rfl hG (fun j' v' _ hf => hf)
            · intro l a W hs ho hG hd hne K' hK
              have e2 : a.tmps[42]?.getD undef = .slice (some ad) n2 c2 := hd ⟨2, .data⟩ (by simp) rfl
              have e3 : a.tmps[43]?.getD undef = .int .i64 (j : Int) := hd ⟨3, .data⟩ (by simp) rfl
              have hj0' : (0 : Int) ≤ (j : Int) := by omega
              have hjn2 : (j : Int) < (n2 : Int) := by omega
              clear hd ho hne
              go_simp
              exact hK _ _ rfl hG (fun j' v' _ hf => hf)
            · intro l a W hs ho hG hd hne K' hK
              have e4 : a.tmps[44]?.getD undef = .pointer (some (ad.add j)) := hd ⟨4, .data⟩ (by simp) rfl
              have hc := hG.cell hc5
              clear hd ho hne
              go_simp
              exact hK _ _ rfl hG (fun j' v' _ hf => hf)
            · intro l a W hs ho hG hd hne K' hK
              have e5 : a.tmps[45]?.getD undef = .int .i64 x := hd ⟨5, .data⟩ (by simp) rfl
              clear hd ho hne
              go_simp
              go_at_call 34
              (with_reducible refine (HW2 W).mono ?_)
              rintro e W2 ⟨rfl, rfl⟩
              go_simp
              exact hK _ _ rfl hG (fun j' v' _ hf => hf)
            · intro l a W hs ho hG hd hne K' hK
              have b1 : a.tmps[1]?.getD undef = .slice (some ad) n2 c2 := ho.ev 1 rfl
              clear hd ho hne
              go_simp
              exact hK _ _ rfl hG (fun j' v' _ hf => hf)
            · intro l a W hs ho hG hd hne K' hK
              have b8 : a.tmps[8]?.getD undef = .int .i64 (j : Int) := ho.ev 8 rfl
              clear hd ho hne
              go_simp
              exact hK _ _ rfl hG (fun j' v' _ hf => hf)
            · intro l a W hs ho hG hd hne K' hK
              have e7 : a.tmps[47]?.getD undef = .slice (some ad) n2 c2 := hd ⟨7, .data⟩ (by simp) rfl
              have e8 : a.tmps[48]?.getD undef = .int .i64 (j : Int) := hd ⟨8, .data⟩ (by simp) rfl
              have hj0' : (0 : Int) ≤ (j : Int) := by omega
              have hjn2 : (j : Int) < (n2 : Int) := by omega
              clear hd ho hne
              go_simp
              exact hK _ _ rfl hG (fun j' v' _ hf => hf)
            · intro l a W hs ho hG hd hne K' hK
              have e9 : a.tmps[49]?.getD undef = .pointer (some (ad.add j)) := hd ⟨9, .data⟩ (by simp) rfl
              have hc := hG.cell hc5
              clear hd ho hne
              go_simp
              exact hK _ _ rfl hG (fun j' v' _ hf => hf)
            · intro l a W hs ho hG hd hne K' hK
              have e10 : a.tmps[50]?.getD undef = .int .i64 x := hd ⟨10, .data⟩ (by simp) rfl
              have hwr := wrap_id _ hqh.out.1 hqh.out.2
              clear hd ho hne
              go_simp
              exact hK _ _ rfl hG (fun j' v' _ hf => hf)
            · intro l a W hs ho hG hd hne K' hK
              have e11 : a.tmps[51]?.getD undef = .int .i64 (x.tdiv 2) := hd ⟨11, .data⟩ (by simp) rfl
              clear hd ho hne
              go_simp
              go_at_call 34
              (with_reducible refine (HW6 W).mono ?_)
              rintro e W2 ⟨rfl, rfl⟩
              go_simp
              exact hK _ _ rfl hG (fun j' v' _ hf => hf)
          · intro l a W ho hG hall hF K' hK
            have e0 : a.tmps[40]?.getD undef = .pointer (some ⟨P, 0, none⟩) := hF 0 (by omega)
            have e1 : a.tmps[41]?.getD undef = .string s := hF 1 (by omega)
            have e6 : a.tmps[46]?.getD undef = .int .i64 (x % 2) := hF 6 (by omega)
            have e12 : a.tmps[52]?.getD undef = .int .i64 (x.tdiv 2 % 6) := hF 12 (by omega)
            obtain ⟨fr, hfr⟩ : ∃ fr : Tmp → Value, a = ([40, 41, 42, 43, 44, 45, 46, 47, 48, 49, 50, 51, 52] : List Tmp).foldl (fun b d => b.put (some d) (fr d)) _ := ⟨_, ho.puts⟩
            have hfr0 := Lib.hid hfr
            clear hfr ho hF hall
            go_simp
            go_at_call 36
            (with_reducible refine (two_choose ⟨#[116]⟩ s _ _ (hT5.out.ext hG)).mono ?_)
            rintro e W6 ⟨y1, y2, rfl, hT6⟩
            have hc6 := hci _ hT6.a.ext
            have hT7 := Lib.hid hT6
            clear hT6
            go_simp
            refine hK _ _ ?_
            rw [hfr0.out]
            simp only [List.foldl]
            clear e0 e1 e6 e12 hfr0 hK hG
            go_upto_region 11 with fail
            go_simp
            refine wp_region_slots 13 [0, 1, 2, 3, 4, 5, 6, 7, 8, 9, 10, 11, 12] _ [54, 55, 56, 57, 58, 59, 60, 61, 62, 63, 64, 65, 66] (fun i _ u => u = ([.pointer (some ⟨q, 0, none⟩), .string s, .slice (some ad) n2 c2, .int .i64 (j : Int), .pointer (some (ad.add j)), .int .i64 x, .int .i64 (x % 2), .slice (some ad) n2 c2, .int .i64 (j : Int), .pointer (some (ad.add j)), .int .i64 x, .int .i64 (x.tdiv 2), .int .i64 (x.tdiv 2 % 6)] : List Value).getD i undef) (fun _ W => Ext W6 W) (by kernel_rfl) rfl (by kernel_rfl) (by kernel_rfl) rfl rfl rfl (by decide) rfl ?_ ?_ ?_
            · exact (Ext.refl _).drew
            · refine slots_cons rfl ?_ (slots_cons rfl ?_ (slots_cons rfl ?_ (slots_cons rfl ?_ (slots_cons rfl ?_ (slots_cons rfl ?_ (slots_cons rfl ?_ (slots_cons rfl ?_ (slots_cons rfl ?_ (slots_cons rfl ?_ (slots_cons rfl ?_ (slots_cons rfl ?_ (slots_cons rfl ?_ slots_nil))))))))))))
              · intro l a W hs ho hG hd hne K' hK
                have b7 : a.tmps[7]?.getD undef = .pointer (some ⟨q, 0, none⟩) := ho.ev 7 rfl
                clear hd ho hne
                go_simp
                exact hK _ _ rfl hG (fun j' v' _ hf => hf)
              · intro l a W hs ho hG hd hne K' hK
                have b9 : a.tmps[9]?.getD undef = .string s := ho.ev 9 rfl
                clear hd ho hne
                go_simp
                exact hK _ _ rfl hG (fun j' v' _ hf => hf)
              · intro l a W hs ho hG hd hne K' hK
                have b1 : a.tmps[1]?.getD undef = .slice (some ad) n2 c2 := ho.ev 1 rfl
                clear hd ho hne
                go_simp
                exact hK _ _ rfl hG (fun j' v' _ hf => hf)
              · intro l a W hs ho hG hd hne K' hK
                have b8 : a.tmps[8]?.getD undef = .int .i64 (j : Int) := ho.ev 8 rfl
                clear hd ho hne
                go_simp
                exact hK _ _ rfl hG (fun j' v' _ hf => hf)
              · intro l a W hs ho hG hd hne K' hK
                have e2 : a.tmps[56]?.getD undef = .slice (some ad) n2 c2 := hd ⟨2, .data⟩ (by simp) rfl
                have e3 : a.tmps[57]?.getD undef = .int .i64 (j : Int) := hd ⟨3, .data⟩ (by simp) rfl
                have hj0' : (0 : Int) ≤ (j : Int) := by omega
                have hjn2 : (j : Int) < (n2 : Int) := by omega
                clear hd ho hne
                go_simp
                exact hK _ _ rfl hG (fun j' v' _ hf => hf)
              · intro l a W hs ho hG hd hne K' hK
                have e4 : a.tmps[58]?.getD undef = .pointer (some (ad.add j)) := hd ⟨4, .data⟩ (by simp) rfl
                have hc := hG.cell hc6
                clear hd ho hne
                go_simp
                exact hK _ _ rfl hG (fun j' v' _ hf => hf)
              · intro l a W hs ho hG hd hne K' hK
                have e5 : a.tmps[59]?.getD undef = .int .i64 x := hd ⟨5, .data⟩ (by simp) rfl
                clear hd ho hne
                go_simp
                go_at_call 34
                (with_reducible refine (HW2 W).mono ?_)
                rintro e W2 ⟨rfl, rfl⟩
                go_simp
                exact hK _ _ rfl hG (fun j' v' _ hf => hf)
              · intro l a W hs ho hG hd hne K' hK
                have b1 : a.tmps[1]?.getD undef = .slice (some ad) n2 c2 := ho.ev 1 rfl
                clear hd ho hne
                go_simp
                exact hK _ _ rfl hG (fun j' v' _ hf => hf)
              · intro l a W hs ho hG hd hne K' hK
                have b8 : a.tmps[8]?.getD undef = .int .i64 (j : Int) := ho.ev 8 rfl
                clear hd ho hne
                go_simp
                exact hK _ _ rfl hG (fun j' v' _ hf => hf)
              · intro l a W hs ho hG hd hne K' hK
                have e7 : a.tmps[61]?.getD undef = .slice (some ad) n2 c2 := hd ⟨7, .data⟩ (by simp) rfl
                have e8 : a.tmps[62]?.getD undef = .int .i64 (j : Int) := hd ⟨8, .data⟩ (by simp) rfl
                have hj0' : (0 : Int) ≤ (j : Int) := by omega
                have hjn2 : (j : Int) < (n2 : Int) := by omega
                clear hd ho hne
                go_simp
                exact hK _ _ rfl hG (fun j' v' _ hf => hf)
              · intro l a W hs ho hG hd hne K' hK
                have e9 : a.tmps[63]?.getD undef = .pointer (some (ad.add j)) := hd ⟨9, .data⟩ (by simp) rfl
                have hc := hG.cell hc6
                clear hd ho hne
                go_simp
                exact hK _ _ rfl hG (fun j' v' _ hf => hf)
              · intro l a W hs ho hG hd hne K' hK
                have e10 : a.tmps[64]?.getD undef = .int .i64 x := hd ⟨10, .data⟩ (by simp) rfl
                have hwr := wrap_id _ hqh.out.1 hqh.out.2
                clear hd ho hne
                go_simp
                exact hK _ _ rfl hG (fun j' v' _ hf => hf)
              · intro l a W hs ho hG hd hne K' hK
                have e11 : a.tmps[65]?.getD undef = .int .i64 (x.tdiv 2) := hd ⟨11, .data⟩ (by simp) rfl
                clear hd ho hne
                go_simp
                go_at_call 34
                (with_reducible refine (HW6 W).mono ?_)
                rintro e W2 ⟨rfl, rfl⟩
                go_simp
                exact hK _ _ rfl hG (fun j' v' _ hf => hf)
            · intro l a W ho hG hall hF K' hK
              have e0 : a.tmps[54]?.getD undef = .pointer (some ⟨q, 0, none⟩) := hF 0 (by omega)
              have e1 : a.tmps[55]?.getD undef = .string s := hF 1 (by omega)
              have e6 : a.tmps[60]?.getD undef = .int .i64 (x % 2) := hF 6 (by omega)
              have e12 : a.tmps[66]?.getD undef = .int .i64 (x.tdiv 2 % 6) := hF 12 (by omega)
              obtain ⟨fr, hfr⟩ : ∃ fr : Tmp → Value, a = ([54, 55, 56, 57, 58, 59, 60, 61, 62, 63, 64, 65, 66] : List Tmp).foldl (fun b d => b.put (some d) (fr d)) _ := ⟨_, ho.puts⟩
              have hfr0 := Lib.hid hfr
              clear hfr ho hF hall
              go_simp
              go_at_call 95
              (with_reducible refine (two_rchoose ⟨#[116]⟩ s _ _ (hT7.out.ext hG) (by decide) hss (by have := hC0.out.1; omega)).mono ?_)
              rintro e W2 ⟨y3, y4, rfl, hT8⟩
              have hT8 := Lib.hid hT8
              go_simp
              refine hK _ _ ?_
              rw [hfr0.out]
              simp only [List.foldl]
              clear e0 e1 e6 e12 hfr0 hK hG
              go_wp2_with fail
              go_roundw
              case rel => exact ⟨j + 1, _, _, _, hj0.out.1, hj0.out.2, by go_num, Nat.le_trans (chNew_len C _ _ _ _) (by have := hC0.out.1; omega), choicesOk_new hC0.out.2 _ _ _ _, hT8.out⟩
              case measure => simp [intOf]; omega
        · go_wp2_with fail
          go_roundw
          case rel => exact ⟨j + 1, C, _, _, hj0.out.1, hj0.out.2, by go_num, by have := hC0.out.1; omega, hC0.out.2, hT0.out.ext hx5⟩
          case measure => simp [intOf]; omega
      · obtain rfl : j = 4 := by omega
        have hT0 := Lib.hid (And.intro hT hCk)
        clear hT
        go_wp2_with fail
        go_ret2
        exact ⟨P, f, c, q, u1, u2, F, C, rfl, hT0.out⟩
    · obtain rfl : j = n2 := by omega
      have hT0 := Lib.hid (And.intro hT hCk)
      clear hT
      go_wp2_with fail
      go_ret2
      exact ⟨P, f, c, q, u1, u2, F, C, rfl, hT0.out⟩

end Go.Proofs.Ytgjjngkmbplijaa
