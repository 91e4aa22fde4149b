/- The document's digits of a number. -/
import Derived.Test.YtgjjngkmbplijaaZPl
import Derived.Test.YtgjjngkmbplijaaZMk
import Derived.Test.YtgjjngkmbplijaaYLaw04
import Derived.Laws.Rows

namespace Go.Proofs.Ytgjjngkmbplijaa
open Go.RowKit
set_option linter.unusedSimpArgs false
set_option linter.unusedVariables false

theorem byte_str_at {W : World} {g : Nat} {x : Nat} (h : W.heap[g]? = some (.cells #[.int .u8 (x : Int)] 5 (0, 0))) : (convert 183 9 (.slice (some ⟨g, 0, none⟩) 1 1)).run Try.prog W = .ok (.string ⟨#[UInt8.ofNat x]⟩) W :=
  run_convert_bytes_arg _ 183 5 (by kernel_rfl) (by kernel_rfl) g 0 1 1 [(x : Int)] rfl (fun i hi => by
    obtain rfl : i = 0 := by omega
    simp [World.cell?, h]) 9 (by kernel_rfl)
/-- What each slot holds of the last region. -/
def digF (n qd rd : Nat) (r s : ByteArray) : Nat → World → Value → Prop
  | 0, _, v => v = .int .i64 (n : Int)
  | 1, _, v => v = .int .i64 (qd : Int)
  | 2, _, v => v = .string s
  | 3, _, v => v = .int .i64 (n : Int)
  | 4, _, v => v = .int .i64 (rd : Int)
  | 5, _, v => v = .int .i64 ((48 + rd : Nat) : Int)
  | 6, _, v => v = .int .u8 ((48 + rd : Nat) : Int)
  | 7, W, v => ∃ g, v = .slice (some ⟨g, 0, none⟩) 1 1 ∧ W.heap[g]? = some (.cells #[.int .u8 ((48 + rd : Nat) : Int)] 5 (0, 0))
  | 8, _, v => v = .string ⟨#[48 + UInt8.ofNat rd]⟩
  | 9, _, v => v = .string r
  | _, _, _ => True
theorem digF_ext {n qd rd : Nat} {r s : ByteArray} {w w' : World} (i : Nat) (v : Value) (hx : Ext w w') (h : digF n qd rd r s i w v) : digF n qd rd r s i w' v := by
  rcases i with _ | _ | _ | _ | _ | _ | _ | _ | i
  · exact h
  · exact h
  · exact h
  · exact h
  · exact h
  · exact h
  · exact h
  · obtain ⟨g, e, hB⟩ := h; exact ⟨g, e, hx.obj hB⟩
  · rcases i with _ | _ | i <;> exact h

set_option maxRecDepth 100000 in
set_option maxHeartbeats 1600000 in
theorem digits_calls (k : Nat) : ∀ (n : Nat) (w : World), n < k → n < 2 ^ 60 → Calls Try.prog 121 #[.int .i64 (n : Int)] w fun e w' => e = .returned (.string (decB n)) ∧ Ext w w' := by
  induction k with
  | zero => intro n w h; omega
  | succ k ih =>
    intro n w hnk hn
    have hD := Lib.hid (decB.eq_1 n)
    by_cases h : n < 10
    · have HS := Lib.hid (show decB n = ⟨#[UInt8.ofNat (48 + n)]⟩ by rw [hD.out, if_pos h])
      generalize decB n = r at *
      have HC := byte_str w (48 + n)
      clear hD ih
      go_enter Try.func121, Try.ntmps121
      go_wp2
      go_ret
      exact ⟨by rw [HS.out]; rfl, (by repeat' (first | (with_reducible exact Ext.refl _) | (with_reducible assumption) | (with_reducible refine Ext.alloc ?_ _) | (with_reducible refine Ext.drew ?_) | (with_reducible refine Ext.drewN ?_ _) | (with_reducible refine Ext.setCell ?_ (by first | exact Nat.le_refl _ | (simp; done) | (simp; omega) | omega) _) | (with_reducible refine Ext.trans ?_ (by assumption))))⟩
    · have ih := fun W => ih (n / 10) W (by omega) (by omega)
      have HS := Lib.hid (show decB n = decB (n / 10) ++ ⟨#[UInt8.ofNat (48 + n % 10)]⟩ by rw [hD.out, if_neg h])
      have h10 : (10 : Int) ≤ (n : Int) := by omega
      have hq := Lib.hid (And.intro (show (n : Int) / 10 = ((n / 10 : Nat) : Int) by omega) (show (n : Int) % 10 = ((n % 10 : Nat) : Int) by omega))
      have hqb : n / 10 < 2 ^ 60 := by omega
      have hsz := Lib.hid (show ¬ (9223372036854775807 < (decB (n / 10)).size + 1) by have := decB_size 18 (n / 10) (by omega); omega)
      have hrb : n % 10 < 10 := Nat.mod_lt _ (by omega)
      have h1 : decide ((n : Int) < 10) = false := by simp; omega
      generalize decB n = r at *
      generalize decB (n / 10) = s at *
      generalize n / 10 = qd at *
      generalize n % 10 = rd at *
      clear hD
      go_enter Try.func121, Try.ntmps121
      go_wp2_with fail
      refine wp_region_slots 10 [0, 1, 2, 3, 4, 5, 6, 7, 8, 9] _ [26, 27, 28, 29, 30, 31, 32, 33, 34, 35] (digF n qd rd r s) (fun _ W => Ext w W) (by kernel_rfl) rfl (by kernel_rfl) (by kernel_rfl) rfl rfl rfl (by decide) rfl ?_ ?_ ?_
      · exact (Ext.refl _).drew
      · refine slots_cons rfl ?_ (slots_cons rfl ?_ (slots_cons rfl ?_ (slots_cons rfl ?_ (slots_cons rfl ?_ (slots_cons rfl ?_ (slots_cons rfl ?_ (slots_cons rfl ?_ (slots_cons rfl ?_ (slots_cons rfl ?_ slots_nil)))))))))
        · intro l a W hs ho hG hd hne K hK
          have s0 : a.tmps[0]?.getD undef = .int .i64 (n : Int) := ho.ev 0 rfl
          clear hd ho hne
          go_simp
          exact hK _ _ (rfl) (hG) (fun j' v' _ hf => hf)
        · intro l a W hs ho hG hd hne K hK
          have e0 := hd ⟨0, .data⟩ (by simp) rfl
          replace e0 : a.tmps[26]?.getD undef = .int .i64 (n : Int) := e0
          clear hd ho hne
          go_simp
          exact hK _ _ (by show Value.int .i64 (IntKind.i64.wrap ((n : Int) / 10)) = Value.int .i64 (qd : Int); rw [hq.out.1, IntWalk.i64_left, IntWalk.wrap64_in _ (by omega)]) (hG) (fun j' v' _ hf => hf)
        · intro l a W hs ho hG hd hne K hK
          have e1 := hd ⟨1, .data⟩ (by simp) rfl
          replace e1 : a.tmps[27]?.getD undef = .int .i64 (qd : Int) := e1
          clear hd ho hne
          go_simp
          go_at_call 121
          (with_reducible refine (ih W).mono ?_)
          rintro e W2 ⟨rfl, hx⟩
          go_simp
          exact hK _ _ rfl (hG.trans hx) (fun j' v' _ hf => digF_ext j' v' hx hf)
        · intro l a W hs ho hG hd hne K hK
          have s0 : a.tmps[0]?.getD undef = .int .i64 (n : Int) := ho.ev 0 rfl
          clear hd ho hne
          go_simp
          exact hK _ _ (rfl) (hG) (fun j' v' _ hf => hf)
        · intro l a W hs ho hG hd hne K hK
          have e3 := hd ⟨3, .data⟩ (by simp) rfl
          replace e3 : a.tmps[29]?.getD undef = .int .i64 (n : Int) := e3
          clear hd ho hne
          go_simp
          exact hK _ _ (by show Value.int .i64 ((n : Int) % 10) = Value.int .i64 (rd : Int); rw [hq.out.2]) (hG) (fun j' v' _ hf => hf)
        · intro l a W hs ho hG hd hne K hK
          have e4 := hd ⟨4, .data⟩ (by simp) rfl
          replace e4 : a.tmps[30]?.getD undef = .int .i64 (rd : Int) := e4
          clear hd ho hne
          go_simp
          exact hK _ _ (by show Value.int .i64 (IntKind.i64.wrap (48 + (rd : Int))) = Value.int .i64 ((48 + rd : Nat) : Int); rw [IntWalk.i64_left, IntWalk.wrap64_in _ (by omega)]; rfl) (hG) (fun j' v' _ hf => hf)
        · intro l a W hs ho hG hd hne K hK
          have e5 := hd ⟨5, .data⟩ (by simp) rfl
          replace e5 : a.tmps[31]?.getD undef = .int .i64 ((48 + rd : Nat) : Int) := e5
          clear hd ho hne
          go_simp
          exact hK _ _ (by show Value.int .u8 (IntKind.u8.wrap ((48 + rd : Nat) : Int)) = Value.int .u8 ((48 + rd : Nat) : Int); rcases (by omega : rd = 0 ∨ rd = 1 ∨ rd = 2 ∨ rd = 3 ∨ rd = 4 ∨ rd = 5 ∨ rd = 6 ∨ rd = 7 ∨ rd = 8 ∨ rd = 9) with rfl | rfl | rfl | rfl | rfl | rfl | rfl | rfl | rfl | rfl <;> rfl) (hG) (fun j' v' _ hf => hf)
        · intro l a W hs ho hG hd hne K hK
          have e6 := hd ⟨6, .data⟩ (by simp) rfl
          replace e6 : a.tmps[32]?.getD undef = .int .u8 ((48 + rd : Nat) : Int) := e6
          clear hd ho hne
          go_simp
          exact hK _ _ (⟨W.heap.size, rfl, heap_alloc_new _ _⟩) (hG.alloc _) (fun j' v' _ hf => digF_ext j' v' ((Ext.refl W).alloc _) hf)
        · intro l a W hs ho hG hd hne K hK
          have d7 := hd ⟨7, .data⟩ (by simp) rfl
          obtain ⟨g, e7, hB⟩ := d7
          replace e7 : a.tmps[33]?.getD undef = .slice (some ⟨g, 0, none⟩) 1 1 := e7
          have HC := byte_str_at hB
          clear hd ho hne
          go_simp
          exact hK _ _ (rfl) (hG) (fun j' v' _ hf => hf)
        · intro l a W hs ho hG hd hne K hK
          have e2 := hd ⟨2, .data⟩ (by simp) rfl
          replace e2 : a.tmps[28]?.getD undef = .string s := e2
          have e8 := hd ⟨8, .data⟩ (by simp) rfl
          replace e8 : a.tmps[34]?.getD undef = .string ⟨#[48 + UInt8.ofNat rd]⟩ := e8
          have hs2 := hsz.out
          clear hd ho hne
          go_simp
          exact hK _ _ (by show Value.string (s ++ ⟨#[48 + UInt8.ofNat rd]⟩) = .string r; rw [HS.out]; simp) (hG) (fun j' v' _ hf => hf)
      · intro l a W ho hG hall hF K hK
        have e9 : a.tmps[35]?.getD undef = .string r := hF 9 (by omega)
        have hsz2 := Lib.hid (show 2 < a.tmps.size by rw [ho.size]; simp)
        have hdf := Lib.hid (show a.defers = [] from ho.defers)
        have hG0 := Lib.hid hG
        clear ho hG hall hF
        go_simp
        refine hK _ _ ?_
        clear e9 hK
        go_wp2
        apply bodyPost_ret
        · exact results_tmp rfl _ _ _
        · exact hdf.out
        exact ⟨by have := hsz2.out; simp [this], hG0.out⟩
  

end Go.Proofs.Ytgjjngkmbplijaa
