/- Chapter 4: wakes; helps: keep.Name, keep.Same of strings. -/
import Derived.Test.YtgjjngkmbplijaaZO2
import Derived.Laws.BytesArg

namespace Go.Proofs.Ytgjjngkmbplijaa
open Go.RowKit
set_option linter.unusedSimpArgs false
set_option linter.unusedVariables false

set_option maxRecDepth 100000 in
set_option maxHeartbeats 400000 in
theorem wakes04_calls (w : World) : Calls Try.prog 48 #[] w fun e w' => e = .returned (.bool true) ∧ Ext w w' := by
  have H1 := fun w' => osize_calls _ (.add (.const 1) (.const 2)) w' (Nat.lt_succ_self _) ⟨⟨by omega, by omega⟩, ⟨by omega, by omega⟩⟩ (by decide)
  have H2 := fun w' => ocheck_calls (.odd .nilIface) w' (.inl rfl) (by decide)
  have H3 := fun w' => ocheck_calls (.const 1) w' ⟨by omega, by omega⟩ (by decide)
  rw [show Ob.checked (.odd .nilIface) = 2 by decide] at H2
  rw [show Ob.checked (.const 1) = 0 by decide] at H3
  rw [show Ob.nodes (.add (.const 1) (.const 2)) = 3 from rfl, show Ob.depth (.add (.const 1) (.const 2)) = 2 from rfl] at H1
  simp only [Ob.val] at H1 H2 H3
  go_enter Try.func48, Try.ntmps48
  (go_wp2_with fail; (with_reducible refine (H1 _).mono ?_); rintro e w' ⟨rfl, hx1⟩)
  (go_wp2_with fail; (with_reducible refine (H2 _).mono ?_); rintro e w' ⟨rfl, hx2⟩)
  (go_wp2_with fail; (with_reducible refine (H3 _).mono ?_); rintro e w' ⟨rfl, hx3⟩)
  go_wp2
  go_ret
  exact ⟨rfl, (hx1.trans hx2).trans hx3⟩

/-- head and a letter. -/
def nameB (head : ByteArray) (n k : Int) : ByteArray := head ++ ⟨#[UInt8.ofNat (97 + n % k).toNat]⟩
theorem byte_str (w : World) (x : Int) : (convert 183 9 (.slice (some ⟨w.heap.size, 0, none⟩) 1 1)).run Try.prog (w.alloc (.cells #[.int .u8 x] 5)) = .ok (.string ⟨#[UInt8.ofNat x.toNat]⟩) (w.alloc (.cells #[.int .u8 x] 5)) :=
  run_convert_bytes_arg _ 183 5 (by kernel_rfl) (by kernel_rfl) w.heap.size 0 1 1 [x] rfl (fun i hi => by
    obtain rfl : i = 0 := by omega
    simp) 9 (by kernel_rfl)
set_option maxRecDepth 100000 in
set_option maxHeartbeats 400000 in
theorem kname_calls (s : ByteArray) (n k : Int) (w : World) (hk : 1 ≤ k ∧ k ≤ 26) (h1 : -9223372036854775808 ≤ n) (h2 : n ≤ 9223372036854775807) (hs : s.size ≤ 100) :
    Calls Try.prog 49 #[.string s, .int .i64 n, .int .i64 k] w fun e w' => e = .returned (.string (nameB s n k)) ∧ Ext w w' := by
  have m1 := within_lo n k (by omega)
  have m2 := within_hi n k (by omega)
  have HQ := Lib.hid (show nameB s n k = s ++ ⟨#[UInt8.ofNat (97 + n % k).toNat]⟩ from rfl)
  generalize nameB s n k = r at *
  go_enter Try.func49, Try.ntmps49
  (go_wp2_with fail; (with_reducible refine (within_calls _ _ _ (by omega) (by omega) h1 h2).mono ?_); rintro e w' ⟨rfl, rfl⟩)
  generalize n % k = q at *
  have HC := byte_str w (97 + q)
  go_wp2
  apply bodyPost_ret
  · exact results_tmp rfl _ _ _
  · rfl
  exact ⟨by rw [HQ.out]; rfl, (Ext.refl w).alloc _⟩

theorem beqL_len {l r : List ByteArray} (h : l.length ≠ r.length) : (l == r) = false := by
  cases hb : l == r with
  | false => rfl
  | true => exact absurd (congrArg List.length (LawfulBEq.eq_of_beq hb)) h
theorem beqL_take {l r : List ByteArray} {j : Nat} {a b : ByteArray} (h1 : l[j]? = some a) (h2 : r[j]? = some b) : (l.take (j + 1) == r.take (j + 1)) = (l.take j == r.take j && a == b) := by
  induction l generalizing r j with
  | nil => simp at h1
  | cons x l ih => cases r with
    | nil => simp at h2
    | cons y r => cases j with
      | zero => simp at h1 h2; subst h1 h2; simp
      | succ j => simp only [List.getElem?_cons_succ] at h1 h2; simp only [List.take_succ_cons, List.cons_beq_cons]; rw [ih h1 h2, Bool.and_assoc]
theorem beqL_hit {l r : List ByteArray} {j : Nat} {a b : ByteArray} (h1 : l[j]? = some a) (h2 : r[j]? = some b) (h : (a == b) = false) : (l == r) = false := by
  cases hb : l == r with
  | false => rfl
  | true =>
    have := LawfulBEq.eq_of_beq hb
    subst this
    rw [h1] at h2
    injection h2 with h2
    subst h2
    simp at h

set_option maxRecDepth 100000 in
set_option maxHeartbeats 800000 in
theorem ksame_calls (l r : List ByteArray) (a : Option Addr) (c : Nat) (a2 : Option Addr) (c2 : Nat) (w : World) (hr1 : Rd w 1 a l.length (strVals l)) (hn1 : l.length ≤ c) (hm1 : c ≤ maxLen) (hr2 : Rd w 1 a2 r.length (strVals r)) (hn2 : r.length ≤ c2) (hm2 : c2 ≤ maxLen) :
    Calls Try.prog 50 #[.slice a l.length c, .slice a2 r.length c2] w fun e w' => e = .returned (.bool (l == r)) ∧ Ext w w' := by
  unfold maxLen at hm1 hm2
  by_cases hlen : l.length = r.length
  · have HL := Lib.hid hlen
    have hlen' : ((l.length : Int) != (r.length : Int)) = false := by rw [hlen]; simp
    clear hlen
    go_enter Try.func50, Try.ntmps50
    go_wp2_with fail
    go_loopw [5] (fun i wr => ∃ j : Nat, j ≤ l.length ∧ i = .int .i64 j ∧ (l.take j == r.take j) = true ∧ Ext w wr) (fun i _ => l.length - (intOf i).toNat)
    case atStart => exact ⟨0, by omega, rfl, by simp, Ext.refl w⟩
    case round =>
      obtain ⟨j, hj, rfl, hyes, hx⟩ := hrel
      by_cases hlt : j < l.length
      · obtain ⟨x, e1, hv1⟩ := strVals_at hlt
        have hlt2 : j < r.length := by have := HL.out; omega
        obtain ⟨y, e2, hv2⟩ := strVals_at hlt2
        obtain ⟨ad1, u1, rfl, hu1, hc1⟩ := (hr1.ext hx).at1 hlt
        obtain ⟨ad2, u2, rfl, hu2, hc2⟩ := (hr2.ext hx).at1 hlt2
        obtain rfl : Value.string x = u1 := by rw [hv1] at hu1; injection hu1
        obtain rfl : Value.string y = u2 := by rw [hv2] at hu2; injection hu2
        have hs := beqL_take e1 e2
        rw [hyes] at hs
        have e0 := Lib.hid (And.intro e1 e2)
        have hs0 := Lib.hid hs
        have hj0 := Lib.hid (show j + 1 ≤ l.length from hlt)
        have hi1 : (j : Int) < (l.length : Int) := by omega
        have hi2 : (j : Int) < (r.length : Int) := by omega
        clear hr1 hr2 hv1 hv2 hu1 hu2 e1 e2 hs hyes
        cases hp : x.toList == y.toList with
        | false =>
          go_wp2_with fail
          go_quiet (fail)
          go_wp2
          go_ret
          exact ⟨by rw [beqL_hit e0.out.1 e0.out.2 ((bytes_beq x y).symm.trans hp)]; rfl, hx.drewN _⟩
        | true =>
          go_wp2_with fail
          go_quiet (fail)
          go_wp2_with fail
          go_roundw
          case rel => exact ⟨j + 1, hj0.out, by go_num, by rw [hs0.out, ← bytes_beq, hp]; rfl, hx.drewN _⟩
          case measure => simp [intOf]; omega
      · obtain rfl : j = l.length := by omega
        rw [List.take_length] at hyes
        rw [HL.out, List.take_length] at hyes
        go_wp2
        go_ret
        exact ⟨by rw [hyes]; rfl, hx⟩
  · have hlen' : ((l.length : Int) != (r.length : Int)) = true := by simp; omega
    have HS := Lib.hid (beqL_len hlen)
    clear hr1 hr2
    go_enter Try.func50, Try.ntmps50
    go_wp2
    go_ret
    exact ⟨by rw [HS.out]; rfl, Ext.refl w⟩

end Go.Proofs.Ytgjjngkmbplijaa
