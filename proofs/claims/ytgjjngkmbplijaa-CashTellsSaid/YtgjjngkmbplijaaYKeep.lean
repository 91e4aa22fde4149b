/- handfastkeep.Same of flows, of waits. -/
import Derived.Test.YtgjjngkmbplijaaZC2

namespace Go.Proofs.Ytgjjngkmbplijaa
open Go.RowKit
set_option linter.unusedSimpArgs false
set_option linter.unusedVariables false

/-- Two lists, one by one. -/
def eqL {α : Type} (p : α → α → Bool) : List α → List α → Bool
  | [], [] => true
  | a :: l, b :: r => p a b && eqL p l r
  | _, _ => false
section
variable {α : Type} {p : α → α → Bool}
theorem eqL_len {l r : List α} (h : l.length ≠ r.length) : eqL p l r = false := by
  induction l generalizing r with
  | nil => cases r with
    | nil => exact absurd rfl h
    | cons b r => rfl
  | cons a l ih => cases r with
    | nil => rfl
    | cons b r => rw [eqL, ih (r := r) (fun e => h (by simp [e])), Bool.and_false]
theorem eqL_take {l r : List α} {j : Nat} {a b : α} (h1 : l[j]? = some a) (h2 : r[j]? = some b) : eqL p (l.take (j + 1)) (r.take (j + 1)) = (eqL p (l.take j) (r.take j) && p a b) := by
  induction l generalizing r j with
  | nil => simp at h1
  | cons x l ih => cases r with
    | nil => simp at h2
    | cons y r => cases j with
      | zero => simp at h1 h2; subst h1 h2; simp [eqL]
      | succ j => simp only [List.getElem?_cons_succ] at h1 h2; simp only [List.take_succ_cons, eqL]; rw [ih h1 h2, Bool.and_assoc]
theorem eqL_hit {l r : List α} {j : Nat} {a b : α} (h1 : l[j]? = some a) (h2 : r[j]? = some b) (h : p a b = false) : eqL p l r = false := by
  induction l generalizing r j with
  | nil => simp at h1
  | cons x l ih => cases r with
    | nil => simp at h2
    | cons y r => cases j with
      | zero => simp at h1 h2; subst h1 h2; simp [eqL, h]
      | succ j => simp only [List.getElem?_cons_succ] at h1 h2; simp only [eqL]; rw [ih h1 h2, Bool.and_false]
theorem eqL_rfl (hp : ∀ a, p a a = true) (l : List α) : eqL p l l = true := by
  induction l with
  | nil => rfl
  | cons a l ih => simp only [eqL, hp, ih, Bool.and_self]
end

set_option maxRecDepth 100000 in
set_option maxHeartbeats 1600000 in
theorem ksameW_calls (b1 b2 : Nat) (l r : List Wa) (a1 : Option Addr) (c1 : Nat) (a2 : Option Addr) (c2 : Nat) (w : World) (hr1 : w.ownsRow b1 152 5 (.slice a1 l.length c1) l.length (waCells l)) (hr2 : w.ownsRow b2 152 5 (.slice a2 r.length c2) r.length (waCells r)) (hl : l.length ≤ 2 ^ 40) (hm1 : c1 ≤ maxLen) (hm2 : c2 ≤ maxLen) :
    Calls Try.prog 84 #[.slice a1 l.length c1, .slice a2 r.length c2] w fun e w' => RetB w (eqL Wa.same l r) e w' := by
  unfold maxLen at hm1 hm2
  by_cases hlen : l.length = r.length
  · have HL := Lib.hid hlen
    have hlen' : ((l.length : Int) != (r.length : Int)) = false := by rw [hlen]; simp
    have hE := fun x y W => eql_wait x y W
    have f2 := held_wait.2
    unfold Wa.val at hE
    clear hlen
    go_enter Try.func84, Try.ntmps84
    go_wp2_with fail
    go_loopw [5] (fun i wr => ∃ j : Nat, j ≤ l.length ∧ i = .int .i64 j ∧ eqL Wa.same (l.take j) (r.take j) = true ∧ Ext w wr) (fun i _ => l.length - (intOf i).toNat)
    case atStart => exact ⟨0, by omega, rfl, by simp [eqL], Ext.refl w⟩
    case round =>
      obtain ⟨j, hj, rfl, hyes, hx⟩ := hrel
      by_cases hlt : j < l.length
      · have hlt2 : j < r.length := by have := HL.out; omega
        have e1 : l[j]? = some l[j] := List.getElem?_eq_getElem hlt
        have e2 : r[j]? = some r[j] := List.getElem?_eq_getElem hlt2
        generalize l[j] = x at e1
        generalize r[j] = y at e2
        obtain ⟨g1, rfl, c0, c1', c2', c3, c4⟩ := wa_at (hx.own hr1) e1 hlt
        obtain ⟨g2, rfl, d0, d1, d2, d3, d4⟩ := wa_at (hx.own hr2) e2 hlt2
        have hs := eqL_take (p := Wa.same) e1 e2
        rw [hyes] at hs
        have hEk := fun W => hE x y W
        have e0 := Lib.hid (And.intro e1 e2)
        have hs0 := Lib.hid hs
        have hj0 := Lib.hid (show j + 1 ≤ l.length from hlt)
        have hr0 := Lib.hid (And.intro hr1 hr2)
        have hi0 : (0 : Int) ≤ (j : Int) := by omega
        have hi1 : (j : Int) < (l.length : Int) := by omega
        have hi2 : (j : Int) < (r.length : Int) := by omega
        clear hr1 hr2 e1 e2 hs hyes hE
        generalize hp : x.same y = pb at *
        have hp0 := Lib.hid hp
        clear hp
        cases pb with
        | false =>
          go_wp2_with fail
          go_quiet (fail)
          go_wp2
          go_ret
          exact ⟨by rw [eqL_hit e0.out.1 e0.out.2 hp0.out]; rfl, (by repeat' (first | (with_reducible exact Ext.refl _) | (with_reducible assumption) | (with_reducible refine Ext.alloc ?_ _) | (with_reducible refine Ext.drew ?_) | (with_reducible refine Ext.drewN ?_ _) | (with_reducible refine Ext.setCell ?_ (by first | exact Nat.le_refl _ | (simp; done) | (simp; omega) | omega) _) | (with_reducible refine Ext.trans ?_ (by assumption))))⟩
        | true =>
          go_wp2_with fail
          go_quiet (fail)
          go_wp2_with fail
          go_roundw
          case rel => exact ⟨j + 1, hj0.out, by go_num, by rw [hs0.out]; rfl, (by repeat' (first | (with_reducible exact Ext.refl _) | (with_reducible assumption) | (with_reducible refine Ext.alloc ?_ _) | (with_reducible refine Ext.drew ?_) | (with_reducible refine Ext.drewN ?_ _) | (with_reducible refine Ext.setCell ?_ (by first | exact Nat.le_refl _ | (simp; done) | (simp; omega) | omega) _) | (with_reducible refine Ext.trans ?_ (by assumption))))⟩
          case measure => simp [intOf]; omega
      · obtain rfl : j = l.length := by omega
        rw [List.take_length] at hyes
        rw [HL.out, List.take_length] at hyes
        go_wp2
        go_ret
        exact ⟨by rw [hyes]; rfl, hx⟩
  · have hlen' : ((l.length : Int) != (r.length : Int)) = true := by simp; omega
    have HS := Lib.hid (eqL_len (p := Wa.same) hlen)
    clear hr1 hr2
    go_enter Try.func84, Try.ntmps84
    go_wp2
    go_ret
    exact ⟨by rw [HS.out]; rfl, Ext.refl w⟩

set_option maxRecDepth 100000 in
set_option maxHeartbeats 1600000 in
theorem ksameF_calls (b1 b2 : Nat) (l r : List Fl) (a1 : Option Addr) (c1 : Nat) (a2 : Option Addr) (c2 : Nat) (w : World) (hr1 : w.ownsRow b1 144 3 (.slice a1 l.length c1) l.length (flCells l)) (hr2 : w.ownsRow b2 144 3 (.slice a2 r.length c2) r.length (flCells r)) (hl : l.length ≤ 2 ^ 40) (hm1 : c1 ≤ maxLen) (hm2 : c2 ≤ maxLen) :
    Calls Try.prog 82 #[.slice a1 l.length c1, .slice a2 r.length c2] w fun e w' => RetB w (eqL Fl.same l r) e w' := by
  unfold maxLen at hm1 hm2
  by_cases hlen : l.length = r.length
  · have HL := Lib.hid hlen
    have hlen' : ((l.length : Int) != (r.length : Int)) = false := by rw [hlen]; simp
    have hE := fun x y W => eql_flow x y W
    have f2 := held_flow.2
    unfold Fl.val at hE
    clear hlen
    go_enter Try.func82, Try.ntmps82
    go_wp2_with fail
    go_loopw [5] (fun i wr => ∃ j : Nat, j ≤ l.length ∧ i = .int .i64 j ∧ eqL Fl.same (l.take j) (r.take j) = true ∧ Ext w wr) (fun i _ => l.length - (intOf i).toNat)
    case atStart => exact ⟨0, by omega, rfl, by simp [eqL], Ext.refl w⟩
    case round =>
      obtain ⟨j, hj, rfl, hyes, hx⟩ := hrel
      by_cases hlt : j < l.length
      · have hlt2 : j < r.length := by have := HL.out; omega
        have e1 : l[j]? = some l[j] := List.getElem?_eq_getElem hlt
        have e2 : r[j]? = some r[j] := List.getElem?_eq_getElem hlt2
        generalize l[j] = x at e1
        generalize r[j] = y at e2
        obtain ⟨g1, rfl, c0, c1', c2'⟩ := fl_at (hx.own hr1) e1 hlt
        obtain ⟨g2, rfl, d0, d1, d2⟩ := fl_at (hx.own hr2) e2 hlt2
        have hs := eqL_take (p := Fl.same) e1 e2
        rw [hyes] at hs
        have hEk := fun W => hE x y W
        have e0 := Lib.hid (And.intro e1 e2)
        have hs0 := Lib.hid hs
        have hj0 := Lib.hid (show j + 1 ≤ l.length from hlt)
        have hr0 := Lib.hid (And.intro hr1 hr2)
        have hi0 : (0 : Int) ≤ (j : Int) := by omega
        have hi1 : (j : Int) < (l.length : Int) := by omega
        have hi2 : (j : Int) < (r.length : Int) := by omega
        clear hr1 hr2 e1 e2 hs hyes hE
        generalize hp : x.same y = pb at *
        have hp0 := Lib.hid hp
        clear hp
        cases pb with
        | false =>
          go_wp2_with fail
          go_quiet (fail)
          go_wp2
          go_ret
          exact ⟨by rw [eqL_hit e0.out.1 e0.out.2 hp0.out]; rfl, (by repeat' (first | (with_reducible exact Ext.refl _) | (with_reducible assumption) | (with_reducible refine Ext.alloc ?_ _) | (with_reducible refine Ext.drew ?_) | (with_reducible refine Ext.drewN ?_ _) | (with_reducible refine Ext.setCell ?_ (by first | exact Nat.le_refl _ | (simp; done) | (simp; omega) | omega) _) | (with_reducible refine Ext.trans ?_ (by assumption))))⟩
        | true =>
          go_wp2_with fail
          go_quiet (fail)
          go_wp2_with fail
          go_roundw
          case rel => exact ⟨j + 1, hj0.out, by go_num, by rw [hs0.out]; rfl, (by repeat' (first | (with_reducible exact Ext.refl _) | (with_reducible assumption) | (with_reducible refine Ext.alloc ?_ _) | (with_reducible refine Ext.drew ?_) | (with_reducible refine Ext.drewN ?_ _) | (with_reducible refine Ext.setCell ?_ (by first | exact Nat.le_refl _ | (simp; done) | (simp; omega) | omega) _) | (with_reducible refine Ext.trans ?_ (by assumption))))⟩
          case measure => simp [intOf]; omega
      · obtain rfl : j = l.length := by omega
        rw [List.take_length] at hyes
        rw [HL.out, List.take_length] at hyes
        go_wp2
        go_ret
        exact ⟨by rw [hyes]; rfl, hx⟩
  · have hlen' : ((l.length : Int) != (r.length : Int)) = true := by simp; omega
    have HS := Lib.hid (eqL_len (p := Fl.same) hlen)
    clear hr1 hr2
    go_enter Try.func82, Try.ntmps82
    go_wp2
    go_ret
    exact ⟨by rw [HS.out]; rfl, Ext.refl w⟩

end Go.Proofs.Ytgjjngkmbplijaa
