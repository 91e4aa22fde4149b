/- The walk of the law CashOver. -/
import Derived.Test.YtgjjngkmbplijaaCash8
namespace Go.Proofs.Ytgjjngkmbplijaa
open Go.RowKit
set_option linter.unusedSimpArgs false
set_option linter.unusedVariables false

def overS (a b : Int) : Te := .scale (.const a) (.scale (.const b) (.one ⟨#[117, 115, 100]⟩))
theorem overS_facts {a b : Int} (ha : 1 ≤ a ∧ a ≤ 2000000) (hb : 1 ≤ b ∧ b ≤ 2000000) :
    1 ≤ a * b ∧ a * b ≤ 4000000000000 ∧ (overS a b).wf ∧ (Te.give (overS a b)).wf ∧ (overS a b).checked = 0 ∧ (Te.give (overS a b)).checked = 0 := by
  have m1 : 1 * 1 ≤ a * b := Int.mul_le_mul ha.1 hb.1 (by omega) (by omega)
  have m2 : a * b ≤ 2000000 * 2000000 := Int.mul_le_mul ha.2 hb.2 (by omega) (by omega)
  have va : Vd a = true := Vd_of (by omega) (by omega)
  have vb : Vd b = true := Vd_of (by omega) (by omega)
  have hsz : (⟨#[117, 115, 100]⟩ : ByteArray).size ≤ 1000 := by decide
  have hw : (overS a b).wf := ⟨⟨by omega, by omega⟩, ⟨by omega, by omega⟩, hsz⟩
  have hf : (overS a b).formed = true := by simp [overS, Te.formed, Ob.formed, va, vb, usd_name]
  refine ⟨by omega, by omega, hw, hw, ?_, ?_⟩
  · exact Te.checked_ok hf (by simp [overS, Te.nodes, Ob.nodes]) (by simp [overS, Te.depth, Ob.depth]) rfl
  · exact Te.checked_ok (t := .give (overS a b)) hf (by simp [overS, Te.nodes, Ob.nodes]) (by simp [overS, Te.depth, Ob.depth]) rfl
theorem overS_walk {a b s : Int} (hs : s = 1 ∨ s = -1) (ha : 1 ≤ a ∧ a ≤ 2000000) (hb : 1 ≤ b ∧ b ≤ 2000000) :
    (overS a b).walk [] [] ⟨#[116]⟩ 0 s ([], []) = if 1000000000000 < a * b then (6, ([], [])) else (0, ([⟨0, ⟨#[117, 115, 100]⟩, s * (a * b)⟩], [])) := by
  obtain ⟨m1, m2, _⟩ := overS_facts ha hb
  have va : Vd a = true := Vd_of (by omega) (by omega)
  have vb : Vd b = true := Vd_of (by omega) (by omega)
  have vs : Vd s = true := by rcases hs with rfl | rfl <;> decide
  have vsa : Vd (s * a) = true := by rcases hs with rfl | rfl <;> exact Vd_of (by omega) (by omega)
  have e1 := mulS_yes vs va vsa
  have h0 : s * a ≠ 0 := by rcases hs with rfl | rfl <;> omega
  unfold overS
  rw [sk_go va (by rw [e1]) (by rw [e1]; exact h0), e1]
  simp only
  have eas : s * a * b = s * (a * b) := Int.mul_assoc s a b
  by_cases hlt : 1000000000000 < a * b
  · rw [if_pos hlt]
    refine sk_over vb ?_
    rw [mulS_o]
    rw [eas]
    exact (Vd_false _).2 (by rcases hs with rfl | rfl <;> omega)
  · rw [if_neg hlt]
    have vm : Vd (s * a * b) = true := by rw [eas]; rcases hs with rfl | rfl <;> exact Vd_of (by omega) (by omega)
    have e2 := mulS_yes vsa vb vm
    rw [sk_go vb (by rw [e2]) (by rw [e2, eas]; rcases hs with rfl | rfl <;> simp only <;> omega), e2, eas]
    rfl
theorem over_of {a b : Int} (ha : 1 ≤ a ∧ a ≤ 2000000) (hb : 1 ≤ b ∧ b ≤ 2000000) :
    cashOf [] [] ⟨#[116]⟩ (overS a b) 0 = (if 1000000000000 < a * b then (6, ([], [])) else (0, ([⟨0, ⟨#[117, 115, 100]⟩, a * b⟩], []))) ∧
    cashOf [] [] ⟨#[116]⟩ (.give (overS a b)) 0 = (if 1000000000000 < a * b then (6, ([], [])) else (0, ([⟨0, ⟨#[117, 115, 100]⟩, -(a * b)⟩], []))) := by
  obtain ⟨m1, m2, _, _, c1, c2⟩ := overS_facts ha hb
  have w1 := overS_walk (s := 1) (.inl rfl) ha hb
  have w2 := overS_walk (s := -1) (.inr rfl) ha hb
  have w2' : (Te.give (overS a b)).walk [] [] ⟨#[116]⟩ 0 1 ([], []) = (overS a b).walk [] [] ⟨#[116]⟩ 0 (-1) ([], []) := rfl
  rw [← w2'] at w2
  by_cases hlt : 1000000000000 < a * b
  · rw [if_pos hlt] at w1 w2
    simp only [if_pos hlt]
    constructor
    · rw [cashOf_err c1 (by decide) (by rw [w1]; decide), w1]
    · rw [cashOf_err c2 (by decide) (by rw [w2]; decide), w2]
  · rw [if_neg hlt] at w1 w2
    simp only [if_neg hlt]
    rw [Int.one_mul] at w1
    rw [show -1 * (a * b) = -(a * b) by omega] at w2
    constructor
    · rw [cashOf_ok c1 (by decide) (by rw [w1]), w1]
    · rw [cashOf_ok c2 (by decide) (by rw [w2]), w2]

set_option maxRecDepth 100000 in
set_option maxHeartbeats 1600000 in
theorem cashOver_walk (a b : Int) (give : Bool) (w : World) (w0 : (Lit.int .i64 a).wf = true) (w1 : (Lit.int .i64 b).wf = true) :
    Calls Try.prog 25 #[.int .i64 a, .int .i64 b, .bool give] w fun e w' => e = .returned (.bool true) ∧ Ext w w' := by
  have b1 := i64_of w0
  have b2 := i64_of w1
  have m1 := within_lo a 2000000 (by omega)
  have m2 := within_hi a 2000000 (by omega)
  have m3 := within_lo b 2000000 (by omega)
  have m4 := within_hi b 2000000 (by omega)
  clear w0 w1
  cases give with
  | false =>
    go_enter Try.func25, Try.ntmps25
    (go_wp2_with fail; (with_reducible refine (within_calls _ _ _ (by omega) (by omega) b1.1 b1.2).mono ?_); rintro e w' ⟨rfl, rfl⟩)
    (go_wp2_with fail; (with_reducible refine (within_calls _ _ _ (by omega) (by omega) b2.1 b2.2).mono ?_); rintro e w' ⟨rfl, rfl⟩)
    generalize a % 2000000 = a0 at *
    generalize b % 2000000 = b0 at *
    have ha : 1 ≤ 1 + a0 ∧ 1 + a0 ≤ 2000000 := by omega
    have hb : 1 ≤ 1 + b0 ∧ 1 + b0 ≤ 2000000 := by omega
    obtain ⟨f1, f2, f3, f4, f5, f6⟩ := overS_facts ha hb
    have H := fun p f c w' hW => cof_calls p f c [] [] ⟨#[116]⟩ (overS (1 + a0) (1 + b0)) 0 w' f3 (by simp [overS, Te.nodes, Ob.nodes]) hW
    rw [(over_of ha hb).1] at H
    simp only [overS, Te.val, Ob.val] at H
    clear f3 f4 f5 f6 ha hb
    go_wp2_with fail
    (with_reducible refine (new_calls _).mono ?_)
    rintro e w' ⟨p, f, c, rfl, hW, hx, h1, h2, h3⟩
    by_cases hlt : 1000000000000 < (1 + a0) * (1 + b0)
    · rw [if_pos hlt] at H
      (go_wp2_with fail; (with_reducible refine (H p f c _ hW).mono ?_); rintro e w' ⟨v1, v2, rfl, hf, hw, hy⟩)
      obtain ⟨A1, C1, rfl, _, _⟩ := own_form hf
      obtain ⟨A2, C2, rfl, _, _⟩ := own_form hw
      simp only [List.length_nil] at *
      go_wp2_with (go_at_call 83; (with_reducible refine (wakes10_calls _).mono ?_); rintro e w' ⟨rfl, hv⟩)
      go_ret
      exact ⟨rfl, (by repeat' (first | (with_reducible exact Ext.refl _) | (with_reducible assumption) | (with_reducible refine Ext.alloc ?_ _) | (with_reducible refine Ext.drew ?_) | (with_reducible refine Ext.drewN ?_ _) | (with_reducible refine Ext.setCell ?_ (by first | exact Nat.le_refl _ | (simp; done) | (simp; omega) | omega) _) | (with_reducible refine Ext.trans ?_ (by assumption))))⟩
    · rw [if_neg hlt] at H
      (go_wp2_with fail; (with_reducible refine (H p f c _ hW).mono ?_); rintro e w' ⟨v1, v2, rfl, hf, hw, hy⟩)
      obtain ⟨A1, C1, rfl, _, _⟩ := own_form hf
      obtain ⟨A2, C2, rfl, _, _⟩ := own_form hw
      obtain ⟨g, rfl, c0, c1, c2⟩ := fl_at hf (j := 0) rfl (by simp)
      simp only [List.length_cons, List.length_nil, Nat.zero_add, Nat.zero_mul] at *
      go_wp2_with (go_at_call 83; (with_reducible refine (wakes10_calls _).mono ?_); rintro e w' ⟨rfl, hv⟩)
      go_ret
      exact ⟨rfl, (by repeat' (first | (with_reducible exact Ext.refl _) | (with_reducible assumption) | (with_reducible refine Ext.alloc ?_ _) | (with_reducible refine Ext.drew ?_) | (with_reducible refine Ext.drewN ?_ _) | (with_reducible refine Ext.setCell ?_ (by first | exact Nat.le_refl _ | (simp; done) | (simp; omega) | omega) _) | (with_reducible refine Ext.trans ?_ (by assumption))))⟩
  | true =>
    go_enter Try.func25, Try.ntmps25
    (go_wp2_with fail; (with_reducible refine (within_calls _ _ _ (by omega) (by omega) b1.1 b1.2).mono ?_); rintro e w' ⟨rfl, rfl⟩)
    (go_wp2_with fail; (with_reducible refine (within_calls _ _ _ (by omega) (by omega) b2.1 b2.2).mono ?_); rintro e w' ⟨rfl, rfl⟩)
    generalize a % 2000000 = a0 at *
    generalize b % 2000000 = b0 at *
    have ha : 1 ≤ 1 + a0 ∧ 1 + a0 ≤ 2000000 := by omega
    have hb : 1 ≤ 1 + b0 ∧ 1 + b0 ≤ 2000000 := by omega
    obtain ⟨f1, f2, f3, f4, f5, f6⟩ := overS_facts ha hb
    have H := fun p f c w' hW => cof_calls p f c [] [] ⟨#[116]⟩ (.give (overS (1 + a0) (1 + b0))) 0 w' f4 (by simp [overS, Te.nodes, Ob.nodes]) hW
    rw [(over_of ha hb).2] at H
    simp only [overS, Te.val, Ob.val] at H
    clear f3 f4 f5 f6 ha hb
    go_wp2_with fail
    (with_reducible refine (new_calls _).mono ?_)
    rintro e w' ⟨p, f, c, rfl, hW, hx, h1, h2, h3⟩
    by_cases hlt : 1000000000000 < (1 + a0) * (1 + b0)
    · rw [if_pos hlt] at H
      (go_wp2_with fail; (with_reducible refine (H p f c _ hW).mono ?_); rintro e w' ⟨v1, v2, rfl, hf, hw, hy⟩)
      obtain ⟨A1, C1, rfl, _, _⟩ := own_form hf
      obtain ⟨A2, C2, rfl, _, _⟩ := own_form hw
      simp only [List.length_nil] at *
      go_wp2_with (go_at_call 83; (with_reducible refine (wakes10_calls _).mono ?_); rintro e w' ⟨rfl, hv⟩)
      go_ret
      exact ⟨rfl, (by repeat' (first | (with_reducible exact Ext.refl _) | (with_reducible assumption) | (with_reducible refine Ext.alloc ?_ _) | (with_reducible refine Ext.drew ?_) | (with_reducible refine Ext.drewN ?_ _) | (with_reducible refine Ext.setCell ?_ (by first | exact Nat.le_refl _ | (simp; done) | (simp; omega) | omega) _) | (with_reducible refine Ext.trans ?_ (by assumption))))⟩
    · rw [if_neg hlt] at H
      (go_wp2_with fail; (with_reducible refine (H p f c _ hW).mono ?_); rintro e w' ⟨v1, v2, rfl, hf, hw, hy⟩)
      obtain ⟨A1, C1, rfl, _, _⟩ := own_form hf
      obtain ⟨A2, C2, rfl, _, _⟩ := own_form hw
      obtain ⟨g, rfl, c0, c1, c2⟩ := fl_at hf (j := 0) rfl (by simp)
      simp only [List.length_cons, List.length_nil, Nat.zero_add, Nat.zero_mul] at *
      go_wp2_with (go_at_call 83; (with_reducible refine (wakes10_calls _).mono ?_); rintro e w' ⟨rfl, hv⟩)
      go_ret
      exact ⟨rfl, (by repeat' (first | (with_reducible exact Ext.refl _) | (with_reducible assumption) | (with_reducible refine Ext.alloc ?_ _) | (with_reducible refine Ext.drew ?_) | (with_reducible refine Ext.drewN ?_ _) | (with_reducible refine Ext.setCell ?_ (by first | exact Nat.le_refl _ | (simp; done) | (simp; omega) | omega) _) | (with_reducible refine Ext.trans ?_ (by assumption))))⟩

end Go.Proofs.Ytgjjngkmbplijaa
