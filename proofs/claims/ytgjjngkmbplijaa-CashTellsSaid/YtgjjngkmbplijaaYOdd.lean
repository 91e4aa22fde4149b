/- Package play: odd things, which are no terms, no numbers. -/
import Derived.Test.YtgjjngkmbplijaaYPlayObs
import Derived.Test.YtgjjngkmbplijaaYTerm1

namespace Go.Proofs.Ytgjjngkmbplijaa
open Go.RowKit
set_option linter.unusedSimpArgs false
set_option linter.unusedVariables false

/-- Something odd: none of api's numbers, or one small one; none of api's contracts. -/
structure OddIs (v : Value) : Prop where
  ob : OddV v ∨ v = .iface 52 (.agg #[.int .i64 1])
  te : OddT v
def RetOdd (w : World) (e : Ending) (w' : World) : Prop := ∃ v, e = .returned v ∧ OddIs v ∧ Ext w w'
theorem oddIs_nil : OddIs .nilIface := ⟨.inl (.inl rfl), .inl rfl⟩
theorem oddIs_of {t : TypeId} {x : Value} (h : t ≠ 52 ∧ t ≠ 60 ∧ t ≠ 55 ∧ t ≠ 62 ∧ t ≠ 68 ∧ t ≠ 79) (h2 : t ≠ 101 ∧ t ≠ 96 ∧ t ≠ 99 ∧ t ≠ 118 ∧ t ≠ 104 ∧ t ≠ 108 ∧ t ≠ 106 ∧ t ≠ 110) : OddIs (.iface t x) := ⟨.inl (.inr ⟨t, x, rfl, h⟩), .inr ⟨t, x, rfl, h2⟩⟩
theorem oddIs_const : OddIs (.iface 52 (.agg #[.int .i64 1])) := ⟨.inr rfl, .inr ⟨_, _, rfl, by decide⟩⟩

set_option maxRecDepth 100000 in
set_option maxHeartbeats 800000 in
theorem odd_calls (n : Int) (w : World) (h1 : -9223372036854775808 ≤ n) (h2 : n ≤ 9223372036854775807) : Calls Try.prog 61 #[.int .i64 n] w fun e w' => RetOdd w e w' := by
  have hm0 : 0 ≤ n % 9 := Int.emod_nonneg _ (by omega)
  have hm1 : n % 9 < 9 := Int.emod_lt_of_pos _ (by omega)
  have HW := fun W => within_calls n 9 W (by omega) (by omega) h1 h2
  have hmm := @run_makeMap Try.prog
  obtain ⟨j, hj⟩ : ∃ j : Nat, n % 9 = j := ⟨(n % 9).toNat, by omega⟩
  rw [hj] at HW hm0 hm1
  clear hj h1 h2
  have hj2 : j = 0 ∨ j = 1 ∨ j = 2 ∨ j = 3 ∨ j = 4 ∨ j = 5 ∨ j = 6 ∨ j = 7 ∨ j = 8 := by omega
  rcases hj2 with rfl | rfl | rfl | rfl | rfl | rfl | rfl | rfl | rfl
  all_goals
    go_enter Try.func61, Try.ntmps61
    (go_wp2_with fail; (with_reducible refine (HW _).mono ?_); rintro e w' ⟨rfl, rfl⟩)
    go_wp2
    apply bodyPost_ret
    · exact results_tmp rfl _ _ _
    · rfl
  · exact ⟨_, rfl, oddIs_nil, (by repeat' (first | (with_reducible exact Ext.refl _) | (with_reducible assumption) | (with_reducible refine Ext.alloc ?_ _) | (with_reducible refine Ext.drew ?_) | (with_reducible refine Ext.drewN ?_ _) | (with_reducible refine Ext.setCell ?_ (by first | exact Nat.le_refl _ | (simp; done) | (simp; omega) | omega) _) | (with_reducible refine Ext.trans ?_ (by assumption))))⟩
  · exact ⟨_, rfl, oddIs_of (by decide) (by decide), (by repeat' (first | (with_reducible exact Ext.refl _) | (with_reducible assumption) | (with_reducible refine Ext.alloc ?_ _) | (with_reducible refine Ext.drew ?_) | (with_reducible refine Ext.drewN ?_ _) | (with_reducible refine Ext.setCell ?_ (by first | exact Nat.le_refl _ | (simp; done) | (simp; omega) | omega) _) | (with_reducible refine Ext.trans ?_ (by assumption))))⟩
  · exact ⟨_, rfl, oddIs_of (by decide) (by decide), (by repeat' (first | (with_reducible exact Ext.refl _) | (with_reducible assumption) | (with_reducible refine Ext.alloc ?_ _) | (with_reducible refine Ext.drew ?_) | (with_reducible refine Ext.drewN ?_ _) | (with_reducible refine Ext.setCell ?_ (by first | exact Nat.le_refl _ | (simp; done) | (simp; omega) | omega) _) | (with_reducible refine Ext.trans ?_ (by assumption))))⟩
  · exact ⟨_, rfl, oddIs_of (by decide) (by decide), (by repeat' (first | (with_reducible exact Ext.refl _) | (with_reducible assumption) | (with_reducible refine Ext.alloc ?_ _) | (with_reducible refine Ext.drew ?_) | (with_reducible refine Ext.drewN ?_ _) | (with_reducible refine Ext.setCell ?_ (by first | exact Nat.le_refl _ | (simp; done) | (simp; omega) | omega) _) | (with_reducible refine Ext.trans ?_ (by assumption))))⟩
  · exact ⟨_, rfl, oddIs_of (by decide) (by decide), (by repeat' (first | (with_reducible exact Ext.refl _) | (with_reducible assumption) | (with_reducible refine Ext.alloc ?_ _) | (with_reducible refine Ext.drew ?_) | (with_reducible refine Ext.drewN ?_ _) | (with_reducible refine Ext.setCell ?_ (by first | exact Nat.le_refl _ | (simp; done) | (simp; omega) | omega) _) | (with_reducible refine Ext.trans ?_ (by assumption))))⟩
  · exact ⟨_, rfl, oddIs_of (by decide) (by decide), (by repeat' (first | (with_reducible exact Ext.refl _) | (with_reducible assumption) | (with_reducible refine Ext.alloc ?_ _) | (with_reducible refine Ext.drew ?_) | (with_reducible refine Ext.drewN ?_ _) | (with_reducible refine Ext.setCell ?_ (by first | exact Nat.le_refl _ | (simp; done) | (simp; omega) | omega) _) | (with_reducible refine Ext.trans ?_ (by assumption))))⟩
  · exact ⟨_, rfl, oddIs_of (by decide) (by decide), (by repeat' (first | (with_reducible exact Ext.refl _) | (with_reducible assumption) | (with_reducible refine Ext.alloc ?_ _) | (with_reducible refine Ext.drew ?_) | (with_reducible refine Ext.drewN ?_ _) | (with_reducible refine Ext.setCell ?_ (by first | exact Nat.le_refl _ | (simp; done) | (simp; omega) | omega) _) | (with_reducible refine Ext.trans ?_ (by assumption))))⟩
  · exact ⟨_, rfl, oddIs_const, (by repeat' (first | (with_reducible exact Ext.refl _) | (with_reducible assumption) | (with_reducible refine Ext.alloc ?_ _) | (with_reducible refine Ext.drew ?_) | (with_reducible refine Ext.drewN ?_ _) | (with_reducible refine Ext.setCell ?_ (by first | exact Nat.le_refl _ | (simp; done) | (simp; omega) | omega) _) | (with_reducible refine Ext.trans ?_ (by assumption))))⟩
  · exact ⟨_, rfl, oddIs_of (by decide) (by decide), (by repeat' (first | (with_reducible exact Ext.refl _) | (with_reducible assumption) | (with_reducible refine Ext.alloc ?_ _) | (with_reducible refine Ext.drew ?_) | (with_reducible refine Ext.drewN ?_ _) | (with_reducible refine Ext.setCell ?_ (by first | exact Nat.le_refl _ | (simp; done) | (simp; omega) | omega) _) | (with_reducible refine Ext.trans ?_ (by assumption))))⟩

end Go.Proofs.Ytgjjngkmbplijaa
