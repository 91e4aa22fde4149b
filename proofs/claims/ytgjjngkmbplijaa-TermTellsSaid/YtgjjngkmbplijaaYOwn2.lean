/- Slots that hold rows of strings beside such as hold what is known ahead. -/
import Derived.Test.YtgjjngkmbplijaaYLaw04
import Derived.Test.YtgjjngkmbplijaaZMk
import Derived.Deep.CutRange

namespace Go.Proofs.Ytgjjngkmbplijaa
open Go.RowKit
set_option linter.unusedVariables false

theorem ksame_own2 {b1 b2 : Nat} (l : List ByteArray) {v1 v2 : Value} {w : World} (h1 : w.ownsRow b1 9 1 v1 l.length (strVals l)) (h2 : w.ownsRow b2 9 1 v2 l.length (strVals l)) : Calls Try.prog 50 #[v1, v2] w fun e w' => e = .returned (.bool true) ∧ Ext w w' := by
  obtain ⟨A1, C1, rfl, a1, a2⟩ := own_form h1
  obtain ⟨A2, C2, rfl, a3, a4⟩ := own_form h2
  have := ksame_calls l l A1 C1 A2 C2 w (Rd.of_own h1) a1 a2 (Rd.of_own h2) a3 a4
  rwa [beq_self_eq_true] at this
/-- A row of strings of one's own. -/
def NmAt (N : List ByteArray) (W : World) (u : Value) : Prop := ∃ b, W.ownsRow b 9 1 u N.length (strVals N)
theorem NmAt.ext {N : List ByteArray} {W W2 : World} {u : Value} (h : NmAt N W u) (hx : Ext W W2) : NmAt N W2 u := by
  obtain ⟨b, h⟩ := h
  exact ⟨b, hx.own h⟩
theorem NmAt.same {N : List ByteArray} {W : World} {u v : Value} (h : NmAt N W u) (k : NmAt N W v) : Calls Try.prog 50 #[u, v] W fun e W2 => e = .returned (.bool true) ∧ Ext W W2 := by
  obtain ⟨b, h⟩ := h
  obtain ⟨c, k⟩ := k
  exact ksame_own2 N h k
/-- The slots of the operations S hold such rows, the others what V says. -/
def otF (N : List ByteArray) (S : List Nat) (V : List Value) (i : Nat) (W : World) (u : Value) : Prop := if S.contains i = true then NmAt N W u else u = V.getD i undef
theorem otF_ext {N : List ByteArray} {S : List Nat} {V : List Value} {i : Nat} {W W2 : World} {u : Value} (hx : Ext W W2) (h : otF N S V i W u) : otF N S V i W2 u := by
  unfold otF at *
  split
  · rename_i e
    rw [if_pos e] at h
    exact h.ext hx
  · rename_i e
    rw [if_neg e] at h
    exact h

end Go.Proofs.Ytgjjngkmbplijaa
