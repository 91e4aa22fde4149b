/- Slots that hold rows of strings, of this list or of that, beside such as hold what is known ahead. -/
import Derived.Test.YtgjjngkmbplijaaYOwn2

namespace Go.Proofs.Ytgjjngkmbplijaa
open Go.RowKit
set_option linter.unusedVariables false

/-- The slots of the operations in S hold rows of S's lists, the others what V says. -/
def otG (S : List (Nat × List ByteArray)) (V : List Value) (i : Nat) (W : World) (u : Value) : Prop := match S.lookup i with | some N => NmAt N W u | none => u = V.getD i undef
theorem otG_ext {S : List (Nat × List ByteArray)} {V : List Value} {i : Nat} {W W2 : World} {u : Value} (hx : Ext W W2) (h : otG S V i W u) : otG S V i W2 u := by
  unfold otG at *
  generalize S.lookup i = x at *
  cases x with
  | some N => exact NmAt.ext (N := N) (u := u) h hx
  | none => exact h

end Go.Proofs.Ytgjjngkmbplijaa
