/- The maker of package play: contracts: a tree without parts. -/
import Derived.Test.YtgjjngkmbplijaaMTerm
namespace Go.Proofs.Ytgjjngkmbplijaa
open Go.RowKit
set_option linter.unusedVariables false
theorem RetTr.ext {w w' w'' : World} {m : Nat} {p : Pl} {r : Tr × Nat × Int} {label : Int} {e : Ending} (h : RetTr w m p r label e w') (hx : Ext w' w'') : RetTr w m p r label e w'' := by
  obtain ⟨t, h1, h2, h3, h4, h5⟩ := h
  exact ⟨t, h1, h2, h3.ext hx, h4.ext hx, grown_trans h5 (grown_ext hx _)⟩
end Go.Proofs.Ytgjjngkmbplijaa
