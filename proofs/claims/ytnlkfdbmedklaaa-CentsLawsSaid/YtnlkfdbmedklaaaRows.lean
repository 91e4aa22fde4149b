/-
  No cell of these rows narrows 'for every input' (looked for: loops, veiled, ifaces, maps, wideKeys, modest, calm, conditions, laid).
  DERIVED. THE GIVEN ROWS OF THIS SEAT. 5 by the template 'for every input the law returns true; each argument reads behind the call as it read before'; 0 by the template 'total and deterministic' (their statements: YtnlkfdbmedklaaaTotals.lean).
  GIVEN WITH THE SEED: the statements are not yours to turn. If you find one false, say at which input.
  Laid BY PROGRAM, IN A SANDBOX (cutbox-rows.mjs): the forced cells as the released guide's own fill.sh prints them over the translation 1beeaeae57af6fc0… (all of the seat's roots in one cut). By AI agents, Wed Nov 11 2026. No macro, syntax, notation, axiom, sorry.
-/
import Derived.Test.YtnlkfdbmedklaaaChecked
import GoSem.Claim
import GoSem.ClaimJoined
import GoSem.ClaimMapViews
import Derived.JoinedTies
import Derived.KernelRfl
namespace Go.Proofs.Ytnlkfdbmedklaaa
/- THE CELL 'sum', in the pinned program and in every row, IS THE sha256 OF THE DUMP (.gsa) THAT YtnlkfdbmedklaaaProg.lean LOADS. Nothing in Lean hashes anything: it is a label: what it is worth is what the hold of that sum in a sandbox is worth. -/
noncomputable def Try.pinned : Pinned := { name := "ytnlkfdbmedklaaa", sum := "1beeaeae57af6fc080fbd84f64892809f43a91f8d5b004781133cd8805d5616e", checked := Try.checked }
namespace Rows
def none {H : Type} : Left H := { results := [], args := [] }

/-- 'handfastlaw02.CentsEdges': WHATEVER THE INPUT: true; the input reads as it did. -/
def centsEdgesSpec : ChangeSpec := { name := "centsEdges", fn := fun _ => fun
  | [d] => { results := [.lit (.bool true)], args := [d] }
  | _ => none }
def centsEdgesRow : OpenClaim := { program := "ytnlkfdbmedklaaa", sum := "1beeaeae57af6fc080fbd84f64892809f43a91f8d5b004781133cd8805d5616e", func := "handfast/handfastlaw02.CentsEdges", spec := "centsEdges", apart := false }
def CentsEdgesSaid : Prop := centsEdgesRow.holds Try.pinned (OpenSpec.ofChange centsEdgesSpec)

/-- ITS FALSE NEIGHBOUR: 'it returns false'. Refute it at one input. -/
def centsEdgesWrong : ChangeSpec := { name := "centsEdges", fn := fun _ => fun
  | [d] => { results := [.lit (.bool false)], args := [d] }
  | _ => none }
def CentsEdgesWrongFalsely : Prop := centsEdgesRow.holds Try.pinned (OpenSpec.ofChange centsEdgesWrong)

/-- 'handfastlaw02.CentsLaws': WHATEVER THE INPUT: true; the input reads as it did. -/
def centsLawsSpec : ChangeSpec := { name := "centsLaws", fn := fun _ => fun
  | [d1, d2, d3, d4] => { results := [.lit (.bool true)], args := [d1, d2, d3, d4] }
  | _ => none }
def centsLawsRow : OpenClaim := { program := "ytnlkfdbmedklaaa", sum := "1beeaeae57af6fc080fbd84f64892809f43a91f8d5b004781133cd8805d5616e", func := "handfast/handfastlaw02.CentsLaws", spec := "centsLaws", apart := false }
def CentsLawsSaid : Prop := centsLawsRow.holds Try.pinned (OpenSpec.ofChange centsLawsSpec)

/-- ITS FALSE NEIGHBOUR: 'it returns false'. Refute it at one input. -/
def centsLawsWrong : ChangeSpec := { name := "centsLaws", fn := fun _ => fun
  | [d1, d2, d3, d4] => { results := [.lit (.bool false)], args := [d1, d2, d3, d4] }
  | _ => none }
def CentsLawsWrongFalsely : Prop := centsLawsRow.holds Try.pinned (OpenSpec.ofChange centsLawsWrong)

/-- 'handfastlaw02.CentsSums': WHATEVER THE INPUT: true; the input reads as it did. -/
def centsSumsSpec : ChangeSpec := { name := "centsSums", fn := fun _ => fun
  | [d1, d2, d3] => { results := [.lit (.bool true)], args := [d1, d2, d3] }
  | _ => none }
def centsSumsRow : OpenClaim := { program := "ytnlkfdbmedklaaa", sum := "1beeaeae57af6fc080fbd84f64892809f43a91f8d5b004781133cd8805d5616e", func := "handfast/handfastlaw02.CentsSums", spec := "centsSums", apart := false }
def CentsSumsSaid : Prop := centsSumsRow.holds Try.pinned (OpenSpec.ofChange centsSumsSpec)

/-- ITS FALSE NEIGHBOUR: 'it returns false'. Refute it at one input. -/
def centsSumsWrong : ChangeSpec := { name := "centsSums", fn := fun _ => fun
  | [d1, d2, d3] => { results := [.lit (.bool false)], args := [d1, d2, d3] }
  | _ => none }
def CentsSumsWrongFalsely : Prop := centsSumsRow.holds Try.pinned (OpenSpec.ofChange centsSumsWrong)

/-- 'handfastlaw02.CentsTell': WHATEVER THE INPUT: true; the input reads as it did. -/
def centsTellSpec : ChangeSpec := { name := "centsTell", fn := fun _ => fun
  | [d1, d2, d3, d4, d5] => { results := [.lit (.bool true)], args := [d1, d2, d3, d4, d5] }
  | _ => none }
def centsTellRow : OpenClaim := { program := "ytnlkfdbmedklaaa", sum := "1beeaeae57af6fc080fbd84f64892809f43a91f8d5b004781133cd8805d5616e", func := "handfast/handfastlaw02.CentsTell", spec := "centsTell", apart := false }
def CentsTellSaid : Prop := centsTellRow.holds Try.pinned (OpenSpec.ofChange centsTellSpec)

/-- ITS FALSE NEIGHBOUR: 'it returns false'. Refute it at one input. -/
def centsTellWrong : ChangeSpec := { name := "centsTell", fn := fun _ => fun
  | [d1, d2, d3, d4, d5] => { results := [.lit (.bool false)], args := [d1, d2, d3, d4, d5] }
  | _ => none }
def CentsTellWrongFalsely : Prop := centsTellRow.holds Try.pinned (OpenSpec.ofChange centsTellWrong)

/-- 'handfastlaw02.CentsSigns': WHATEVER THE INPUT: true; the input reads as it did. -/
def centsSignsSpec : ChangeSpec := { name := "centsSigns", fn := fun _ => fun
  | [d1, d2, d3] => { results := [.lit (.bool true)], args := [d1, d2, d3] }
  | _ => none }
def centsSignsRow : OpenClaim := { program := "ytnlkfdbmedklaaa", sum := "1beeaeae57af6fc080fbd84f64892809f43a91f8d5b004781133cd8805d5616e", func := "handfast/handfastlaw02.CentsSigns", spec := "centsSigns", apart := false }
def CentsSignsSaid : Prop := centsSignsRow.holds Try.pinned (OpenSpec.ofChange centsSignsSpec)

/-- ITS FALSE NEIGHBOUR: 'it returns false'. Refute it at one input. -/
def centsSignsWrong : ChangeSpec := { name := "centsSigns", fn := fun _ => fun
  | [d1, d2, d3] => { results := [.lit (.bool false)], args := [d1, d2, d3] }
  | _ => none }
def CentsSignsWrongFalsely : Prop := centsSignsRow.holds Try.pinned (OpenSpec.ofChange centsSignsWrong)

/- THE SECOND FORM. 'bulk': how many values and letters a reading holds, each counted each time it is reached (what is shared counts as often as it is met; a slice's spare places count too). A statement '..UptoSaid' is the law's where the arguments, and the package variables that the reading takes, are together of bulk at most 1048576: NARROWER than '..Said'. Prove '..Said' where nothing that the law and all that it calls make is longer than what came in: it says more and counts as full. Else prove '..UptoSaid'. A law counts once. -/
mutual
def uptoBulk {H : Type} : DataW H → Nat
  | .lit (.string bytes) => bytes.length + 1
  | .lit _ => 1
  | .nil => 1
  | .ptr d => uptoBulk d + 1
  | .slice elems spare => uptoBulkAll elems + uptoBulkAll spare + 1
  | .agg parts => uptoBulkAll parts + 1
  | .iface _ d => uptoBulk d + 1
  | .map entries => uptoBulkEntries entries + 1
  | .held _ => 1
def uptoBulkAll {H : Type} : List (DataW H) → Nat
  | [] => 0
  | d :: r => uptoBulk d + uptoBulkAll r
def uptoBulkEntries {H : Type} : List (Lit × DataW H) → Nat
  | [] => 0
  | x :: r => uptoBulkEntry x + uptoBulkEntries r
def uptoBulkEntry {H : Type} : Lit × DataW H → Nat
  | (.string bytes, d) => bytes.length + uptoBulk d + 1
  | (_, d) => uptoBulk d + 1
 end
def uptoSmall : (H : Type) → List (DataW H) → Bool := fun _ ds => decide (uptoBulkAll ds ≤ 1048576)
def OpenSpec.upto (s : _root_.Go.ChangeSpec) : _root_.Go.OpenSpec := { _root_.Go.OpenSpec.ofChange s with cond := some uptoSmall }

/-- 'handfastlaw02.CentsEdges', WHERE WHAT IT READS IS OF BULK AT MOST 1048576: true; the input reads as it did. -/
def centsEdgesUptoRow : OpenClaim := { program := "ytnlkfdbmedklaaa", sum := "1beeaeae57af6fc080fbd84f64892809f43a91f8d5b004781133cd8805d5616e", func := "handfast/handfastlaw02.CentsEdges", spec := "centsEdges", apart := false, narrowed := true }
def CentsEdgesUptoSaid : Prop := centsEdgesUptoRow.holds Try.pinned (OpenSpec.upto centsEdgesSpec)

/-- 'handfastlaw02.CentsLaws', WHERE WHAT IT READS IS OF BULK AT MOST 1048576: true; the input reads as it did. -/
def centsLawsUptoRow : OpenClaim := { program := "ytnlkfdbmedklaaa", sum := "1beeaeae57af6fc080fbd84f64892809f43a91f8d5b004781133cd8805d5616e", func := "handfast/handfastlaw02.CentsLaws", spec := "centsLaws", apart := false, narrowed := true }
def CentsLawsUptoSaid : Prop := centsLawsUptoRow.holds Try.pinned (OpenSpec.upto centsLawsSpec)

/-- 'handfastlaw02.CentsSums', WHERE WHAT IT READS IS OF BULK AT MOST 1048576: true; the input reads as it did. -/
def centsSumsUptoRow : OpenClaim := { program := "ytnlkfdbmedklaaa", sum := "1beeaeae57af6fc080fbd84f64892809f43a91f8d5b004781133cd8805d5616e", func := "handfast/handfastlaw02.CentsSums", spec := "centsSums", apart := false, narrowed := true }
def CentsSumsUptoSaid : Prop := centsSumsUptoRow.holds Try.pinned (OpenSpec.upto centsSumsSpec)

/-- 'handfastlaw02.CentsTell', WHERE WHAT IT READS IS OF BULK AT MOST 1048576: true; the input reads as it did. -/
def centsTellUptoRow : OpenClaim := { program := "ytnlkfdbmedklaaa", sum := "1beeaeae57af6fc080fbd84f64892809f43a91f8d5b004781133cd8805d5616e", func := "handfast/handfastlaw02.CentsTell", spec := "centsTell", apart := false, narrowed := true }
def CentsTellUptoSaid : Prop := centsTellUptoRow.holds Try.pinned (OpenSpec.upto centsTellSpec)

/-- 'handfastlaw02.CentsSigns', WHERE WHAT IT READS IS OF BULK AT MOST 1048576: true; the input reads as it did. -/
def centsSignsUptoRow : OpenClaim := { program := "ytnlkfdbmedklaaa", sum := "1beeaeae57af6fc080fbd84f64892809f43a91f8d5b004781133cd8805d5616e", func := "handfast/handfastlaw02.CentsSigns", spec := "centsSigns", apart := false, narrowed := true }
def CentsSignsUptoSaid : Prop := centsSignsUptoRow.holds Try.pinned (OpenSpec.upto centsSignsSpec)

end Rows
end Go.Proofs.Ytnlkfdbmedklaaa
