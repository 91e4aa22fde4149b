/-
  No cell of these rows narrows 'for every input' (looked for: loops, veiled, ifaces, maps, wideKeys, modest, calm, conditions, laid).
  DERIVED. THE GIVEN ROWS OF THIS SEAT. 30 by the template 'for every input the law returns true; each argument reads behind the call as it read before'; 0 by the template 'total and deterministic' (their statements: YtgjjngkmbplijaaTotals.lean).
  GIVEN WITH THE SEED: the statements are not yours to turn. If you find one false, say at which input.
  Laid BY PROGRAM, IN A SANDBOX (cutbox-rows.mjs): the forced cells as the released guide's own fill.sh prints them over the translation 2408f8bf03f5c935… (all of the seat's roots in one cut). By AI agents, Wed Nov 11 2026. No macro, syntax, notation, axiom, sorry.
-/
import Derived.Test.YtgjjngkmbplijaaChecked
import GoSem.Claim
import GoSem.ClaimJoined
import GoSem.ClaimMapViews
import Derived.JoinedTies
import Derived.KernelRfl
namespace Go.Proofs.Ytgjjngkmbplijaa
/- THE CELL 'sum', in the pinned program and in every row, IS THE sha256 OF THE DUMP (.gsa) THAT YtgjjngkmbplijaaProg.lean LOADS. Nothing in Lean hashes anything: it is a label: what it is worth is what the hold of that sum in a sandbox is worth. -/
noncomputable def Try.pinned : Pinned := { name := "ytgjjngkmbplijaa", sum := "2408f8bf03f5c935d3155183a41b38a95d8760322f135664a803d577d66a6aaf", checked := Try.checked }
namespace Rows
def none {H : Type} : Left H := { results := [], args := [] }

/-- 'handfastlaw08.WorldErrors': WHATEVER THE INPUT: true; the input reads as it did. -/
def worldErrorsSpec : ChangeSpec := { name := "worldErrors", fn := fun _ => fun
  | [d] => { results := [.lit (.bool true)], args := [d] }
  | _ => none }
def worldErrorsRow : OpenClaim := { program := "ytgjjngkmbplijaa", sum := "2408f8bf03f5c935d3155183a41b38a95d8760322f135664a803d577d66a6aaf", func := "handfast/handfastlaw08.WorldErrors", spec := "worldErrors", plainKeys := false, apart := false }
def WorldErrorsSaid : Prop := worldErrorsRow.holds Try.pinned (OpenSpec.ofChange worldErrorsSpec)

/-- ITS FALSE NEIGHBOUR: 'it returns false'. Refute it at one input. -/
def worldErrorsWrong : ChangeSpec := { name := "worldErrors", fn := fun _ => fun
  | [d] => { results := [.lit (.bool false)], args := [d] }
  | _ => none }
def WorldErrorsWrongFalsely : Prop := worldErrorsRow.holds Try.pinned (OpenSpec.ofChange worldErrorsWrong)

/-- 'handfastlaw08.WorldOnce': WHATEVER THE INPUT: true; the input reads as it did. -/
def worldOnceSpec : ChangeSpec := { name := "worldOnce", fn := fun _ => fun
  | [d1, d2] => { results := [.lit (.bool true)], args := [d1, d2] }
  | _ => none }
def worldOnceRow : OpenClaim := { program := "ytgjjngkmbplijaa", sum := "2408f8bf03f5c935d3155183a41b38a95d8760322f135664a803d577d66a6aaf", func := "handfast/handfastlaw08.WorldOnce", spec := "worldOnce", plainKeys := false, apart := false }
def WorldOnceSaid : Prop := worldOnceRow.holds Try.pinned (OpenSpec.ofChange worldOnceSpec)

/-- ITS FALSE NEIGHBOUR: 'it returns false'. Refute it at one input. -/
def worldOnceWrong : ChangeSpec := { name := "worldOnce", fn := fun _ => fun
  | [d1, d2] => { results := [.lit (.bool false)], args := [d1, d2] }
  | _ => none }
def WorldOnceWrongFalsely : Prop := worldOnceRow.holds Try.pinned (OpenSpec.ofChange worldOnceWrong)

/-- 'handfastlaw08.WorldApart': WHATEVER THE INPUT: true; the input reads as it did. -/
def worldApartSpec : ChangeSpec := { name := "worldApart", fn := fun _ => fun
  | [d1, d2, d3] => { results := [.lit (.bool true)], args := [d1, d2, d3] }
  | _ => none }
def worldApartRow : OpenClaim := { program := "ytgjjngkmbplijaa", sum := "2408f8bf03f5c935d3155183a41b38a95d8760322f135664a803d577d66a6aaf", func := "handfast/handfastlaw08.WorldApart", spec := "worldApart", inPlace := ["maps.clone"], plainKeys := false, apart := false }
def WorldApartSaid : Prop := worldApartRow.holds Try.pinned (OpenSpec.ofChange worldApartSpec)

/-- ITS FALSE NEIGHBOUR: 'it returns false'. Refute it at one input. -/
def worldApartWrong : ChangeSpec := { name := "worldApart", fn := fun _ => fun
  | [d1, d2, d3] => { results := [.lit (.bool false)], args := [d1, d2, d3] }
  | _ => none }
def WorldApartWrongFalsely : Prop := worldApartRow.holds Try.pinned (OpenSpec.ofChange worldApartWrong)

/-- 'handfastlaw08.WorldPlays': WHATEVER THE INPUT: true; the input reads as it did. -/
def worldPlaysSpec : ChangeSpec := { name := "worldPlays", fn := fun _ => fun
  | [d] => { results := [.lit (.bool true)], args := [d] }
  | _ => none }
def worldPlaysRow : OpenClaim := { program := "ytgjjngkmbplijaa", sum := "2408f8bf03f5c935d3155183a41b38a95d8760322f135664a803d577d66a6aaf", func := "handfast/handfastlaw08.WorldPlays", spec := "worldPlays", inPlace := ["maps.clone"], plainKeys := false, apart := false }
def WorldPlaysSaid : Prop := worldPlaysRow.holds Try.pinned (OpenSpec.ofChange worldPlaysSpec)

/-- ITS FALSE NEIGHBOUR: 'it returns false'. Refute it at one input. -/
def worldPlaysWrong : ChangeSpec := { name := "worldPlays", fn := fun _ => fun
  | [d] => { results := [.lit (.bool false)], args := [d] }
  | _ => none }
def WorldPlaysWrongFalsely : Prop := worldPlaysRow.holds Try.pinned (OpenSpec.ofChange worldPlaysWrong)

/-- 'handfastlaw04.ObsLimits': WHATEVER THE INPUT: true; the input reads as it did. -/
def obsLimitsSpec : ChangeSpec := { name := "obsLimits", fn := fun _ => fun
  | [d1, d2] => { results := [.lit (.bool true)], args := [d1, d2] }
  | _ => none }
def obsLimitsRow : OpenClaim := { program := "ytgjjngkmbplijaa", sum := "2408f8bf03f5c935d3155183a41b38a95d8760322f135664a803d577d66a6aaf", func := "handfast/handfastlaw04.ObsLimits", spec := "obsLimits", unfollowed := true, recurses := true, plainKeys := false, apart := false }
def ObsLimitsSaid : Prop := obsLimitsRow.holds Try.pinned (OpenSpec.ofChange obsLimitsSpec)

/-- ITS FALSE NEIGHBOUR: 'it returns false'. Refute it at one input. -/
def obsLimitsWrong : ChangeSpec := { name := "obsLimits", fn := fun _ => fun
  | [d1, d2] => { results := [.lit (.bool false)], args := [d1, d2] }
  | _ => none }
def ObsLimitsWrongFalsely : Prop := obsLimitsRow.holds Try.pinned (OpenSpec.ofChange obsLimitsWrong)

/-- 'handfastlaw04.ObsNames': WHATEVER THE INPUT: true; the input reads as it did. -/
def obsNamesSpec : ChangeSpec := { name := "obsNames", fn := fun _ => fun
  | [d] => { results := [.lit (.bool true)], args := [d] }
  | _ => none }
def obsNamesRow : OpenClaim := { program := "ytgjjngkmbplijaa", sum := "2408f8bf03f5c935d3155183a41b38a95d8760322f135664a803d577d66a6aaf", func := "handfast/handfastlaw04.ObsNames", spec := "obsNames", unfollowed := true, recurses := true, plainKeys := false, apart := false }
def ObsNamesSaid : Prop := obsNamesRow.holds Try.pinned (OpenSpec.ofChange obsNamesSpec)

/-- ITS FALSE NEIGHBOUR: 'it returns false'. Refute it at one input. -/
def obsNamesWrong : ChangeSpec := { name := "obsNames", fn := fun _ => fun
  | [d] => { results := [.lit (.bool false)], args := [d] }
  | _ => none }
def ObsNamesWrongFalsely : Prop := obsNamesRow.holds Try.pinned (OpenSpec.ofChange obsNamesWrong)

/-- 'handfastlaw04.ObsSame': WHATEVER THE INPUT: true; the input reads as it did. -/
def obsSameSpec : ChangeSpec := { name := "obsSame", fn := fun _ => fun
  | [d1, d2] => { results := [.lit (.bool true)], args := [d1, d2] }
  | _ => none }
def obsSameRow : OpenClaim := { program := "ytgjjngkmbplijaa", sum := "2408f8bf03f5c935d3155183a41b38a95d8760322f135664a803d577d66a6aaf", func := "handfast/handfastlaw04.ObsSame", spec := "obsSame", unfollowed := true, recurses := true, plainKeys := false, apart := false }
def ObsSameSaid : Prop := obsSameRow.holds Try.pinned (OpenSpec.ofChange obsSameSpec)

/-- ITS FALSE NEIGHBOUR: 'it returns false'. Refute it at one input. -/
def obsSameWrong : ChangeSpec := { name := "obsSame", fn := fun _ => fun
  | [d1, d2] => { results := [.lit (.bool false)], args := [d1, d2] }
  | _ => none }
def ObsSameWrongFalsely : Prop := obsSameRow.holds Try.pinned (OpenSpec.ofChange obsSameWrong)

/-- 'handfastlaw04.ObsTells': WHATEVER THE INPUT: true; the input reads as it did. -/
def obsTellsSpec : ChangeSpec := { name := "obsTells", fn := fun _ => fun
  | [d1, d2, d3, d4, d5, d6, d7, d8] => { results := [.lit (.bool true)], args := [d1, d2, d3, d4, d5, d6, d7, d8] }
  | _ => none }
def obsTellsRow : OpenClaim := { program := "ytgjjngkmbplijaa", sum := "2408f8bf03f5c935d3155183a41b38a95d8760322f135664a803d577d66a6aaf", func := "handfast/handfastlaw04.ObsTells", spec := "obsTells", unfollowed := true, recurses := true, plainKeys := false, apart := false }
def ObsTellsSaid : Prop := obsTellsRow.holds Try.pinned (OpenSpec.ofChange obsTellsSpec)

/-- ITS FALSE NEIGHBOUR: 'it returns false'. Refute it at one input. -/
def obsTellsWrong : ChangeSpec := { name := "obsTells", fn := fun _ => fun
  | [d1, d2, d3, d4, d5, d6, d7, d8] => { results := [.lit (.bool false)], args := [d1, d2, d3, d4, d5, d6, d7, d8] }
  | _ => none }
def ObsTellsWrongFalsely : Prop := obsTellsRow.holds Try.pinned (OpenSpec.ofChange obsTellsWrong)

/-- 'handfastlaw04.ObsParts': WHATEVER THE INPUT: true; the input reads as it did. -/
def obsPartsSpec : ChangeSpec := { name := "obsParts", fn := fun _ => fun
  | [d] => { results := [.lit (.bool true)], args := [d] }
  | _ => none }
def obsPartsRow : OpenClaim := { program := "ytgjjngkmbplijaa", sum := "2408f8bf03f5c935d3155183a41b38a95d8760322f135664a803d577d66a6aaf", func := "handfast/handfastlaw04.ObsParts", spec := "obsParts", unfollowed := true, recurses := true, plainKeys := false, apart := false }
def ObsPartsSaid : Prop := obsPartsRow.holds Try.pinned (OpenSpec.ofChange obsPartsSpec)

/-- ITS FALSE NEIGHBOUR: 'it returns false'. Refute it at one input. -/
def obsPartsWrong : ChangeSpec := { name := "obsParts", fn := fun _ => fun
  | [d] => { results := [.lit (.bool false)], args := [d] }
  | _ => none }
def ObsPartsWrongFalsely : Prop := obsPartsRow.holds Try.pinned (OpenSpec.ofChange obsPartsWrong)

/-- 'handfastlaw04.ObsOdd': WHATEVER THE INPUT: true; the input reads as it did. -/
def obsOddSpec : ChangeSpec := { name := "obsOdd", fn := fun _ => fun
  | [d1, d2, d3] => { results := [.lit (.bool true)], args := [d1, d2, d3] }
  | _ => none }
def obsOddRow : OpenClaim := { program := "ytgjjngkmbplijaa", sum := "2408f8bf03f5c935d3155183a41b38a95d8760322f135664a803d577d66a6aaf", func := "handfast/handfastlaw04.ObsOdd", spec := "obsOdd", unfollowed := true, recurses := true, plainKeys := false, apart := false }
def ObsOddSaid : Prop := obsOddRow.holds Try.pinned (OpenSpec.ofChange obsOddSpec)

/-- ITS FALSE NEIGHBOUR: 'it returns false'. Refute it at one input. -/
def obsOddWrong : ChangeSpec := { name := "obsOdd", fn := fun _ => fun
  | [d1, d2, d3] => { results := [.lit (.bool false)], args := [d1, d2, d3] }
  | _ => none }
def ObsOddWrongFalsely : Prop := obsOddRow.holds Try.pinned (OpenSpec.ofChange obsOddWrong)

/-- 'handfastlaw09.ValueOver': WHATEVER THE INPUT: true; the input reads as it did. -/
def valueOverSpec : ChangeSpec := { name := "valueOver", fn := fun _ => fun
  | [d1, d2] => { results := [.lit (.bool true)], args := [d1, d2] }
  | _ => none }
def valueOverRow : OpenClaim := { program := "ytgjjngkmbplijaa", sum := "2408f8bf03f5c935d3155183a41b38a95d8760322f135664a803d577d66a6aaf", func := "handfast/handfastlaw09.ValueOver", spec := "valueOver", unfollowed := true, recurses := true, plainKeys := false, apart := false }
def ValueOverSaid : Prop := valueOverRow.holds Try.pinned (OpenSpec.ofChange valueOverSpec)

/-- ITS FALSE NEIGHBOUR: 'it returns false'. Refute it at one input. -/
def valueOverWrong : ChangeSpec := { name := "valueOver", fn := fun _ => fun
  | [d1, d2] => { results := [.lit (.bool false)], args := [d1, d2] }
  | _ => none }
def ValueOverWrongFalsely : Prop := valueOverRow.holds Try.pinned (OpenSpec.ofChange valueOverWrong)

/-- 'handfastlaw05.TermLimits': WHATEVER THE INPUT: true; the input reads as it did. -/
def termLimitsSpec : ChangeSpec := { name := "termLimits", fn := fun _ => fun
  | [d1, d2] => { results := [.lit (.bool true)], args := [d1, d2] }
  | _ => none }
def termLimitsRow : OpenClaim := { program := "ytgjjngkmbplijaa", sum := "2408f8bf03f5c935d3155183a41b38a95d8760322f135664a803d577d66a6aaf", func := "handfast/handfastlaw05.TermLimits", spec := "termLimits", unfollowed := true, recurses := true, plainKeys := false, apart := false }
def TermLimitsSaid : Prop := termLimitsRow.holds Try.pinned (OpenSpec.ofChange termLimitsSpec)

/-- ITS FALSE NEIGHBOUR: 'it returns false'. Refute it at one input. -/
def termLimitsWrong : ChangeSpec := { name := "termLimits", fn := fun _ => fun
  | [d1, d2] => { results := [.lit (.bool false)], args := [d1, d2] }
  | _ => none }
def TermLimitsWrongFalsely : Prop := termLimitsRow.holds Try.pinned (OpenSpec.ofChange termLimitsWrong)

/-- 'handfastlaw05.TermDeep': WHATEVER THE INPUT: true; the input reads as it did. -/
def termDeepSpec : ChangeSpec := { name := "termDeep", fn := fun _ => fun
  | [d1, d2, d3] => { results := [.lit (.bool true)], args := [d1, d2, d3] }
  | _ => none }
def termDeepRow : OpenClaim := { program := "ytgjjngkmbplijaa", sum := "2408f8bf03f5c935d3155183a41b38a95d8760322f135664a803d577d66a6aaf", func := "handfast/handfastlaw05.TermDeep", spec := "termDeep", unfollowed := true, recurses := true, plainKeys := false, apart := false }
def TermDeepSaid : Prop := termDeepRow.holds Try.pinned (OpenSpec.ofChange termDeepSpec)

/-- ITS FALSE NEIGHBOUR: 'it returns false'. Refute it at one input. -/
def termDeepWrong : ChangeSpec := { name := "termDeep", fn := fun _ => fun
  | [d1, d2, d3] => { results := [.lit (.bool false)], args := [d1, d2, d3] }
  | _ => none }
def TermDeepWrongFalsely : Prop := termDeepRow.holds Try.pinned (OpenSpec.ofChange termDeepWrong)

/-- 'handfastlaw09.ValueSums': WHATEVER THE INPUT: true; the input reads as it did. -/
def valueSumsSpec : ChangeSpec := { name := "valueSums", fn := fun _ => fun
  | [d1, d2, d3, d4] => { results := [.lit (.bool true)], args := [d1, d2, d3, d4] }
  | _ => none }
def valueSumsRow : OpenClaim := { program := "ytgjjngkmbplijaa", sum := "2408f8bf03f5c935d3155183a41b38a95d8760322f135664a803d577d66a6aaf", func := "handfast/handfastlaw09.ValueSums", spec := "valueSums", unfollowed := true, recurses := true, plainKeys := false, apart := false }
def ValueSumsSaid : Prop := valueSumsRow.holds Try.pinned (OpenSpec.ofChange valueSumsSpec)

/-- ITS FALSE NEIGHBOUR: 'it returns false'. Refute it at one input. -/
def valueSumsWrong : ChangeSpec := { name := "valueSums", fn := fun _ => fun
  | [d1, d2, d3, d4] => { results := [.lit (.bool false)], args := [d1, d2, d3, d4] }
  | _ => none }
def ValueSumsWrongFalsely : Prop := valueSumsRow.holds Try.pinned (OpenSpec.ofChange valueSumsWrong)

/-- 'handfastlaw09.ValueTells': WHATEVER THE INPUT: true; the input reads as it did. -/
def valueTellsSpec : ChangeSpec := { name := "valueTells", fn := fun _ => fun
  | [d1, d2, d3, d4, d5, d6, d7, d8] => { results := [.lit (.bool true)], args := [d1, d2, d3, d4, d5, d6, d7, d8] }
  | _ => none }
def valueTellsRow : OpenClaim := { program := "ytgjjngkmbplijaa", sum := "2408f8bf03f5c935d3155183a41b38a95d8760322f135664a803d577d66a6aaf", func := "handfast/handfastlaw09.ValueTells", spec := "valueTells", unfollowed := true, recurses := true, plainKeys := false, apart := false }
def ValueTellsSaid : Prop := valueTellsRow.holds Try.pinned (OpenSpec.ofChange valueTellsSpec)

/-- ITS FALSE NEIGHBOUR: 'it returns false'. Refute it at one input. -/
def valueTellsWrong : ChangeSpec := { name := "valueTells", fn := fun _ => fun
  | [d1, d2, d3, d4, d5, d6, d7, d8] => { results := [.lit (.bool false)], args := [d1, d2, d3, d4, d5, d6, d7, d8] }
  | _ => none }
def ValueTellsWrongFalsely : Prop := valueTellsRow.holds Try.pinned (OpenSpec.ofChange valueTellsWrong)

/-- 'handfastlaw09.ValueNeeds': WHATEVER THE INPUT: true; the input reads as it did. -/
def valueNeedsSpec : ChangeSpec := { name := "valueNeeds", fn := fun _ => fun
  | [d1, d2, d3, d4] => { results := [.lit (.bool true)], args := [d1, d2, d3, d4] }
  | _ => none }
def valueNeedsRow : OpenClaim := { program := "ytgjjngkmbplijaa", sum := "2408f8bf03f5c935d3155183a41b38a95d8760322f135664a803d577d66a6aaf", func := "handfast/handfastlaw09.ValueNeeds", spec := "valueNeeds", unfollowed := true, recurses := true, plainKeys := false, apart := false }
def ValueNeedsSaid : Prop := valueNeedsRow.holds Try.pinned (OpenSpec.ofChange valueNeedsSpec)

/-- ITS FALSE NEIGHBOUR: 'it returns false'. Refute it at one input. -/
def valueNeedsWrong : ChangeSpec := { name := "valueNeeds", fn := fun _ => fun
  | [d1, d2, d3, d4] => { results := [.lit (.bool false)], args := [d1, d2, d3, d4] }
  | _ => none }
def ValueNeedsWrongFalsely : Prop := valueNeedsRow.holds Try.pinned (OpenSpec.ofChange valueNeedsWrong)

/-- 'handfastlaw09.ValueLaws': WHATEVER THE INPUT: true; the input reads as it did. -/
def valueLawsSpec : ChangeSpec := { name := "valueLaws", fn := fun _ => fun
  | [d1, d2, d3, d4] => { results := [.lit (.bool true)], args := [d1, d2, d3, d4] }
  | _ => none }
def valueLawsRow : OpenClaim := { program := "ytgjjngkmbplijaa", sum := "2408f8bf03f5c935d3155183a41b38a95d8760322f135664a803d577d66a6aaf", func := "handfast/handfastlaw09.ValueLaws", spec := "valueLaws", inPlace := ["maps.clone"], unfollowed := true, recurses := true, plainKeys := false, apart := false }
def ValueLawsSaid : Prop := valueLawsRow.holds Try.pinned (OpenSpec.ofChange valueLawsSpec)

/-- ITS FALSE NEIGHBOUR: 'it returns false'. Refute it at one input. -/
def valueLawsWrong : ChangeSpec := { name := "valueLaws", fn := fun _ => fun
  | [d1, d2, d3, d4] => { results := [.lit (.bool false)], args := [d1, d2, d3, d4] }
  | _ => none }
def ValueLawsWrongFalsely : Prop := valueLawsRow.holds Try.pinned (OpenSpec.ofChange valueLawsWrong)

/-- 'handfastlaw05.TermGrows': WHATEVER THE INPUT: true; the input reads as it did. -/
def termGrowsSpec : ChangeSpec := { name := "termGrows", fn := fun _ => fun
  | [d1, d2, d3] => { results := [.lit (.bool true)], args := [d1, d2, d3] }
  | _ => none }
def termGrowsRow : OpenClaim := { program := "ytgjjngkmbplijaa", sum := "2408f8bf03f5c935d3155183a41b38a95d8760322f135664a803d577d66a6aaf", func := "handfast/handfastlaw05.TermGrows", spec := "termGrows", unfollowed := true, recurses := true, plainKeys := false, apart := false }
def TermGrowsSaid : Prop := termGrowsRow.holds Try.pinned (OpenSpec.ofChange termGrowsSpec)

/-- ITS FALSE NEIGHBOUR: 'it returns false'. Refute it at one input. -/
def termGrowsWrong : ChangeSpec := { name := "termGrows", fn := fun _ => fun
  | [d1, d2, d3] => { results := [.lit (.bool false)], args := [d1, d2, d3] }
  | _ => none }
def TermGrowsWrongFalsely : Prop := termGrowsRow.holds Try.pinned (OpenSpec.ofChange termGrowsWrong)

/-- 'handfastlaw05.TermSame': WHATEVER THE INPUT: true; the input reads as it did. -/
def termSameSpec : ChangeSpec := { name := "termSame", fn := fun _ => fun
  | [d1, d2] => { results := [.lit (.bool true)], args := [d1, d2] }
  | _ => none }
def termSameRow : OpenClaim := { program := "ytgjjngkmbplijaa", sum := "2408f8bf03f5c935d3155183a41b38a95d8760322f135664a803d577d66a6aaf", func := "handfast/handfastlaw05.TermSame", spec := "termSame", unfollowed := true, recurses := true, plainKeys := false, apart := false }
def TermSameSaid : Prop := termSameRow.holds Try.pinned (OpenSpec.ofChange termSameSpec)

/-- ITS FALSE NEIGHBOUR: 'it returns false'. Refute it at one input. -/
def termSameWrong : ChangeSpec := { name := "termSame", fn := fun _ => fun
  | [d1, d2] => { results := [.lit (.bool false)], args := [d1, d2] }
  | _ => none }
def TermSameWrongFalsely : Prop := termSameRow.holds Try.pinned (OpenSpec.ofChange termSameWrong)

/-- 'handfastlaw05.TermParts': WHATEVER THE INPUT: true; the input reads as it did. -/
def termPartsSpec : ChangeSpec := { name := "termParts", fn := fun _ => fun
  | [d] => { results := [.lit (.bool true)], args := [d] }
  | _ => none }
def termPartsRow : OpenClaim := { program := "ytgjjngkmbplijaa", sum := "2408f8bf03f5c935d3155183a41b38a95d8760322f135664a803d577d66a6aaf", func := "handfast/handfastlaw05.TermParts", spec := "termParts", unfollowed := true, recurses := true, plainKeys := false, apart := false }
def TermPartsSaid : Prop := termPartsRow.holds Try.pinned (OpenSpec.ofChange termPartsSpec)

/-- ITS FALSE NEIGHBOUR: 'it returns false'. Refute it at one input. -/
def termPartsWrong : ChangeSpec := { name := "termParts", fn := fun _ => fun
  | [d] => { results := [.lit (.bool false)], args := [d] }
  | _ => none }
def TermPartsWrongFalsely : Prop := termPartsRow.holds Try.pinned (OpenSpec.ofChange termPartsWrong)

/-- 'handfastlaw05.TermTells': WHATEVER THE INPUT: true; the input reads as it did. -/
def termTellsSpec : ChangeSpec := { name := "termTells", fn := fun _ => fun
  | [d1, d2, d3, d4, d5, d6, d7, d8] => { results := [.lit (.bool true)], args := [d1, d2, d3, d4, d5, d6, d7, d8] }
  | _ => none }
def termTellsRow : OpenClaim := { program := "ytgjjngkmbplijaa", sum := "2408f8bf03f5c935d3155183a41b38a95d8760322f135664a803d577d66a6aaf", func := "handfast/handfastlaw05.TermTells", spec := "termTells", unfollowed := true, recurses := true, plainKeys := false, apart := false }
def TermTellsSaid : Prop := termTellsRow.holds Try.pinned (OpenSpec.ofChange termTellsSpec)

/-- ITS FALSE NEIGHBOUR: 'it returns false'. Refute it at one input. -/
def termTellsWrong : ChangeSpec := { name := "termTells", fn := fun _ => fun
  | [d1, d2, d3, d4, d5, d6, d7, d8] => { results := [.lit (.bool false)], args := [d1, d2, d3, d4, d5, d6, d7, d8] }
  | _ => none }
def TermTellsWrongFalsely : Prop := termTellsRow.holds Try.pinned (OpenSpec.ofChange termTellsWrong)

/-- 'handfastlaw10.CashMany': WHATEVER THE INPUT: true; the input reads as it did. -/
def cashManySpec : ChangeSpec := { name := "cashMany", fn := fun _ => fun
  | [d1, d2, d3] => { results := [.lit (.bool true)], args := [d1, d2, d3] }
  | _ => none }
def cashManyRow : OpenClaim := { program := "ytgjjngkmbplijaa", sum := "2408f8bf03f5c935d3155183a41b38a95d8760322f135664a803d577d66a6aaf", func := "handfast/handfastlaw10.CashMany", spec := "cashMany", unfollowed := true, recurses := true, plainKeys := false, apart := false }
def CashManySaid : Prop := cashManyRow.holds Try.pinned (OpenSpec.ofChange cashManySpec)

/-- ITS FALSE NEIGHBOUR: 'it returns false'. Refute it at one input. -/
def cashManyWrong : ChangeSpec := { name := "cashMany", fn := fun _ => fun
  | [d1, d2, d3] => { results := [.lit (.bool false)], args := [d1, d2, d3] }
  | _ => none }
def CashManyWrongFalsely : Prop := cashManyRow.holds Try.pinned (OpenSpec.ofChange cashManyWrong)

/-- 'handfastlaw10.CashOver': WHATEVER THE INPUT: true; the input reads as it did. -/
def cashOverSpec : ChangeSpec := { name := "cashOver", fn := fun _ => fun
  | [d1, d2, d3] => { results := [.lit (.bool true)], args := [d1, d2, d3] }
  | _ => none }
def cashOverRow : OpenClaim := { program := "ytgjjngkmbplijaa", sum := "2408f8bf03f5c935d3155183a41b38a95d8760322f135664a803d577d66a6aaf", func := "handfast/handfastlaw10.CashOver", spec := "cashOver", unfollowed := true, recurses := true, plainKeys := false, apart := false }
def CashOverSaid : Prop := cashOverRow.holds Try.pinned (OpenSpec.ofChange cashOverSpec)

/-- ITS FALSE NEIGHBOUR: 'it returns false'. Refute it at one input. -/
def cashOverWrong : ChangeSpec := { name := "cashOver", fn := fun _ => fun
  | [d1, d2, d3] => { results := [.lit (.bool false)], args := [d1, d2, d3] }
  | _ => none }
def CashOverWrongFalsely : Prop := cashOverRow.holds Try.pinned (OpenSpec.ofChange cashOverWrong)

/-- 'handfastlaw10.CashChoices': WHATEVER THE INPUT: true; the input reads as it did. -/
def cashChoicesSpec : ChangeSpec := { name := "cashChoices", fn := fun _ => fun
  | [d1, d2, d3, d4, d5] => { results := [.lit (.bool true)], args := [d1, d2, d3, d4, d5] }
  | _ => none }
def cashChoicesRow : OpenClaim := { program := "ytgjjngkmbplijaa", sum := "2408f8bf03f5c935d3155183a41b38a95d8760322f135664a803d577d66a6aaf", func := "handfast/handfastlaw10.CashChoices", spec := "cashChoices", unfollowed := true, recurses := true, plainKeys := false, apart := false }
def CashChoicesSaid : Prop := cashChoicesRow.holds Try.pinned (OpenSpec.ofChange cashChoicesSpec)

/-- ITS FALSE NEIGHBOUR: 'it returns false'. Refute it at one input. -/
def cashChoicesWrong : ChangeSpec := { name := "cashChoices", fn := fun _ => fun
  | [d1, d2, d3, d4, d5] => { results := [.lit (.bool false)], args := [d1, d2, d3, d4, d5] }
  | _ => none }
def CashChoicesWrongFalsely : Prop := cashChoicesRow.holds Try.pinned (OpenSpec.ofChange cashChoicesWrong)

/-- 'handfastlaw10.CashNested': WHATEVER THE INPUT: true; the input reads as it did. -/
def cashNestedSpec : ChangeSpec := { name := "cashNested", fn := fun _ => fun
  | [d1, d2, d3] => { results := [.lit (.bool true)], args := [d1, d2, d3] }
  | _ => none }
def cashNestedRow : OpenClaim := { program := "ytgjjngkmbplijaa", sum := "2408f8bf03f5c935d3155183a41b38a95d8760322f135664a803d577d66a6aaf", func := "handfast/handfastlaw10.CashNested", spec := "cashNested", unfollowed := true, recurses := true, plainKeys := false, apart := false }
def CashNestedSaid : Prop := cashNestedRow.holds Try.pinned (OpenSpec.ofChange cashNestedSpec)

/-- ITS FALSE NEIGHBOUR: 'it returns false'. Refute it at one input. -/
def cashNestedWrong : ChangeSpec := { name := "cashNested", fn := fun _ => fun
  | [d1, d2, d3] => { results := [.lit (.bool false)], args := [d1, d2, d3] }
  | _ => none }
def CashNestedWrongFalsely : Prop := cashNestedRow.holds Try.pinned (OpenSpec.ofChange cashNestedWrong)

/-- 'handfastlaw10.CashTests': WHATEVER THE INPUT: true; the input reads as it did. -/
def cashTestsSpec : ChangeSpec := { name := "cashTests", fn := fun _ => fun
  | [d1, d2, d3] => { results := [.lit (.bool true)], args := [d1, d2, d3] }
  | _ => none }
def cashTestsRow : OpenClaim := { program := "ytgjjngkmbplijaa", sum := "2408f8bf03f5c935d3155183a41b38a95d8760322f135664a803d577d66a6aaf", func := "handfast/handfastlaw10.CashTests", spec := "cashTests", unfollowed := true, recurses := true, plainKeys := false, apart := false }
def CashTestsSaid : Prop := cashTestsRow.holds Try.pinned (OpenSpec.ofChange cashTestsSpec)

/-- ITS FALSE NEIGHBOUR: 'it returns false'. Refute it at one input. -/
def cashTestsWrong : ChangeSpec := { name := "cashTests", fn := fun _ => fun
  | [d1, d2, d3] => { results := [.lit (.bool false)], args := [d1, d2, d3] }
  | _ => none }
def CashTestsWrongFalsely : Prop := cashTestsRow.holds Try.pinned (OpenSpec.ofChange cashTestsWrong)

/-- 'handfastlaw10.CashTells': WHATEVER THE INPUT: true; the input reads as it did. -/
def cashTellsSpec : ChangeSpec := { name := "cashTells", fn := fun _ => fun
  | [d1, d2, d3, d4, d5, d6, d7, d8, d9] => { results := [.lit (.bool true)], args := [d1, d2, d3, d4, d5, d6, d7, d8, d9] }
  | _ => none }
def cashTellsRow : OpenClaim := { program := "ytgjjngkmbplijaa", sum := "2408f8bf03f5c935d3155183a41b38a95d8760322f135664a803d577d66a6aaf", func := "handfast/handfastlaw10.CashTells", spec := "cashTells", unfollowed := true, recurses := true, plainKeys := false, apart := false }
def CashTellsSaid : Prop := cashTellsRow.holds Try.pinned (OpenSpec.ofChange cashTellsSpec)

/-- ITS FALSE NEIGHBOUR: 'it returns false'. Refute it at one input. -/
def cashTellsWrong : ChangeSpec := { name := "cashTells", fn := fun _ => fun
  | [d1, d2, d3, d4, d5, d6, d7, d8, d9] => { results := [.lit (.bool false)], args := [d1, d2, d3, d4, d5, d6, d7, d8, d9] }
  | _ => none }
def CashTellsWrongFalsely : Prop := cashTellsRow.holds Try.pinned (OpenSpec.ofChange cashTellsWrong)

/-- 'handfastlaw10.CashLaws': WHATEVER THE INPUT: true; the input reads as it did. -/
def cashLawsSpec : ChangeSpec := { name := "cashLaws", fn := fun _ => fun
  | [d1, d2, d3, d4, d5, d6] => { results := [.lit (.bool true)], args := [d1, d2, d3, d4, d5, d6] }
  | _ => none }
def cashLawsRow : OpenClaim := { program := "ytgjjngkmbplijaa", sum := "2408f8bf03f5c935d3155183a41b38a95d8760322f135664a803d577d66a6aaf", func := "handfast/handfastlaw10.CashLaws", spec := "cashLaws", unfollowed := true, recurses := true, plainKeys := false, apart := false }
def CashLawsSaid : Prop := cashLawsRow.holds Try.pinned (OpenSpec.ofChange cashLawsSpec)

/-- ITS FALSE NEIGHBOUR: 'it returns false'. Refute it at one input. -/
def cashLawsWrong : ChangeSpec := { name := "cashLaws", fn := fun _ => fun
  | [d1, d2, d3, d4, d5, d6] => { results := [.lit (.bool false)], args := [d1, d2, d3, d4, d5, d6] }
  | _ => none }
def CashLawsWrongFalsely : Prop := cashLawsRow.holds Try.pinned (OpenSpec.ofChange cashLawsWrong)

/-- 'handfastlaw10.CashScales': WHATEVER THE INPUT: true; the input reads as it did. -/
def cashScalesSpec : ChangeSpec := { name := "cashScales", fn := fun _ => fun
  | [d1, d2, d3, d4, d5] => { results := [.lit (.bool true)], args := [d1, d2, d3, d4, d5] }
  | _ => none }
def cashScalesRow : OpenClaim := { program := "ytgjjngkmbplijaa", sum := "2408f8bf03f5c935d3155183a41b38a95d8760322f135664a803d577d66a6aaf", func := "handfast/handfastlaw10.CashScales", spec := "cashScales", unfollowed := true, recurses := true, plainKeys := false, apart := false }
def CashScalesSaid : Prop := cashScalesRow.holds Try.pinned (OpenSpec.ofChange cashScalesSpec)

/-- ITS FALSE NEIGHBOUR: 'it returns false'. Refute it at one input. -/
def cashScalesWrong : ChangeSpec := { name := "cashScales", fn := fun _ => fun
  | [d1, d2, d3, d4, d5] => { results := [.lit (.bool false)], args := [d1, d2, d3, d4, d5] }
  | _ => none }
def CashScalesWrongFalsely : Prop := cashScalesRow.holds Try.pinned (OpenSpec.ofChange cashScalesWrong)

/-- 'handfastlaw10.CashGrows': WHATEVER THE INPUT: true; the input reads as it did. -/
def cashGrowsSpec : ChangeSpec := { name := "cashGrows", fn := fun _ => fun
  | [d1, d2, d3, d4, d5] => { results := [.lit (.bool true)], args := [d1, d2, d3, d4, d5] }
  | _ => none }
def cashGrowsRow : OpenClaim := { program := "ytgjjngkmbplijaa", sum := "2408f8bf03f5c935d3155183a41b38a95d8760322f135664a803d577d66a6aaf", func := "handfast/handfastlaw10.CashGrows", spec := "cashGrows", inPlace := ["maps.clone"], unfollowed := true, recurses := true, plainKeys := false, apart := false }
def CashGrowsSaid : Prop := cashGrowsRow.holds Try.pinned (OpenSpec.ofChange cashGrowsSpec)

/-- ITS FALSE NEIGHBOUR: 'it returns false'. Refute it at one input. -/
def cashGrowsWrong : ChangeSpec := { name := "cashGrows", fn := fun _ => fun
  | [d1, d2, d3, d4, d5] => { results := [.lit (.bool false)], args := [d1, d2, d3, d4, d5] }
  | _ => none }
def CashGrowsWrongFalsely : Prop := cashGrowsRow.holds Try.pinned (OpenSpec.ofChange cashGrowsWrong)

/- THE SECOND FORM. 'bulk': how many values and letters a reading holds, each counted each time it is reached (what is shared counts as often as it is met; a slice's spare places count too). A statement '..UptoSaid' is the law's where the arguments, and the package variables that the reading takes, are together of bulk at most 1048576: NARROWER than '..Said'. Prove '..Said' where nothing that the law and all that it calls make is longer than what came in: it says more and counts as full. Else prove '..UptoSaid'. A law counts once. -/
mutual
def uptoBulk {H : Type} : DataW H → Nat
  | .lit (.string bytes) => bytes.length + 1
  | .lit _ => 1
  | .nil => 1
  | .ptr d => uptoBulk d + 1
  | .slice elems spare => uptoBulkAll elems + uptoBulkAll spare + 1
  | .agg parts => uptoBulkAll parts + 1
  | .iface _ d => uptoBulk d + 1
  | .map entries => uptoBulkEntries entries + 1
  | .held _ => 1
def uptoBulkAll {H : Type} : List (DataW H) → Nat
  | [] => 0
  | d :: r => uptoBulk d + uptoBulkAll r
def uptoBulkEntries {H : Type} : List (Lit × DataW H) → Nat
  | [] => 0
  | x :: r => uptoBulkEntry x + uptoBulkEntries r
def uptoBulkEntry {H : Type} : Lit × DataW H → Nat
  | (.string bytes, d) => bytes.length + uptoBulk d + 1
  | (_, d) => uptoBulk d + 1
 end
def uptoSmall : (H : Type) → List (DataW H) → Bool := fun _ ds => decide (uptoBulkAll ds ≤ 1048576)
def OpenSpec.upto (s : _root_.Go.ChangeSpec) : _root_.Go.OpenSpec := { _root_.Go.OpenSpec.ofChange s with cond := some uptoSmall }

/-- 'handfastlaw08.WorldErrors', WHERE WHAT IT READS IS OF BULK AT MOST 1048576: true; the input reads as it did. -/
def worldErrorsUptoRow : OpenClaim := { program := "ytgjjngkmbplijaa", sum := "2408f8bf03f5c935d3155183a41b38a95d8760322f135664a803d577d66a6aaf", func := "handfast/handfastlaw08.WorldErrors", spec := "worldErrors", plainKeys := false, apart := false, narrowed := true }
def WorldErrorsUptoSaid : Prop := worldErrorsUptoRow.holds Try.pinned (OpenSpec.upto worldErrorsSpec)

/-- 'handfastlaw08.WorldOnce', WHERE WHAT IT READS IS OF BULK AT MOST 1048576: true; the input reads as it did. -/
def worldOnceUptoRow : OpenClaim := { program := "ytgjjngkmbplijaa", sum := "2408f8bf03f5c935d3155183a41b38a95d8760322f135664a803d577d66a6aaf", func := "handfast/handfastlaw08.WorldOnce", spec := "worldOnce", plainKeys := false, apart := false, narrowed := true }
def WorldOnceUptoSaid : Prop := worldOnceUptoRow.holds Try.pinned (OpenSpec.upto worldOnceSpec)

/-- 'handfastlaw08.WorldApart', WHERE WHAT IT READS IS OF BULK AT MOST 1048576: true; the input reads as it did. -/
def worldApartUptoRow : OpenClaim := { program := "ytgjjngkmbplijaa", sum := "2408f8bf03f5c935d3155183a41b38a95d8760322f135664a803d577d66a6aaf", func := "handfast/handfastlaw08.WorldApart", spec := "worldApart", inPlace := ["maps.clone"], plainKeys := false, apart := false, narrowed := true }
def WorldApartUptoSaid : Prop := worldApartUptoRow.holds Try.pinned (OpenSpec.upto worldApartSpec)

/-- 'handfastlaw08.WorldPlays', WHERE WHAT IT READS IS OF BULK AT MOST 1048576: true; the input reads as it did. -/
def worldPlaysUptoRow : OpenClaim := { program := "ytgjjngkmbplijaa", sum := "2408f8bf03f5c935d3155183a41b38a95d8760322f135664a803d577d66a6aaf", func := "handfast/handfastlaw08.WorldPlays", spec := "worldPlays", inPlace := ["maps.clone"], plainKeys := false, apart := false, narrowed := true }
def WorldPlaysUptoSaid : Prop := worldPlaysUptoRow.holds Try.pinned (OpenSpec.upto worldPlaysSpec)

/-- 'handfastlaw04.ObsLimits', WHERE WHAT IT READS IS OF BULK AT MOST 1048576: true; the input reads as it did. -/
def obsLimitsUptoRow : OpenClaim := { program := "ytgjjngkmbplijaa", sum := "2408f8bf03f5c935d3155183a41b38a95d8760322f135664a803d577d66a6aaf", func := "handfast/handfastlaw04.ObsLimits", spec := "obsLimits", unfollowed := true, recurses := true, plainKeys := false, apart := false, narrowed := true }
def ObsLimitsUptoSaid : Prop := obsLimitsUptoRow.holds Try.pinned (OpenSpec.upto obsLimitsSpec)

/-- 'handfastlaw04.ObsNames', WHERE WHAT IT READS IS OF BULK AT MOST 1048576: true; the input reads as it did. -/
def obsNamesUptoRow : OpenClaim := { program := "ytgjjngkmbplijaa", sum := "2408f8bf03f5c935d3155183a41b38a95d8760322f135664a803d577d66a6aaf", func := "handfast/handfastlaw04.ObsNames", spec := "obsNames", unfollowed := true, recurses := true, plainKeys := false, apart := false, narrowed := true }
def ObsNamesUptoSaid : Prop := obsNamesUptoRow.holds Try.pinned (OpenSpec.upto obsNamesSpec)

/-- 'handfastlaw04.ObsSame', WHERE WHAT IT READS IS OF BULK AT MOST 1048576: true; the input reads as it did. -/
def obsSameUptoRow : OpenClaim := { program := "ytgjjngkmbplijaa", sum := "2408f8bf03f5c935d3155183a41b38a95d8760322f135664a803d577d66a6aaf", func := "handfast/handfastlaw04.ObsSame", spec := "obsSame", unfollowed := true, recurses := true, plainKeys := false, apart := false, narrowed := true }
def ObsSameUptoSaid : Prop := obsSameUptoRow.holds Try.pinned (OpenSpec.upto obsSameSpec)

/-- 'handfastlaw04.ObsTells', WHERE WHAT IT READS IS OF BULK AT MOST 1048576: true; the input reads as it did. -/
def obsTellsUptoRow : OpenClaim := { program := "ytgjjngkmbplijaa", sum := "2408f8bf03f5c935d3155183a41b38a95d8760322f135664a803d577d66a6aaf", func := "handfast/handfastlaw04.ObsTells", spec := "obsTells", unfollowed := true, recurses := true, plainKeys := false, apart := false, narrowed := true }
def ObsTellsUptoSaid : Prop := obsTellsUptoRow.holds Try.pinned (OpenSpec.upto obsTellsSpec)

/-- 'handfastlaw04.ObsParts', WHERE WHAT IT READS IS OF BULK AT MOST 1048576: true; the input reads as it did. -/
def obsPartsUptoRow : OpenClaim := { program := "ytgjjngkmbplijaa", sum := "2408f8bf03f5c935d3155183a41b38a95d8760322f135664a803d577d66a6aaf", func := "handfast/handfastlaw04.ObsParts", spec := "obsParts", unfollowed := true, recurses := true, plainKeys := false, apart := false, narrowed := true }
def ObsPartsUptoSaid : Prop := obsPartsUptoRow.holds Try.pinned (OpenSpec.upto obsPartsSpec)

/-- 'handfastlaw04.ObsOdd', WHERE WHAT IT READS IS OF BULK AT MOST 1048576: true; the input reads as it did. -/
def obsOddUptoRow : OpenClaim := { program := "ytgjjngkmbplijaa", sum := "2408f8bf03f5c935d3155183a41b38a95d8760322f135664a803d577d66a6aaf", func := "handfast/handfastlaw04.ObsOdd", spec := "obsOdd", unfollowed := true, recurses := true, plainKeys := false, apart := false, narrowed := true }
def ObsOddUptoSaid : Prop := obsOddUptoRow.holds Try.pinned (OpenSpec.upto obsOddSpec)

/-- 'handfastlaw09.ValueOver', WHERE WHAT IT READS IS OF BULK AT MOST 1048576: true; the input reads as it did. -/
def valueOverUptoRow : OpenClaim := { program := "ytgjjngkmbplijaa", sum := "2408f8bf03f5c935d3155183a41b38a95d8760322f135664a803d577d66a6aaf", func := "handfast/handfastlaw09.ValueOver", spec := "valueOver", unfollowed := true, recurses := true, plainKeys := false, apart := false, narrowed := true }
def ValueOverUptoSaid : Prop := valueOverUptoRow.holds Try.pinned (OpenSpec.upto valueOverSpec)

/-- 'handfastlaw05.TermLimits', WHERE WHAT IT READS IS OF BULK AT MOST 1048576: true; the input reads as it did. -/
def termLimitsUptoRow : OpenClaim := { program := "ytgjjngkmbplijaa", sum := "2408f8bf03f5c935d3155183a41b38a95d8760322f135664a803d577d66a6aaf", func := "handfast/handfastlaw05.TermLimits", spec := "termLimits", unfollowed := true, recurses := true, plainKeys := false, apart := false, narrowed := true }
def TermLimitsUptoSaid : Prop := termLimitsUptoRow.holds Try.pinned (OpenSpec.upto termLimitsSpec)

/-- 'handfastlaw05.TermDeep', WHERE WHAT IT READS IS OF BULK AT MOST 1048576: true; the input reads as it did. -/
def termDeepUptoRow : OpenClaim := { program := "ytgjjngkmbplijaa", sum := "2408f8bf03f5c935d3155183a41b38a95d8760322f135664a803d577d66a6aaf", func := "handfast/handfastlaw05.TermDeep", spec := "termDeep", unfollowed := true, recurses := true, plainKeys := false, apart := false, narrowed := true }
def TermDeepUptoSaid : Prop := termDeepUptoRow.holds Try.pinned (OpenSpec.upto termDeepSpec)

/-- 'handfastlaw09.ValueSums', WHERE WHAT IT READS IS OF BULK AT MOST 1048576: true; the input reads as it did. -/
def valueSumsUptoRow : OpenClaim := { program := "ytgjjngkmbplijaa", sum := "2408f8bf03f5c935d3155183a41b38a95d8760322f135664a803d577d66a6aaf", func := "handfast/handfastlaw09.ValueSums", spec := "valueSums", unfollowed := true, recurses := true, plainKeys := false, apart := false, narrowed := true }
def ValueSumsUptoSaid : Prop := valueSumsUptoRow.holds Try.pinned (OpenSpec.upto valueSumsSpec)

/-- 'handfastlaw09.ValueTells', WHERE WHAT IT READS IS OF BULK AT MOST 1048576: true; the input reads as it did. -/
def valueTellsUptoRow : OpenClaim := { program := "ytgjjngkmbplijaa", sum := "2408f8bf03f5c935d3155183a41b38a95d8760322f135664a803d577d66a6aaf", func := "handfast/handfastlaw09.ValueTells", spec := "valueTells", unfollowed := true, recurses := true, plainKeys := false, apart := false, narrowed := true }
def ValueTellsUptoSaid : Prop := valueTellsUptoRow.holds Try.pinned (OpenSpec.upto valueTellsSpec)

/-- 'handfastlaw09.ValueNeeds', WHERE WHAT IT READS IS OF BULK AT MOST 1048576: true; the input reads as it did. -/
def valueNeedsUptoRow : OpenClaim := { program := "ytgjjngkmbplijaa", sum := "2408f8bf03f5c935d3155183a41b38a95d8760322f135664a803d577d66a6aaf", func := "handfast/handfastlaw09.ValueNeeds", spec := "valueNeeds", unfollowed := true, recurses := true, plainKeys := false, apart := false, narrowed := true }
def ValueNeedsUptoSaid : Prop := valueNeedsUptoRow.holds Try.pinned (OpenSpec.upto valueNeedsSpec)

/-- 'handfastlaw09.ValueLaws', WHERE WHAT IT READS IS OF BULK AT MOST 1048576: true; the input reads as it did. -/
def valueLawsUptoRow : OpenClaim := { program := "ytgjjngkmbplijaa", sum := "2408f8bf03f5c935d3155183a41b38a95d8760322f135664a803d577d66a6aaf", func := "handfast/handfastlaw09.ValueLaws", spec := "valueLaws", inPlace := ["maps.clone"], unfollowed := true, recurses := true, plainKeys := false, apart := false, narrowed := true }
def ValueLawsUptoSaid : Prop := valueLawsUptoRow.holds Try.pinned (OpenSpec.upto valueLawsSpec)

/-- 'handfastlaw05.TermGrows', WHERE WHAT IT READS IS OF BULK AT MOST 1048576: true; the input reads as it did. -/
def termGrowsUptoRow : OpenClaim := { program := "ytgjjngkmbplijaa", sum := "2408f8bf03f5c935d3155183a41b38a95d8760322f135664a803d577d66a6aaf", func := "handfast/handfastlaw05.TermGrows", spec := "termGrows", unfollowed := true, recurses := true, plainKeys := false, apart := false, narrowed := true }
def TermGrowsUptoSaid : Prop := termGrowsUptoRow.holds Try.pinned (OpenSpec.upto termGrowsSpec)

/-- 'handfastlaw05.TermSame', WHERE WHAT IT READS IS OF BULK AT MOST 1048576: true; the input reads as it did. -/
def termSameUptoRow : OpenClaim := { program := "ytgjjngkmbplijaa", sum := "2408f8bf03f5c935d3155183a41b38a95d8760322f135664a803d577d66a6aaf", func := "handfast/handfastlaw05.TermSame", spec := "termSame", unfollowed := true, recurses := true, plainKeys := false, apart := false, narrowed := true }
def TermSameUptoSaid : Prop := termSameUptoRow.holds Try.pinned (OpenSpec.upto termSameSpec)

/-- 'handfastlaw05.TermParts', WHERE WHAT IT READS IS OF BULK AT MOST 1048576: true; the input reads as it did. -/
def termPartsUptoRow : OpenClaim := { program := "ytgjjngkmbplijaa", sum := "2408f8bf03f5c935d3155183a41b38a95d8760322f135664a803d577d66a6aaf", func := "handfast/handfastlaw05.TermParts", spec := "termParts", unfollowed := true, recurses := true, plainKeys := false, apart := false, narrowed := true }
def TermPartsUptoSaid : Prop := termPartsUptoRow.holds Try.pinned (OpenSpec.upto termPartsSpec)

/-- 'handfastlaw05.TermTells', WHERE WHAT IT READS IS OF BULK AT MOST 1048576: true; the input reads as it did. -/
def termTellsUptoRow : OpenClaim := { program := "ytgjjngkmbplijaa", sum := "2408f8bf03f5c935d3155183a41b38a95d8760322f135664a803d577d66a6aaf", func := "handfast/handfastlaw05.TermTells", spec := "termTells", unfollowed := true, recurses := true, plainKeys := false, apart := false, narrowed := true }
def TermTellsUptoSaid : Prop := termTellsUptoRow.holds Try.pinned (OpenSpec.upto termTellsSpec)

/-- 'handfastlaw10.CashMany', WHERE WHAT IT READS IS OF BULK AT MOST 1048576: true; the input reads as it did. -/
def cashManyUptoRow : OpenClaim := { program := "ytgjjngkmbplijaa", sum := "2408f8bf03f5c935d3155183a41b38a95d8760322f135664a803d577d66a6aaf", func := "handfast/handfastlaw10.CashMany", spec := "cashMany", unfollowed := true, recurses := true, plainKeys := false, apart := false, narrowed := true }
def CashManyUptoSaid : Prop := cashManyUptoRow.holds Try.pinned (OpenSpec.upto cashManySpec)

/-- 'handfastlaw10.CashOver', WHERE WHAT IT READS IS OF BULK AT MOST 1048576: true; the input reads as it did. -/
def cashOverUptoRow : OpenClaim := { program := "ytgjjngkmbplijaa", sum := "2408f8bf03f5c935d3155183a41b38a95d8760322f135664a803d577d66a6aaf", func := "handfast/handfastlaw10.CashOver", spec := "cashOver", unfollowed := true, recurses := true, plainKeys := false, apart := false, narrowed := true }
def CashOverUptoSaid : Prop := cashOverUptoRow.holds Try.pinned (OpenSpec.upto cashOverSpec)

/-- 'handfastlaw10.CashChoices', WHERE WHAT IT READS IS OF BULK AT MOST 1048576: true; the input reads as it did. -/
def cashChoicesUptoRow : OpenClaim := { program := "ytgjjngkmbplijaa", sum := "2408f8bf03f5c935d3155183a41b38a95d8760322f135664a803d577d66a6aaf", func := "handfast/handfastlaw10.CashChoices", spec := "cashChoices", unfollowed := true, recurses := true, plainKeys := false, apart := false, narrowed := true }
def CashChoicesUptoSaid : Prop := cashChoicesUptoRow.holds Try.pinned (OpenSpec.upto cashChoicesSpec)

/-- 'handfastlaw10.CashNested', WHERE WHAT IT READS IS OF BULK AT MOST 1048576: true; the input reads as it did. -/
def cashNestedUptoRow : OpenClaim := { program := "ytgjjngkmbplijaa", sum := "2408f8bf03f5c935d3155183a41b38a95d8760322f135664a803d577d66a6aaf", func := "handfast/handfastlaw10.CashNested", spec := "cashNested", unfollowed := true, recurses := true, plainKeys := false, apart := false, narrowed := true }
def CashNestedUptoSaid : Prop := cashNestedUptoRow.holds Try.pinned (OpenSpec.upto cashNestedSpec)

/-- 'handfastlaw10.CashTests', WHERE WHAT IT READS IS OF BULK AT MOST 1048576: true; the input reads as it did. -/
def cashTestsUptoRow : OpenClaim := { program := "ytgjjngkmbplijaa", sum := "2408f8bf03f5c935d3155183a41b38a95d8760322f135664a803d577d66a6aaf", func := "handfast/handfastlaw10.CashTests", spec := "cashTests", unfollowed := true, recurses := true, plainKeys := false, apart := false, narrowed := true }
def CashTestsUptoSaid : Prop := cashTestsUptoRow.holds Try.pinned (OpenSpec.upto cashTestsSpec)

/-- 'handfastlaw10.CashTells', WHERE WHAT IT READS IS OF BULK AT MOST 1048576: true; the input reads as it did. -/
def cashTellsUptoRow : OpenClaim := { program := "ytgjjngkmbplijaa", sum := "2408f8bf03f5c935d3155183a41b38a95d8760322f135664a803d577d66a6aaf", func := "handfast/handfastlaw10.CashTells", spec := "cashTells", unfollowed := true, recurses := true, plainKeys := false, apart := false, narrowed := true }
def CashTellsUptoSaid : Prop := cashTellsUptoRow.holds Try.pinned (OpenSpec.upto cashTellsSpec)

/-- 'handfastlaw10.CashLaws', WHERE WHAT IT READS IS OF BULK AT MOST 1048576: true; the input reads as it did. -/
def cashLawsUptoRow : OpenClaim := { program := "ytgjjngkmbplijaa", sum := "2408f8bf03f5c935d3155183a41b38a95d8760322f135664a803d577d66a6aaf", func := "handfast/handfastlaw10.CashLaws", spec := "cashLaws", unfollowed := true, recurses := true, plainKeys := false, apart := false, narrowed := true }
def CashLawsUptoSaid : Prop := cashLawsUptoRow.holds Try.pinned (OpenSpec.upto cashLawsSpec)

/-- 'handfastlaw10.CashScales', WHERE WHAT IT READS IS OF BULK AT MOST 1048576: true; the input reads as it did. -/
def cashScalesUptoRow : OpenClaim := { program := "ytgjjngkmbplijaa", sum := "2408f8bf03f5c935d3155183a41b38a95d8760322f135664a803d577d66a6aaf", func := "handfast/handfastlaw10.CashScales", spec := "cashScales", unfollowed := true, recurses := true, plainKeys := false, apart := false, narrowed := true }
def CashScalesUptoSaid : Prop := cashScalesUptoRow.holds Try.pinned (OpenSpec.upto cashScalesSpec)

/-- 'handfastlaw10.CashGrows', WHERE WHAT IT READS IS OF BULK AT MOST 1048576: true; the input reads as it did. -/
def cashGrowsUptoRow : OpenClaim := { program := "ytgjjngkmbplijaa", sum := "2408f8bf03f5c935d3155183a41b38a95d8760322f135664a803d577d66a6aaf", func := "handfast/handfastlaw10.CashGrows", spec := "cashGrows", inPlace := ["maps.clone"], unfollowed := true, recurses := true, plainKeys := false, apart := false, narrowed := true }
def CashGrowsUptoSaid : Prop := cashGrowsUptoRow.holds Try.pinned (OpenSpec.upto cashGrowsSpec)

end Rows
end Go.Proofs.Ytgjjngkmbplijaa
