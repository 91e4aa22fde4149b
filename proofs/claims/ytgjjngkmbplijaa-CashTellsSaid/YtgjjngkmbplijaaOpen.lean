/- The arguments of the laws, opened: a slice of ints. -/
import Derived.Test.YtgjjngkmbplijaaBase
import Derived.ProofKit
import Derived.OpenShut
import Derived.ShutString
import Derived.ChangeOld
import Derived.Below
namespace Go.Proofs.Ytgjjngkmbplijaa
open Go.ChangeShapes Go.WideShapes Go.ChangeAt Go.RowKit
set_option linter.unusedVariables false
section
variable {H : Type} {enc : TypeId × Value → H} {W : World} {base base' : Nat} {r : Reach} {sp : Nat → Bool} {held : Bool} {v : Value} {d : DataW H} {p : List MemPlace}

set_option maxRecDepth 100000 in
theorem open_in_ints (hv : Value.okWide Try.prog W r base' 36 v) (h : DataW.Trod enc Try.prog W base sp held 36 v d p) :
    ∃ a n c l, v = .slice a n c ∧ InInts W a n c l := by
  obtain ⟨a, n, c, rfl⟩ := okWide_slice Try.underlying36 hv
  obtain ⟨fuel, hf⟩ := h
  rcases open_ints Try.underlying36 Try.underlying3 (by kernel_rfl) hf with ⟨hcs, _⟩ | ⟨x, l, c', zs, hcs, _, hl, hm, hz, _, hcell, hwz⟩
  · simp [Value.cells] at hcs
    obtain ⟨rfl, rfl, rfl⟩ := hcs
    exact ⟨none, 0, 0, [], rfl, ⟨by simp [ints], fun j u hj => by simp [ints] at hj⟩, by omega, by unfold maxLen; omega, by simp⟩
  · simp [Value.cells] at hcs
    obtain ⟨rfl, rfl, rfl⟩ := hcs
    have hlen : n ≤ zs.length := by rw [hz]; split <;> omega
    refine ⟨some x, n, c, zs.take n, rfl, ⟨by simp [ints]; omega, fun j u hj => ⟨x, rfl, ?_⟩⟩, hl, hm, fun y hy => hwz y (List.mem_of_mem_take hy)⟩
    simp only [ints, List.getElem?_map] at hj
    cases hx : (zs.take n)[j]? with
    | none => rw [hx] at hj; cases hj
    | some y =>
      rw [hx] at hj
      rw [List.getElem?_take] at hx
      split at hx
      · rw [hcell j (by omega)]
        simp only [List.getD, hx] at *
        simpa using hj
      · cases hx
end
end Go.Proofs.Ytgjjngkmbplijaa
