/- A set of strings: a map from strings to true that the call itself makes. -/
import Derived.Test.YtgjjngkmbplijaaTree2
import Derived.Test.YtgjjngkmbplijaaMap
import Derived.MapKept
namespace Go.Proofs.Ytgjjngkmbplijaa
open Go.RowKit
set_option linter.unusedSimpArgs false
set_option linter.unusedVariables false

/-- The block holds the strings L, each with true. -/
def SetS (w : World) (b : Nat) (L : List ByteArray) : Prop := ∃ es ck, w.heap[b]? = some (.map es ck) ∧ es.toList.map (fun e => (e.key, e.val)) = L.map (fun s => (Value.string s, Value.bool true))
theorem SetS.ext {w w' : World} {b : Nat} {L : List ByteArray} (h : SetS w b L) (hx : Ext w w') : SetS w' b L := by
  obtain ⟨es, ck, h1, h2⟩ := h
  exact ⟨es, ck, hx.obj h1, h2⟩
theorem SetS.lt {w : World} {b : Nat} {L : List ByteArray} (h : SetS w b L) : b < w.heap.size := by
  obtain ⟨es, ck, h1, _⟩ := h
  exact (Array.getElem?_eq_some_iff.1 h1).1
theorem findNow_str (s : ByteArray) : ∀ (es : List MapEntry) (L : List ByteArray) (i : Nat), es.map (fun e => (e.key, e.val)) = L.map (fun s => (Value.string s, Value.bool true)) →
    (s ∉ L ∧ Instr.findNow .string (.string s) es i = some none) ∨ (s ∈ L ∧ ∃ j e, es[j]? = some e ∧ e.key = .string s ∧ e.val = .bool true ∧ Instr.findNow .string (.string s) es i = some (some (i + j, .bool true))) := by
  intro es
  induction es with
  | nil =>
    intro L i h
    cases L with
    | nil => exact .inl ⟨by simp, rfl⟩
    | cons x r => simp at h
  | cons e r ih =>
    intro L i h
    cases L with
    | nil => simp at h
    | cons x t =>
      simp only [List.map_cons, List.cons.injEq, Prod.mk.injEq] at h
      obtain ⟨⟨hk, hv⟩, hr⟩ := h
      by_cases hs : s = x
      · subst hs
        exact .inr ⟨List.mem_cons_self .., 0, e, rfl, hk, hv, by simp [Instr.findNow, Instr.sameNow, hk, hv]⟩
      · have hb : (s == x) = false := by simpa using hs
        rcases ih t (i + 1) hr with ⟨h1, h2⟩ | ⟨h1, j, e', h2, h3, h4, h5⟩
        · exact .inl ⟨by simp [hs, h1], by simp [Instr.findNow, Instr.sameNow, hk, hb, h2]⟩
        · exact .inr ⟨List.mem_cons_of_mem _ h1, j + 1, e', by simpa using h2, h3, h4, by simp [Instr.findNow, Instr.sameNow, hk, hb, h5]; omega⟩
theorem run_setS {P : Program} {T K E : TypeId} (hm : P.underlying T = some (.map K E)) (hk : P.underlying K = some .string) {w : World} {b : Nat} {L : List ByteArray} (h : SetS w b L) (s : ByteArray) :
    ∃ w', (Instr.mapUpdate T (.map (some b)) (.string s) (.bool true)).run P w = .ok () w' ∧ SetS w' b (addNew L s) ∧ w.grownBy w' (some b) := by
  obtain ⟨es, ck, hb, he⟩ := h
  have hc : (Instr.checkKey false 10000 K (.string s)).run P w = .ok () w := MapKept.run_checkKey (k := .string s) hk (by simp [MapKept.IsKey]) false 9999
  rcases findNow_str s es.toList L 0 he with ⟨h1, h2⟩ | ⟨h1, j, e, h2, h3, h4, h5⟩
  · refine ⟨putObj w b (.map (es.push { key := .string s, val := .bool true, born := ck }) (ck + 1)), ?_, ⟨_, _, putObj_same hb, ?_⟩, putObj_grown _ _ _⟩
    · simp [Instr.mapUpdate, run_underlying hm, MapKept.run_getObj_map hb, hc, MapKept.run_findKey hk h2, MapKept.run_setObj_map _ hb, Result.andThen, putObj]
    · rw [addNew_not h1]
      simp [he]
  · have hj : es[j]? = some e := by simpa using h2
    refine ⟨putObj w b (.map (es.modify j fun e => { e with key := .string s, val := .bool true }) ck), ?_, ⟨_, _, putObj_same hb, ?_⟩, putObj_grown _ _ _⟩
    · have hs : Instr.sameBits 10000 (.string s) (.string s) = true := by simp [Instr.sameBits]
      simp only [Nat.zero_add] at h5
      simp [Instr.mapUpdate, run_underlying hm, MapKept.run_getObj_map hb, hc, MapKept.run_findKey hk h5, MapKept.run_setObj_map _ hb, Result.andThen, putObj, hj, h3, Instr.keyThatStays, hs]
    · rw [addNew_mem h1, ← he]
      apply List.ext_getElem?
      intro i
      simp only [List.getElem?_map, Array.getElem?_toList, Array.getElem?_modify]
      split
      · rename_i hij
        subst hij
        rw [hj]
        simp [h3, h4]
      · rfl
theorem run_len_setS {P : Program} {T K E : TypeId} (hm : P.underlying T = some (.map K E)) {w : World} {b : Nat} {L : List ByteArray} (h : SetS w b L) (ty : TypeId) : (Builtin.len_ #[T] ty #[.map (some b)]).run P w = .ok (.int .i64 L.length) w := by
  obtain ⟨es, ck, hb, he⟩ := h
  exact run_len_map hm hb ty _ (by have := congrArg List.length he; simpa using this)

end Go.Proofs.Ytgjjngkmbplijaa
