/- A plan that comes in: opened. -/
import Derived.Test.YtgjjngkmbplijaaZMk
import Derived.Test.YtgjjngkmbplijaaOpen
import Derived.SliceStrings
import Derived.ChangeSame

namespace Go.Proofs.Ytgjjngkmbplijaa
open Go.ChangeShapes Go.WideShapes Go.ChangeAt Go.RowKit
set_option linter.unusedVariables false
section
variable {H : Type} {enc : TypeId × Value → H} {W : World} {base base' : Nat} {r : Reach} {sp : Nat → Bool} {held : Bool} {v : Value} {d : DataW H} {p : List MemPlace}

theorem Rd.blk {w : World} {size n : Nat} {a : Option Addr} {xs : List Value} (h : Rd w size a n xs) (hs : 0 < size) (ad : Addr) (e : a = some ad) (hn : n ≠ 0) : ad.block < w.heap.size := by
  obtain ⟨ad', e', h0⟩ := h.addr (by omega) hs
  rw [e] at e'
  injection e' with e'
  subst e'
  have hl : 0 < xs.length := by rw [h.1]; exact Nat.mul_pos (by omega) hs
  have := World.block_lt_of_cell? w _ (h0 0 xs[0] (List.getElem?_eq_getElem hl))
  rwa [add_block] at this

theorem rd_of_ints {n c : Nat} {cs : List Value} {x : DataW H × List MemPlace} {a : Option Addr} {fuel : Nat} (hf : DataW.trod enc Try.prog W base sp held fuel 36 [.slice a n c] = some x) : ∃ l, InInts W a n c l := by
  rcases open_ints Try.underlying36 Try.underlying3 (by kernel_rfl) hf with ⟨hcs, _⟩ | ⟨y, l, c', zs, hcs, _, hl, hm, hz, _, hcell, hwz⟩
  · simp at hcs
    obtain ⟨rfl, rfl, rfl⟩ := hcs
    exact ⟨[], ⟨by simp [ints], fun j u hj => by simp [ints] at hj⟩, by omega, by unfold maxLen; omega, by simp⟩
  · simp at hcs
    obtain ⟨rfl, rfl, rfl⟩ := hcs
    have hlen : n ≤ zs.length := by rw [hz]; split <;> omega
    refine ⟨zs.take n, ⟨by simp [ints]; omega, fun j u hj => ⟨y, rfl, ?_⟩⟩, hl, hm, fun y hy => hwz y (List.mem_of_mem_take hy)⟩
    simp only [ints, List.getElem?_map] at hj
    cases hx : (zs.take n)[j]? with
    | none => rw [hx] at hj; cases hj
    | some y =>
      rw [hx] at hj
      rw [List.getElem?_take] at hx
      split at hx
      · rw [hcell j (by omega)]
        simp only [List.getD, hx] at *
        simpa using hj
      · cases hx

theorem rd_of_strings {n c : Nat} {x : DataW H × List MemPlace} {a : Option Addr} {fuel : Nat} (hf : DataW.trod enc Try.prog W base sp held fuel 64 [.slice a n c] = some x) :
    ∃ l : List ByteArray, Rd W 1 a n (strVals l) ∧ n ≤ c ∧ c ≤ maxLen ∧ ∀ s ∈ l, s.size ≤ maxLen := by
  rcases open_strings Try.underlying64 Try.underlying9 (by kernel_rfl) hf with ⟨hcs, _⟩ | ⟨y, l, c', zs, hcs, _, hl, hm, hz, _, hcell, hwz⟩
  · simp at hcs
    obtain ⟨rfl, rfl, rfl⟩ := hcs
    exact ⟨[], ⟨by simp [strVals], fun j u hj => by simp [strVals] at hj⟩, by omega, by unfold maxLen; omega, by simp⟩
  · simp at hcs
    obtain ⟨rfl, rfl, rfl⟩ := hcs
    have hlen : n ≤ zs.length := by rw [hz]; split <;> omega
    refine ⟨zs.take n, ⟨by simp [strVals]; omega, fun j u hj => ⟨y, rfl, ?_⟩⟩, hl, hm, fun y hy => hwz y (List.mem_of_mem_take hy)⟩
    simp only [strVals, List.getElem?_map] at hj
    cases hx : (zs.take n)[j]? with
    | none => rw [hx] at hj; cases hj
    | some y =>
      rw [hx] at hj
      rw [List.getElem?_take] at hx
      split at hx
      · rw [hcell j (by omega)]
        simp only [List.getD, hx] at *
        simpa using hj
      · cases hx

set_option maxRecDepth 100000 in
theorem open_in_plan (hv : Value.okWide Try.prog W r base' 72 v) (h : DataW.Trod enc Try.prog W base sp held 72 v d p) :
    ∃ pl : Pl, v = pl.val ∧ pl.In (· < W.heap.size) W := by
  have hrow := hv
  obtain ⟨cs, rfl, hcs⟩ := okWide_struct Try.underlying72 hv
  rw [show Try.prog.cellsOf 72 = 2 by kernel_rfl] at hcs
  obtain ⟨fuel, hf⟩ := h
  obtain ⟨y0, y1, n, -, -, h0, h1⟩ := trod_struct2 Try.underlying72 hf
  obtain ⟨c0, c1, rfl⟩ : ∃ c0 c1, cs = #[c0, c1] := by
    obtain ⟨l⟩ := cs
    match l, hcs with
    | [c0, c1], _ => exact ⟨c0, c1, rfl⟩
  simp only [Value.cells] at h0 h1
  rw [show Try.prog.cellsOf 36 = 1 by kernel_rfl] at h0
  rw [show Try.prog.cellsOf 64 = 1 by kernel_rfl] at h1
  simp only [List.drop_zero, List.drop_succ_cons, List.take_succ_cons, List.take_zero] at h0 h1
  obtain ⟨a, n1, cc, rfl⟩ : ∃ a n c, c0 = .slice a n c := by
    rcases open_ints Try.underlying36 Try.underlying3 (by kernel_rfl) h0 with ⟨hcs, _⟩ | ⟨y, l, c', zs, hcs, _⟩
    · simp at hcs; exact ⟨_, _, _, hcs⟩
    · simp at hcs; exact ⟨_, _, _, hcs⟩
  obtain ⟨a2, n2, cc2, rfl⟩ : ∃ a n c, c1 = .slice a n c := by
    rcases open_strings Try.underlying64 Try.underlying9 (by kernel_rfl) h1 with ⟨hcs, _⟩ | ⟨y, l, c', zs, hcs, _⟩
    · simp at hcs; exact ⟨_, _, _, hcs⟩
    · simp at hcs; exact ⟨_, _, _, hcs⟩
  obtain ⟨l, k1, k2, k3, k4⟩ := rd_of_ints (cs := []) h0
  obtain ⟨ws, m1, m2, m3, m4⟩ := rd_of_strings h1
  exact ⟨⟨a, n1, cc, l, a2, n2, cc2, ws⟩, rfl, k1, k2, k3, k4, m1, m2, m3, m4, fun ad e hn => k1.blk (by omega) ad e hn, fun ad e hn => m1.blk (by omega) ad e hn⟩
end
end Go.Proofs.Ytgjjngkmbplijaa
