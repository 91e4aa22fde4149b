/- A row of acts that comes in: opened. -/
import Derived.Test.YtgjjngkmbplijaaOpen
import Derived.Test.YtgjjngkmbplijaaYPlan
import Derived.Deep.Slices

namespace Go.Proofs.Ytgjjngkmbplijaa
open Go.ChangeShapes Go.WideShapes Go.ChangeAt Go.RowKit
set_option linter.unusedVariables false

/-- Something that comes to be known. -/
structure Ac where
  ch : Bool
  a : Int
  b : Int
  day : Int
  v : Int
  w : ByteArray
deriving Inhabited
def Ac.cells (x : Ac) : List Value := [.bool x.ch, .int .i64 x.a, .int .i64 x.b, .int .i64 x.day, .int .i64 x.v, .string x.w]
def Ac.val (x : Ac) : Value := .agg #[.bool x.ch, .int .i64 x.a, .int .i64 x.b, .int .i64 x.day, .int .i64 x.v, .string x.w]
structure Ac.ok (x : Ac) : Prop where
  a : (Lit.int .i64 x.a).wf = true
  b : (Lit.int .i64 x.b).wf = true
  day : (Lit.int .i64 x.day).wf = true
  v : (Lit.int .i64 x.v).wf = true
  w : x.w.size ≤ maxLen
/-- A row of them in memory. -/
structure As where
  a : Option Addr
  n : Nat
  c : Nat
  l : List Ac
def As.val (s : As) : Value := .slice s.a s.n s.c
structure As.In (s : As) (w : World) : Prop where
  len : s.l.length = s.n
  nc : s.n ≤ s.c
  cm : s.c ≤ maxLen
  at' : ∀ (i : Nat) (x : Ac), s.l[i]? = some x → x.ok ∧ ∃ ad, s.a = some ad ∧ ∀ j u, x.cells[j]? = some u → w.cell? (ad.add (i * 6 + j)) = some u
theorem As.In.ext {s : As} {w w' : World} (h : s.In w) (hx : Ext w w') : s.In w' :=
  ⟨h.len, h.nc, h.cm, fun i x e => by
    obtain ⟨h1, ad, h2, h3⟩ := h.at' i x e
    exact ⟨h1, ad, h2, fun j u hu => hx.cell (h3 j u hu)⟩⟩
section
variable {H : Type} {enc : TypeId × Value → H} {W : World} {base base' : Nat} {r : Reach} {sp : Nat → Bool} {held : Bool} {v : Value} {d : DataW H} {p : List MemPlace}

set_option maxRecDepth 100000 in
theorem ac_of {fuel : Nat} {cs : List Value} {x : DataW H × List MemPlace} (h : DataW.trod enc Try.prog W base sp held fuel 47 cs = some x) : ∃ y : Ac, cs = y.cells ∧ y.ok := by
  obtain ⟨xs, n, rfl, hx, hl, hxl, hf⟩ := DataW.trod_struct Try.underlying47 h
  rw [show Try.prog.cellsOf 47 = 6 by kernel_rfl] at hl
  have hxl : xs.length = 6 := hxl
  match cs, hl, xs, hxl with
  | [c0, c1, c2, c3, c4, c5], _, [x0, x1, x2, x3, x4, x5], _ =>
    have cb : Try.prog.cellsOf 4 = 1 := by kernel_rfl
    have ci : Try.prog.cellsOf 3 = 1 := by kernel_rfl
    have ct : Try.prog.cellsOf 9 = 1 := by kernel_rfl
    have f0 : DataW.trod enc Try.prog W base sp held n 4 (([c0, c1, c2, c3, c4, c5].drop 0).take (Try.prog.cellsOf 4)) = some x0 := hf 0 _ rfl
    have f1 : DataW.trod enc Try.prog W base sp held n 3 (([c0, c1, c2, c3, c4, c5].drop 1).take (Try.prog.cellsOf 3)) = some x1 := hf 1 _ rfl
    have f2 : DataW.trod enc Try.prog W base sp held n 3 (([c0, c1, c2, c3, c4, c5].drop 2).take (Try.prog.cellsOf 3)) = some x2 := hf 2 _ rfl
    have f3 : DataW.trod enc Try.prog W base sp held n 3 (([c0, c1, c2, c3, c4, c5].drop 3).take (Try.prog.cellsOf 3)) = some x3 := hf 3 _ rfl
    have f4 : DataW.trod enc Try.prog W base sp held n 3 (([c0, c1, c2, c3, c4, c5].drop 4).take (Try.prog.cellsOf 3)) = some x4 := hf 4 _ rfl
    have f5 : DataW.trod enc Try.prog W base sp held n 9 (([c0, c1, c2, c3, c4, c5].drop 5).take (Try.prog.cellsOf 9)) = some x5 := hf 5 _ rfl
    rw [cb] at f0
    rw [ci] at f1 f2 f3 f4
    rw [ct] at f5
    simp only [List.drop_zero, List.drop_succ_cons, List.take_succ_cons, List.take_zero] at f0 f1 f2 f3 f4 f5
    obtain ⟨b, e0, _⟩ := DataW.trod_bool Try.underlying4 f0
    obtain ⟨z1, e1, _, w1⟩ := DataW.trod_int Try.underlying3 f1
    obtain ⟨z2, e2, _, w2⟩ := DataW.trod_int Try.underlying3 f2
    obtain ⟨z3, e3, _, w3⟩ := DataW.trod_int Try.underlying3 f3
    obtain ⟨z4, e4, _, w4⟩ := DataW.trod_int Try.underlying3 f4
    obtain ⟨s, e5, _, w5⟩ := DataW.trod_string Try.underlying9 f5
    simp only [List.cons.injEq, and_true] at e0 e1 e2 e3 e4 e5
    subst e0 e1 e2 e3 e4 e5
    exact ⟨⟨b, z1, z2, z3, z4, s⟩, rfl, w1, w2, w3, w4, w5⟩

set_option maxRecDepth 100000 in
theorem open_in_acts (hv : Value.okWide Try.prog W r base' 39 v) (h : DataW.Trod enc Try.prog W base sp held 39 v d p) :
    ∃ s : As, v = s.val ∧ s.In W := by
  obtain ⟨a, n, c, rfl⟩ := okWide_slice Try.underlying39 hv
  obtain ⟨fuel, hf⟩ := h
  rcases Go.Deep.open_slice Try.underlying39 hf with ⟨hcs, _⟩ | ⟨ad, len, cap, m, k, D, Pl, hcs, hb, hl, hm, hmm, _, hx⟩
  · simp [Value.cells] at hcs
    obtain ⟨rfl, rfl, rfl⟩ := hcs
    exact ⟨⟨none, 0, 0, []⟩, rfl, rfl, by simp, by simp [maxLen], fun i x hx => by simp at hx⟩
  · simp [Value.cells] at hcs
    obtain ⟨rfl, rfl, rfl⟩ := hcs
    have hlm : n ≤ m := by rw [hmm]; split <;> omega
    have each : ∀ i, i < n → ∃ y : Ac, y.ok ∧ ∀ j u, y.cells[j]? = some u → W.cell? (ad.add (i * 6 + j)) = some u := by
      intro i hi
      obtain ⟨cs', h1, h2⟩ := hx i (by omega)
      obtain ⟨_, hlen, hcell⟩ := World.cells?_some h1
      obtain ⟨y, rfl, hy⟩ := ac_of h2
      refine ⟨y, hy, fun j u hu => ?_⟩
      have hj : j < 6 := (List.getElem?_eq_some_iff.1 hu).1
      rw [show Try.prog.cellsOf 47 = 6 by kernel_rfl] at hcell
      have := hcell j hj
      rw [hu, add_add] at this
      exact this
    obtain ⟨f, hf2⟩ := Go.Deep.choose_lt each
    refine ⟨⟨some ad, n, c, (List.range n).map f⟩, rfl, by simp, hl, hm, fun i x e => ?_⟩
    simp only [List.getElem?_map, Option.map_eq_some_iff] at e
    obtain ⟨i', e1, rfl⟩ := e
    obtain ⟨hi, e1⟩ := List.getElem?_eq_some_iff.1 e1
    simp at e1 hi
    subst e1
    exact ⟨(hf2 i hi).1, ad, rfl, (hf2 i hi).2⟩
end
end Go.Proofs.Ytgjjngkmbplijaa
