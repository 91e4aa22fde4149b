/- Package cash: the words for it: flows, waits, the walk's own memory; what a walk comes to. -/
import Derived.Test.YtgjjngkmbplijaaTerm4
import Derived.Test.YtgjjngkmbplijaaValue3
import Derived.Test.YtgjjngkmbplijaaOffRow
import Derived.Deep.RegionLaw
namespace Go.Proofs.Ytgjjngkmbplijaa
open Go.RowKit
set_option linter.unusedSimpArgs false
set_option linter.unusedVariables false

structure Fl where
  day : Int
  cur : ByteArray
  amt : Int
structure Wa where
  ch : Bool
  name : ByteArray
  label : ByteArray
  day : Int
  side : Int
def Fl.cells (x : Fl) : List Value := [.int .i64 x.day, .string x.cur, .int .i64 x.amt]
def Wa.cells (x : Wa) : List Value := [.bool x.ch, .string x.name, .string x.label, .int .i64 x.day, .int .i64 x.side]
def flCells (l : List Fl) : List Value := l.flatMap Fl.cells
def waCells (l : List Wa) : List Value := l.flatMap Wa.cells
theorem flCells_app (l r : List Fl) : flCells (l ++ r) = flCells l ++ flCells r := by simp [flCells]
theorem waCells_app (l r : List Wa) : waCells (l ++ r) = waCells l ++ waCells r := by simp [waCells]
def Wa.same (x y : Wa) : Bool := x.ch == y.ch && (x.name == y.name && (x.label == y.label && (x.day == y.day && x.side == y.side)))
def addW (L : List Wa) (y : Wa) : List Wa := if (L.any fun x => y.same x) = true then L else L ++ [y]
def waitFix (d : Int) (s : ByteArray) : Wa := ⟨false, s, ⟨#[]⟩, d, 0⟩
def waitsFor (L : List Wa) (d : Int) (l : List ByteArray) : List Wa := l.foldl (fun L s => addW L (waitFix d s)) L
abbrev CSt := List Fl × List Wa
/-- What a contract pays and waits for, from a day on, so many times. -/
def Te.walk (F : FixL) (C : ChL) (id : ByteArray) : Te → Int → Int → CSt → Int × CSt
  | .one s, d, k, st => (0, (st.1 ++ [⟨d, s, k⟩], st.2))
  | .give t, d, k, st => t.walk F C id d (-k) st
  | .and l r, d, k, st => let a := l.walk F C id d k st; if a.1 = 0 then r.walk F C id d k a.2 else a
  | .whn e t, d, k, st => t.walk F C id (Max.max d e) k st
  | .or s l r, d, k, st =>
    match C.lookup (id, s) with
    | none => (0, (st.1, st.2 ++ [⟨true, ⟨#[]⟩, s, d, if 0 < k then 0 else 1⟩]))
    | some (p, e) => if p = 0 then l.walk F C id (Max.max d e) k st else r.walk F C id (Max.max d e) k st
  | .scale o t, d, k, st =>
    let v := o.ofV F d
    if v.e ≠ 0 then (v.e, st)
    else if v.is = false then (0, (st.1, waitsFor st.2 d (o.needs F d)))
    else if (mulS k v.n).2 = false then (6, st)
    else if (mulS k v.n).1 = 0 then (0, st)
    else t.walk F C id d (mulS k v.n).1 st
  | .cond o l r, d, k, st =>
    let v := o.ofV F d
    if v.e ≠ 0 then (v.e, st)
    else if v.is = false then (0, (st.1, waitsFor st.2 d (o.needs F d)))
    else if 0 < v.n then l.walk F C id d k st
    else r.walk F C id d k st
  | _, _, _, st => (0, st)

theorem elemFl : Elem Try.prog 142 144 3 32 := elem_of (z := .agg #[.int .i64 0, .string ⟨#[]⟩, .int .i64 0]) (by kernel_rfl) (by kernel_rfl) rfl (by omega)
theorem elemWa : Elem Try.prog 145 152 5 56 := elem_of (z := .agg #[.bool false, .string ⟨#[]⟩, .string ⟨#[]⟩, .int .i64 0, .int .i64 0]) (by kernel_rfl) (by kernel_rfl) rfl (by omega)

/-- The walk's own memory at block b: the world at p, the flows and the waits so far in rows of its own. -/
structure Wk (base : Nat) (w : World) (b p f c : Nat) (F : FixL) (C : ChL) (id : ByteArray) (v1 v2 : Value) (st : CSt) : Prop where
  blk : w.heap[b]? = some (.cells #[.string id, .pointer (some ⟨p, 0, none⟩), v1, v2] 221 (0, 0))
  fl : w.ownsRow base 144 3 v1 st.1.length (flCells st.1)
  wa : w.ownsRow base 152 5 v2 st.2.length (waCells st.2)
  wld : Wld w p f c F C
  pb : p < base ∧ f < base ∧ c < base
  bb : base ≤ b
  n1 : v1.ownBlock ≠ some b
  n2 : v2.ownBlock ≠ some b
  n12 : v1.ownBlock = none ∨ v1.ownBlock ≠ v2.ownBlock
/-- What a step of the walk leaves as it was: all but the walk's block and its two rows; a row is where it was, or in a block made since. -/
structure Moved (w w' : World) (b : Nat) (v1 v2 v1' v2' : Value) : Prop where
  os : w'.os = w.os
  tape : w'.tape = w.tape
  output : w'.output = w.output
  size : w.heap.size ≤ w'.heap.size
  block : ∀ k, k < w.heap.size → k ≠ b → v1.ownBlock ≠ some k → v2.ownBlock ≠ some k → w'.heap[k]? = w.heap[k]?
  r1 : v1'.ownBlock = v1.ownBlock ∨ ∃ g, v1'.ownBlock = some g ∧ w.heap.size ≤ g
  r2 : v2'.ownBlock = v2.ownBlock ∨ ∃ g, v2'.ownBlock = some g ∧ w.heap.size ≤ g
section
variable {base : Nat} {w w' w'' a : World} {b p f c : Nat} {F : FixL} {C : ChL} {id : ByteArray} {v1 v2 v1' v2' v1'' v2'' : Value} {st st' : CSt}
theorem Moved.trans (h : Moved w w' b v1 v2 v1' v2') (k : Moved w' w'' b v1' v2' v1'' v2'') : Moved w w'' b v1 v2 v1'' v2'' := by
  have hs := h.size
  refine ⟨k.os.trans h.os, k.tape.trans h.tape, k.output.trans h.output, Nat.le_trans hs k.size, fun i hi h1 h2 h3 => ?_, ?_, ?_⟩
  · refine (k.block i (Nat.lt_of_lt_of_le hi hs) h1 ?_ ?_).trans (h.block i hi h1 h2 h3)
    · rcases h.r1 with e | ⟨g, e, hg⟩ <;> rw [e]
      · exact h2
      · intro e'; injection e' with e'; omega
    · rcases h.r2 with e | ⟨g, e, hg⟩ <;> rw [e]
      · exact h3
      · intro e'; injection e' with e'; omega
  · rcases k.r1 with e | ⟨g, e, hg⟩
    · rw [e]; exact h.r1
    · exact .inr ⟨g, e, Nat.le_trans hs hg⟩
  · rcases k.r2 with e | ⟨g, e, hg⟩
    · rw [e]; exact h.r2
    · exact .inr ⟨g, e, Nat.le_trans hs hg⟩
theorem Moved.of_ext (h : Ext w w') (b : Nat) (v1 v2 : Value) : Moved w w' b v1 v2 v1 v2 :=
  ⟨h.os, h.tape, h.output, h.size, fun k hk _ _ _ => h.block hk, .inl rfl, .inl rfl⟩
theorem Wk.ext (h : Wk base w b p f c F C id v1 v2 st) (k : Ext w w') : Wk base w' b p f c F C id v1 v2 st :=
  ⟨k.obj h.blk, k.own h.fl, k.own h.wa, h.wld.ext k, h.pb, h.bb, h.n1, h.n2, h.n12⟩
theorem Wk.cells (h : Wk base w b p f c F C id v1 v2 st) : w.cell? ⟨b, 0, none⟩ = some (.string id) ∧ w.cell? ⟨b, 1, none⟩ = some (.pointer (some ⟨p, 0, none⟩)) ∧ w.cell? ⟨b, 2, none⟩ = some v1 ∧ w.cell? ⟨b, 3, none⟩ = some v2 ∧ (∀ o, w.frozen? ⟨b, o, none⟩ = false) ∧ b < w.heap.size := by
  obtain ⟨h1, h2, h3⟩ := obj_cells h.blk
  exact ⟨h1 0 _ rfl, h1 1 _ rfl, h1 2 _ rfl, h1 3 _ rfl, h2, h3⟩
/-- A block that is none of the walk's is as it was. -/
theorem Wk.other (h : Wk base w b p f c F C id v1 v2 st) (m : Moved w w' b v1 v2 v1' v2') {k : Nat} {o : Obj} (hk : w.heap[k]? = some o) (h1 : k ≠ b) (h2 : v1.ownBlock ≠ some k) (h3 : v2.ownBlock ≠ some k) : w'.heap[k]? = some o := by
  rw [m.block k (Array.getElem?_eq_some_iff.1 hk).1 h1 h2 h3]; exact hk
/-- What was there before the walk began is as it was. -/
theorem Moved.ext (m : Moved w w' b v1 v2 v1' v2') (h : Wk base w b p f c F C id v1 v2 st) (ha : Ext a w) (hb : a.heap.size ≤ base) : Ext a w' := by
  have hs := ha.size
  refine ⟨m.os.trans ha.os, m.tape.trans ha.tape, m.output.trans ha.output, Nat.le_trans hs m.size, fun i hi => ?_⟩
  refine (m.block i (by omega) (by have := h.bb; omega) ?_ ?_).trans (ha.block hi)
  · intro e; have := (h.fl.lt i e).1; omega
  · intro e; have := (h.wa.lt i e).1; omega
end

/-- 'append' at a step of a region that draws: the new slice in its form. -/
theorem step_app {P : Program} {w : World} {t e : TypeId} {size bytes : Nat} (E : Elem P t e size bytes) {ops : Array Oper} {o : Oper} {a : Act} {K : Act → World → Prop} {Q : Exit → Act → World → Prop} {Ee : Prop} (hgd : o.guard = none) (s x : Operand)
    (ho : o.op = .call { callee := .builtin .append, args := #[s, x], argTypes := #[t, t] })
    (base : Nat) (v : Value) (n : Nat) (xs : List Value) (hs : a.eval s = v) (hown : w.ownsRow base e size v n xs)
    (A : Option Addr) (m c : Nat) (news : List Value) (hx : a.eval x = .slice A m c) (hr : Rd w size A m news) (h1 : ∀ u ∈ news, u.oneCell' = true)
    (h63 : n + m ≤ maxLen) (hbytes : (n + m) * bytes ≤ 140737488355328) (hbase : base ≤ w.heap.size)
    (h : ∀ A' C' w', w'.ownsRow base e size (.slice A' (n + m) C') (n + m) (xs ++ news) → w.grownBy w' v.ownBlock → ((Value.slice A' (n + m) C').ownBlock = v.ownBlock ∨ (Value.slice A' (n + m) C').ownBlock = some w.heap.size) → K (a.put o.dst (.slice A' (n + m) C')) w') :
    if Region.wanted o (yielded ops a.tmps) = true then Oper.wp P o a w K Q else Ee := by
  have hw : Region.wanted o (yielded ops a.tmps) = true := by simp [Region.wanted, hgd]
  rw [if_pos hw]
  obtain ⟨v', w', hrun, h2, h3, h4⟩ := run_app (P := P) E o.type base v n xs hown A m c news hr h1 h63 hbytes hbase
  obtain ⟨A', C', rfl, _, _⟩ := own_form h2
  unfold Oper.wp execOp
  simp only [ho, resolve, invoke, builtin, Sem.run_bind, Sem.run_pure, Result.andThen_ok, List.map_toArray, List.map_cons, List.map_nil, hs, hx, hrun]
  exact h A' C' w' h2 h3 h4

section
variable {base : Nat} {w w1 : World} {b p f c : Nat} {F : FixL} {C : ChL} {id : ByteArray} {v1 v2 : Value} {st : CSt}
/-- A flow more: appended and stored. -/
theorem Wk.put1 (h : Wk base w b p f c F C id v1 v2 st) {A' : Option Addr} {C' : Nat} (x : Fl) (hown : w1.ownsRow base 144 3 (.slice A' (st.1.length + 1) C') (st.1.length + 1) (flCells st.1 ++ x.cells)) (hg : w.grownBy w1 v1.ownBlock)
    (hat : (Value.slice A' (st.1.length + 1) C').ownBlock = v1.ownBlock ∨ (Value.slice A' (st.1.length + 1) C').ownBlock = some w.heap.size) :
    Wk base (w1.setCell ⟨b, 2, none⟩ (.slice A' (st.1.length + 1) C')) b p f c F C id (.slice A' (st.1.length + 1) C') v2 (st.1 ++ [x], st.2) ∧ Moved w (w1.setCell ⟨b, 2, none⟩ (.slice A' (st.1.length + 1) C')) b v1 v2 (.slice A' (st.1.length + 1) C') v2 := by
  have hbl := (Array.getElem?_eq_some_iff.1 h.blk).1
  have hb1 : w1.heap[b]? = some (.cells #[.string id, .pointer (some ⟨p, 0, none⟩), v1, v2] 221 (0, 0)) := by rw [hg.block b hbl (fun e => h.n1 e.symm)]; exact h.blk
  have hset := setC_grown w1 b 2 (.slice A' (st.1.length + 1) C')
  have hne1 : (Value.slice A' (st.1.length + 1) C').ownBlock ≠ some b := by
    rcases hat with e | e <;> rw [e]
    · exact h.n1
    · intro e'; injection e' with e'; omega
  obtain ⟨q1, q2, q3⟩ := h.wld.lts
  have hbb := h.bb
  have hpb := h.pb
  have hold : ∀ k, k < base → v1.ownBlock ≠ some k := fun k hk e => by have := (h.fl.lt k e).1; omega
  refine ⟨⟨?_, ?_, ?_, ?_, h.pb, h.bb, hne1, h.n2, ?_⟩, ⟨?_, ?_, ?_, ?_, ?_, ?_, .inl rfl⟩⟩
  · rw [setC_block w1 b 2 _ hb1]; rfl
  · have := hown.kept hset (.inr hne1)
    rw [flCells_app, List.length_append]
    simpa [flCells] using this
  · refine (h.wa.kept hg ?_).kept hset (.inr h.n2)
    cases hv : v2.ownBlock with
    | none => exact .inl rfl
    | some k =>
      right
      rcases h.n12 with e | e
      · rw [e]; simp
      · rw [hv] at e; exact fun e' => e e'.symm
  · refine h.wld.keep fun k hk => ?_
    have hkb : k < base := by rcases hk with rfl | rfl | rfl <;> omega
    have hkl : k < w.heap.size := by rcases hk with rfl | rfl | rfl <;> assumption
    rw [hset.block k (Nat.lt_of_lt_of_le hkl hg.size) (by intro e; injection e with e; omega), hg.block k hkl (fun e => hold k hkb e.symm)]
  · rcases hat with e | e <;> rw [e]
    · exact h.n12
    · right
      intro e'
      have := (h.wa.lt _ e'.symm).2
      omega
  · exact hset.os.trans hg.os
  · exact hset.tape.trans hg.tape
  · exact hset.output.trans hg.output
  · exact Nat.le_trans hg.size hset.size
  · intro k hk h1 h2 h3
    rw [hset.block k (Nat.lt_of_lt_of_le hk hg.size) (by intro e; injection e with e; exact h1 e), hg.block k hk (fun e => h2 e.symm)]
  · rcases hat with e | e
    · exact .inl e
    · exact .inr ⟨_, e, Nat.le_refl _⟩
/-- A wait more. -/
theorem Wk.put2 (h : Wk base w b p f c F C id v1 v2 st) {A' : Option Addr} {C' : Nat} (x : Wa) (hown : w1.ownsRow base 152 5 (.slice A' (st.2.length + 1) C') (st.2.length + 1) (waCells st.2 ++ x.cells)) (hg : w.grownBy w1 v2.ownBlock)
    (hat : (Value.slice A' (st.2.length + 1) C').ownBlock = v2.ownBlock ∨ (Value.slice A' (st.2.length + 1) C').ownBlock = some w.heap.size) :
    Wk base (w1.setCell ⟨b, 3, none⟩ (.slice A' (st.2.length + 1) C')) b p f c F C id v1 (.slice A' (st.2.length + 1) C') (st.1, st.2 ++ [x]) ∧ Moved w (w1.setCell ⟨b, 3, none⟩ (.slice A' (st.2.length + 1) C')) b v1 v2 v1 (.slice A' (st.2.length + 1) C') := by
  have hbl := (Array.getElem?_eq_some_iff.1 h.blk).1
  have hb1 : w1.heap[b]? = some (.cells #[.string id, .pointer (some ⟨p, 0, none⟩), v1, v2] 221 (0, 0)) := by rw [hg.block b hbl (fun e => h.n2 e.symm)]; exact h.blk
  have hset := setC_grown w1 b 3 (.slice A' (st.2.length + 1) C')
  have hne1 : (Value.slice A' (st.2.length + 1) C').ownBlock ≠ some b := by
    rcases hat with e | e <;> rw [e]
    · exact h.n2
    · intro e'; injection e' with e'; omega
  obtain ⟨q1, q2, q3⟩ := h.wld.lts
  have hbb := h.bb
  have hpb := h.pb
  have hold : ∀ k, k < base → v2.ownBlock ≠ some k := fun k hk e => by have := (h.wa.lt k e).1; omega
  refine ⟨⟨?_, ?_, ?_, ?_, h.pb, h.bb, h.n1, hne1, ?_⟩, ⟨?_, ?_, ?_, ?_, ?_, .inl rfl, ?_⟩⟩
  · rw [setC_block w1 b 3 _ hb1]; rfl
  · refine (h.fl.kept hg ?_).kept hset (.inr h.n1)
    exact h.n12
  · have := hown.kept hset (.inr hne1)
    rw [waCells_app, List.length_append]
    simpa [waCells] using this
  · refine h.wld.keep fun k hk => ?_
    have hkb : k < base := by rcases hk with rfl | rfl | rfl <;> omega
    have hkl : k < w.heap.size := by rcases hk with rfl | rfl | rfl <;> assumption
    rw [hset.block k (Nat.lt_of_lt_of_le hkl hg.size) (by intro e; injection e with e; omega), hg.block k hkl (fun e => hold k hkb e.symm)]
  · rcases hat with e | e <;> rw [e]
    · exact h.n12
    · cases hv : v1.ownBlock with
      | none => exact .inl rfl
      | some k =>
        right
        intro e'
        injection e' with e'
        have := (h.fl.lt _ hv).2
        omega
  · exact hset.os.trans hg.os
  · exact hset.tape.trans hg.tape
  · exact hset.output.trans hg.output
  · exact Nat.le_trans hg.size hset.size
  · intro k hk h1 h2 h3
    rw [hset.block k (Nat.lt_of_lt_of_le hk hg.size) (by intro e; injection e with e; exact h1 e), hg.block k hk (fun e => h3 e.symm)]
  · rcases hat with e | e
    · exact .inl e
    · exact .inr ⟨_, e, Nat.le_refl _⟩
end

end Go.Proofs.Ytgjjngkmbplijaa
