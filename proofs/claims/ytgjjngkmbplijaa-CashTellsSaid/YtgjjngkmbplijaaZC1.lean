/- Texts put together: Cash1, Cash2, Cash3. -/
import Derived.Test.YtgjjngkmbplijaaZTe
import Derived.Test.YtgjjngkmbplijaaZVa
import Derived.Test.YtgjjngkmbplijaaYOffRow
import Derived.Deep.RegionLaw
/- Package cash: the words for it: flows, waits, the walk's own memory; what a walk comes to. -/
namespace Go.Proofs.Ytgjjngkmbplijaa
open Go.RowKit
set_option linter.unusedSimpArgs false
set_option linter.unusedVariables false

structure Fl where
  day : Int
  cur : ByteArray
  amt : Int
structure Wa where
  ch : Bool
  name : ByteArray
  label : ByteArray
  day : Int
  side : Int
def Fl.cells (x : Fl) : List Value := [.int .i64 x.day, .string x.cur, .int .i64 x.amt]
def Wa.cells (x : Wa) : List Value := [.bool x.ch, .string x.name, .string x.label, .int .i64 x.day, .int .i64 x.side]
def flCells (l : List Fl) : List Value := l.flatMap Fl.cells
def waCells (l : List Wa) : List Value := l.flatMap Wa.cells
theorem flCells_app (l r : List Fl) : flCells (l ++ r) = flCells l ++ flCells r := by simp [flCells]
theorem waCells_app (l r : List Wa) : waCells (l ++ r) = waCells l ++ waCells r := by simp [waCells]
def Wa.same (x y : Wa) : Bool := x.ch == y.ch && (x.name == y.name && (x.label == y.label && (x.day == y.day && x.side == y.side)))
def addW (L : List Wa) (y : Wa) : List Wa := if (L.any fun x => y.same x) = true then L else L ++ [y]
def waitFix (d : Int) (s : ByteArray) : Wa := ⟨false, s, ⟨#[]⟩, d, 0⟩
def waitsFor (L : List Wa) (d : Int) (l : List ByteArray) : List Wa := l.foldl (fun L s => addW L (waitFix d s)) L
abbrev CSt := List Fl × List Wa
/-- What a contract pays and waits for, from a day on, so many times. -/
def Te.walk (F : FixL) (C : ChL) (id : ByteArray) : Te → Int → Int → CSt → Int × CSt
  | .one s, d, k, st => (0, (st.1 ++ [⟨d, s, k⟩], st.2))
  | .give t, d, k, st => t.walk F C id d (-k) st
  | .and l r, d, k, st => let a := l.walk F C id d k st; if a.1 = 0 then r.walk F C id d k a.2 else a
  | .whn e t, d, k, st => t.walk F C id (Max.max d e) k st
  | .or s l r, d, k, st =>
    match C.lookup (id, s) with
    | none => (0, (st.1, st.2 ++ [⟨true, ⟨#[]⟩, s, d, if 0 < k then 0 else 1⟩]))
    | some (p, e) => if p = 0 then l.walk F C id (Max.max d e) k st else r.walk F C id (Max.max d e) k st
  | .scale o t, d, k, st =>
    let v := o.ofV F d
    if v.e ≠ 0 then (v.e, st)
    else if v.is = false then (0, (st.1, waitsFor st.2 d (o.needs F d)))
    else if (mulS k v.n).2 = false then (6, st)
    else if (mulS k v.n).1 = 0 then (0, st)
    else t.walk F C id d (mulS k v.n).1 st
  | .cond o l r, d, k, st =>
    let v := o.ofV F d
    if v.e ≠ 0 then (v.e, st)
    else if v.is = false then (0, (st.1, waitsFor st.2 d (o.needs F d)))
    else if 0 < v.n then l.walk F C id d k st
    else r.walk F C id d k st
  | _, _, _, st => (0, st)

theorem elemFl : Elem Try.prog 142 144 3 32 := elem_of (z := .agg #[.int .i64 0, .string ⟨#[]⟩, .int .i64 0]) (by kernel_rfl) (by kernel_rfl) rfl (by omega)
theorem elemWa : Elem Try.prog 145 152 5 56 := elem_of (z := .agg #[.bool false, .string ⟨#[]⟩, .string ⟨#[]⟩, .int .i64 0, .int .i64 0]) (by kernel_rfl) (by kernel_rfl) rfl (by omega)

/-- The walk's own memory at block b: the world at p, the flows and the waits so far in rows of its own. -/
structure Wk (base : Nat) (w : World) (b p f c : Nat) (F : FixL) (C : ChL) (id : ByteArray) (v1 v2 : Value) (st : CSt) : Prop where
  blk : w.heap[b]? = some (.cells #[.string id, .pointer (some ⟨p, 0, none⟩), v1, v2] 221 (0, 0))
  fl : w.ownsRow base 144 3 v1 st.1.length (flCells st.1)
  wa : w.ownsRow base 152 5 v2 st.2.length (waCells st.2)
  wld : Wld w p f c F C
  pb : p < base ∧ f < base ∧ c < base
  bb : base ≤ b
  n1 : v1.ownBlock ≠ some b
  n2 : v2.ownBlock ≠ some b
  n12 : v1.ownBlock = none ∨ v1.ownBlock ≠ v2.ownBlock
/-- What a step of the walk leaves as it was: all but the walk's block and its two rows; a row is where it was, or in a block made since. -/
structure Moved (w w' : World) (b : Nat) (v1 v2 v1' v2' : Value) : Prop where
  os : w'.os = w.os
  tape : w'.tape = w.tape
  output : w'.output = w.output
  size : w.heap.size ≤ w'.heap.size
  block : ∀ k, k < w.heap.size → k ≠ b → v1.ownBlock ≠ some k → v2.ownBlock ≠ some k → w'.heap[k]? = w.heap[k]?
  r1 : v1'.ownBlock = v1.ownBlock ∨ ∃ g, v1'.ownBlock = some g ∧ w.heap.size ≤ g
  r2 : v2'.ownBlock = v2.ownBlock ∨ ∃ g, v2'.ownBlock = some g ∧ w.heap.size ≤ g
section
variable {base : Nat} {w w' w'' a : World} {b p f c : Nat} {F : FixL} {C : ChL} {id : ByteArray} {v1 v2 v1' v2' v1'' v2'' : Value} {st st' : CSt}
theorem Moved.trans (h : Moved w w' b v1 v2 v1' v2') (k : Moved w' w'' b v1' v2' v1'' v2'') : Moved w w'' b v1 v2 v1'' v2'' := by
  have hs := h.size
  refine ⟨k.os.trans h.os, k.tape.trans h.tape, k.output.trans h.output, Nat.le_trans hs k.size, fun i hi h1 h2 h3 => ?_, ?_, ?_⟩
  · refine (k.block i (Nat.lt_of_lt_of_le hi hs) h1 ?_ ?_).trans (h.block i hi h1 h2 h3)
    · rcases h.r1 with e | ⟨g, e, hg⟩ <;> rw [e]
      · exact h2
      · intro e'; injection e' with e'; omega
    · rcases h.r2 with e | ⟨g, e, hg⟩ <;> rw [e]
      · exact h3
      · intro e'; injection e' with e'; omega
  · rcases k.r1 with e | ⟨g, e, hg⟩
    · rw [e]; exact h.r1
    · exact .inr ⟨g, e, Nat.le_trans hs hg⟩
  · rcases k.r2 with e | ⟨g, e, hg⟩
    · rw [e]; exact h.r2
    · exact .inr ⟨g, e, Nat.le_trans hs hg⟩
theorem Moved.of_ext (h : Ext w w') (b : Nat) (v1 v2 : Value) : Moved w w' b v1 v2 v1 v2 :=
  ⟨h.os, h.tape, h.output, h.size, fun k hk _ _ _ => h.block hk, .inl rfl, .inl rfl⟩
theorem Wk.ext (h : Wk base w b p f c F C id v1 v2 st) (k : Ext w w') : Wk base w' b p f c F C id v1 v2 st :=
  ⟨k.obj h.blk, k.own h.fl, k.own h.wa, h.wld.ext k, h.pb, h.bb, h.n1, h.n2, h.n12⟩
theorem Wk.cells (h : Wk base w b p f c F C id v1 v2 st) : w.cell? ⟨b, 0, none⟩ = some (.string id) ∧ w.cell? ⟨b, 1, none⟩ = some (.pointer (some ⟨p, 0, none⟩)) ∧ w.cell? ⟨b, 2, none⟩ = some v1 ∧ w.cell? ⟨b, 3, none⟩ = some v2 ∧ (∀ o, w.frozen? ⟨b, o, none⟩ = false) ∧ b < w.heap.size := by
  obtain ⟨h1, h2, h3⟩ := obj_cells h.blk
  exact ⟨h1 0 _ rfl, h1 1 _ rfl, h1 2 _ rfl, h1 3 _ rfl, h2, h3⟩
/-- A block that is none of the walk's is as it was. -/
theorem Wk.other (h : Wk base w b p f c F C id v1 v2 st) (m : Moved w w' b v1 v2 v1' v2') {k : Nat} {o : Obj} (hk : w.heap[k]? = some o) (h1 : k ≠ b) (h2 : v1.ownBlock ≠ some k) (h3 : v2.ownBlock ≠ some k) : w'.heap[k]? = some o := by
  rw [m.block k (Array.getElem?_eq_some_iff.1 hk).1 h1 h2 h3]; exact hk
/-- What was there before the walk began is as it was. -/
theorem Moved.ext (m : Moved w w' b v1 v2 v1' v2') (h : Wk base w b p f c F C id v1 v2 st) (ha : Ext a w) (hb : a.heap.size ≤ base) : Ext a w' := by
  have hs := ha.size
  refine ⟨m.os.trans ha.os, m.tape.trans ha.tape, m.output.trans ha.output, Nat.le_trans hs m.size, fun i hi => ?_⟩
  refine (m.block i (by omega) (by have := h.bb; omega) ?_ ?_).trans (ha.block hi)
  · intro e; have := (h.fl.lt i e).1; omega
  · intro e; have := (h.wa.lt i e).1; omega
end

/-- 'append' at a step of a region that draws: the new slice in its form. -/
theorem step_app {P : Program} {w : World} {t e : TypeId} {size bytes : Nat} (E : Elem P t e size bytes) {ops : Array Oper} {o : Oper} {a : Act} {K : Act → World → Prop} {Q : Exit → Act → World → Prop} {Ee : Prop} (hgd : o.guard = none) (s x : Operand)
    (ho : o.op = .call { callee := .builtin .append, args := #[s, x], argTypes := #[t, t] })
    (base : Nat) (v : Value) (n : Nat) (xs : List Value) (hs : a.eval s = v) (hown : w.ownsRow base e size v n xs)
    (A : Option Addr) (m c : Nat) (news : List Value) (hx : a.eval x = .slice A m c) (hr : Rd w size A m news) (h1 : ∀ u ∈ news, u.oneCell' = true)
    (h63 : n + m ≤ maxLen) (hbytes : (n + m) * bytes ≤ 140737488355328) (hbase : base ≤ w.heap.size)
    (h : ∀ A' C' w', w'.ownsRow base e size (.slice A' (n + m) C') (n + m) (xs ++ news) → w.grownBy w' v.ownBlock → ((Value.slice A' (n + m) C').ownBlock = v.ownBlock ∨ (Value.slice A' (n + m) C').ownBlock = some w.heap.size) → K (a.put o.dst (.slice A' (n + m) C')) w') :
    if Region.wanted o (yielded ops a.tmps) = true then Oper.wp P o a w K Q else Ee := by
  have hw : Region.wanted o (yielded ops a.tmps) = true := by simp [Region.wanted, hgd]
  rw [if_pos hw]
  obtain ⟨v', w', hrun, h2, h3, h4⟩ := run_app (P := P) E o.type base v n xs hown A m c news hr h1 h63 hbytes hbase
  obtain ⟨A', C', rfl, _, _⟩ := own_form h2
  unfold Oper.wp execOp
  simp only [ho, resolve, invoke, builtin, Sem.run_bind, Sem.run_pure, Result.andThen_ok, List.map_toArray, List.map_cons, List.map_nil, hs, hx, hrun]
  exact h A' C' w' h2 h3 h4

section
variable {base : Nat} {w w1 : World} {b p f c : Nat} {F : FixL} {C : ChL} {id : ByteArray} {v1 v2 : Value} {st : CSt}
/-- A flow more: appended and stored. -/
theorem Wk.put1 (h : Wk base w b p f c F C id v1 v2 st) {A' : Option Addr} {C' : Nat} (x : Fl) (hown : w1.ownsRow base 144 3 (.slice A' (st.1.length + 1) C') (st.1.length + 1) (flCells st.1 ++ x.cells)) (hg : w.grownBy w1 v1.ownBlock)
    (hat : (Value.slice A' (st.1.length + 1) C').ownBlock = v1.ownBlock ∨ (Value.slice A' (st.1.length + 1) C').ownBlock = some w.heap.size) :
    Wk base (w1.setCell ⟨b, 2, none⟩ (.slice A' (st.1.length + 1) C')) b p f c F C id (.slice A' (st.1.length + 1) C') v2 (st.1 ++ [x], st.2) ∧ Moved w (w1.setCell ⟨b, 2, none⟩ (.slice A' (st.1.length + 1) C')) b v1 v2 (.slice A' (st.1.length + 1) C') v2 := by
  have hbl := (Array.getElem?_eq_some_iff.1 h.blk).1
  have hb1 : w1.heap[b]? = some (.cells #[.string id, .pointer (some ⟨p, 0, none⟩), v1, v2] 221 (0, 0)) := by rw [hg.block b hbl (fun e => h.n1 e.symm)]; exact h.blk
  have hset := setC_grown w1 b 2 (.slice A' (st.1.length + 1) C')
  have hne1 : (Value.slice A' (st.1.length + 1) C').ownBlock ≠ some b := by
    rcases hat with e | e <;> rw [e]
    · exact h.n1
    · intro e'; injection e' with e'; omega
  obtain ⟨q1, q2, q3⟩ := h.wld.lts
  have hbb := h.bb
  have hpb := h.pb
  have hold : ∀ k, k < base → v1.ownBlock ≠ some k := fun k hk e => by have := (h.fl.lt k e).1; omega
  refine ⟨⟨?_, ?_, ?_, ?_, h.pb, h.bb, hne1, h.n2, ?_⟩, ⟨?_, ?_, ?_, ?_, ?_, ?_, .inl rfl⟩⟩
  · rw [setC_block w1 b 2 _ hb1]; rfl
  · have := hown.kept hset (.inr hne1)
    rw [flCells_app, List.length_append]
    simpa [flCells] using this
  · refine (h.wa.kept hg ?_).kept hset (.inr h.n2)
    cases hv : v2.ownBlock with
    | none => exact .inl rfl
    | some k =>
      right
      rcases h.n12 with e | e
      · rw [e]; simp
      · rw [hv] at e; exact fun e' => e e'.symm
  · refine h.wld.keep fun k hk => ?_
    have hkb : k < base := by rcases hk with rfl | rfl | rfl <;> omega
    have hkl : k < w.heap.size := by rcases hk with rfl | rfl | rfl <;> assumption
    rw [hset.block k (Nat.lt_of_lt_of_le hkl hg.size) (by intro e; injection e with e; omega), hg.block k hkl (fun e => hold k hkb e.symm)]
  · rcases hat with e | e <;> rw [e]
    · exact h.n12
    · right
      intro e'
      have := (h.wa.lt _ e'.symm).2
      omega
  · exact hset.os.trans hg.os
  · exact hset.tape.trans hg.tape
  · exact hset.output.trans hg.output
  · exact Nat.le_trans hg.size hset.size
  · intro k hk h1 h2 h3
    rw [hset.block k (Nat.lt_of_lt_of_le hk hg.size) (by intro e; injection e with e; exact h1 e), hg.block k hk (fun e => h2 e.symm)]
  · rcases hat with e | e
    · exact .inl e
    · exact .inr ⟨_, e, Nat.le_refl _⟩
/-- A wait more. -/
theorem Wk.put2 (h : Wk base w b p f c F C id v1 v2 st) {A' : Option Addr} {C' : Nat} (x : Wa) (hown : w1.ownsRow base 152 5 (.slice A' (st.2.length + 1) C') (st.2.length + 1) (waCells st.2 ++ x.cells)) (hg : w.grownBy w1 v2.ownBlock)
    (hat : (Value.slice A' (st.2.length + 1) C').ownBlock = v2.ownBlock ∨ (Value.slice A' (st.2.length + 1) C').ownBlock = some w.heap.size) :
    Wk base (w1.setCell ⟨b, 3, none⟩ (.slice A' (st.2.length + 1) C')) b p f c F C id v1 (.slice A' (st.2.length + 1) C') (st.1, st.2 ++ [x]) ∧ Moved w (w1.setCell ⟨b, 3, none⟩ (.slice A' (st.2.length + 1) C')) b v1 v2 v1 (.slice A' (st.2.length + 1) C') := by
  have hbl := (Array.getElem?_eq_some_iff.1 h.blk).1
  have hb1 : w1.heap[b]? = some (.cells #[.string id, .pointer (some ⟨p, 0, none⟩), v1, v2] 221 (0, 0)) := by rw [hg.block b hbl (fun e => h.n2 e.symm)]; exact h.blk
  have hset := setC_grown w1 b 3 (.slice A' (st.2.length + 1) C')
  have hne1 : (Value.slice A' (st.2.length + 1) C').ownBlock ≠ some b := by
    rcases hat with e | e <;> rw [e]
    · exact h.n2
    · intro e'; injection e' with e'; omega
  obtain ⟨q1, q2, q3⟩ := h.wld.lts
  have hbb := h.bb
  have hpb := h.pb
  have hold : ∀ k, k < base → v2.ownBlock ≠ some k := fun k hk e => by have := (h.wa.lt k e).1; omega
  refine ⟨⟨?_, ?_, ?_, ?_, h.pb, h.bb, h.n1, hne1, ?_⟩, ⟨?_, ?_, ?_, ?_, ?_, .inl rfl, ?_⟩⟩
  · rw [setC_block w1 b 3 _ hb1]; rfl
  · refine (h.fl.kept hg ?_).kept hset (.inr h.n1)
    exact h.n12
  · have := hown.kept hset (.inr hne1)
    rw [waCells_app, List.length_append]
    simpa [waCells] using this
  · refine h.wld.keep fun k hk => ?_
    have hkb : k < base := by rcases hk with rfl | rfl | rfl <;> omega
    have hkl : k < w.heap.size := by rcases hk with rfl | rfl | rfl <;> assumption
    rw [hset.block k (Nat.lt_of_lt_of_le hkl hg.size) (by intro e; injection e with e; omega), hg.block k hkl (fun e => hold k hkb e.symm)]
  · rcases hat with e | e <;> rw [e]
    · exact h.n12
    · cases hv : v1.ownBlock with
      | none => exact .inl rfl
      | some k =>
        right
        intro e'
        injection e' with e'
        have := (h.fl.lt _ hv).2
        omega
  · exact hset.os.trans hg.os
  · exact hset.tape.trans hg.tape
  · exact hset.output.trans hg.output
  · exact Nat.le_trans hg.size hset.size
  · intro k hk h1 h2 h3
    rw [hset.block k (Nat.lt_of_lt_of_le hk hg.size) (by intro e; injection e with e; exact h1 e), hg.block k hk (fun e => h3 e.symm)]
  · rcases hat with e | e
    · exact .inl e
    · exact .inr ⟨_, e, Nat.le_refl _⟩
end

end Go.Proofs.Ytgjjngkmbplijaa

/- Package cash: wait, number. -/
namespace Go.Proofs.Ytgjjngkmbplijaa
open Go.RowKit
set_option linter.unusedSimpArgs false
set_option linter.unusedVariables false

theorem waCells_at {l : List Wa} {j : Nat} {x : Wa} (h : l[j]? = some x) (i : Nat) (hi : i < 5) : (waCells l)[j * 5 + i]? = x.cells[i]? := by
  induction l generalizing j with
  | nil => simp at h
  | cons y r ih =>
    have hl : y.cells.length = 5 := rfl
    cases j with
    | zero => simp at h; subst h; simp only [waCells, List.flatMap_cons, Nat.zero_mul, Nat.zero_add]; rw [List.getElem?_append_left (by omega)]
    | succ j =>
      simp only [List.getElem?_cons_succ] at h
      have := ih h
      simp only [waCells, List.flatMap_cons] at *
      rw [List.getElem?_append_right (by omega), ← this]
      congr 1
      omega
/-- A wait in a row. -/
theorem Rd.atWa {w : World} {a : Option Addr} {n : Nat} {l : List Wa} (h : Rd w 5 a n (waCells l)) {j : Nat} {x : Wa} (hx : l[j]? = some x) :
    ∃ ad, a = some ad ∧ w.cell? (ad.add (j * 5)) = some (.bool x.ch) ∧ w.cell? (ad.add (j * 5 + 1)) = some (.string x.name) ∧ w.cell? (ad.add (j * 5 + 2)) = some (.string x.label) ∧ w.cell? (ad.add (j * 5 + 3)) = some (.int .i64 x.day) ∧ w.cell? (ad.add (j * 5 + 4)) = some (.int .i64 x.side) := by
  obtain ⟨ad, e0, c0⟩ := h.2 (j * 5 + 0) _ (waCells_at hx 0 (by omega))
  obtain ⟨ad1, e1, c1⟩ := h.2 (j * 5 + 1) _ (waCells_at hx 1 (by omega))
  obtain ⟨ad2, e2, c2⟩ := h.2 (j * 5 + 2) _ (waCells_at hx 2 (by omega))
  obtain ⟨ad3, e3, c3⟩ := h.2 (j * 5 + 3) _ (waCells_at hx 3 (by omega))
  obtain ⟨ad4, e4, c4⟩ := h.2 (j * 5 + 4) _ (waCells_at hx 4 (by omega))
  rw [e0] at e1 e2 e3 e4
  injection e1 with e1; injection e2 with e2; injection e3 with e3; injection e4 with e4
  subst e1 e2 e3 e4
  exact ⟨ad, e0, c0, c1, c2, c3, c4⟩
theorem held_wait : Try.prog.stoodInHeld 152 = false ∧ Try.prog.eqGuardType Try.prog.depth 152 = false := ⟨by kernel_rfl, by kernel_rfl⟩
def Wa.val (x : Wa) : Value := .agg #[.bool x.ch, .string x.name, .string x.label, .int .i64 x.day, .int .i64 x.side]
set_option maxRecDepth 100000 in
set_option maxHeartbeats 400000 in
theorem eql_wait (x y : Wa) (w : World) : (Op.equalIn 10000 152 x.val y.val).run Try.prog w = .ok (x.same y) w := by
  obtain ⟨f1, f2⟩ := held_wait
  obtain ⟨a1, a2, a3, a4, a5⟩ := x
  obtain ⟨b1, b2, b3, b4, b5⟩ := y
  unfold Wa.val Wa.same
  simp only
  rw [run_equalIn_agg _ _ _ _ _ (by kernel_rfl) f1, ← bytes_beq, ← bytes_beq]
  go_simp
  by_cases h1 : a1 = b1 <;> by_cases h2 : a2.toList = b2.toList <;> by_cases h3 : a3.toList = b3.toList <;> by_cases h4 : a4 = b4 <;> by_cases h5 : a5 = b5 <;> simp [h1, h2, h3, h4, h5]

theorem wa_at {w : World} {base : Nat} {e : TypeId} {a : Option Addr} {c n : Nat} {l : List Wa} (h : w.ownsRow base e 5 (.slice a n c) n (waCells l)) {j : Nat} {x : Wa} (hx : l[j]? = some x) (hj : j < n) :
    ∃ g, a = some ⟨g, 0, none⟩ ∧ w.cell? ⟨g, j * 5, none⟩ = some (.bool x.ch) ∧ w.cell? ⟨g, j * 5 + 1, none⟩ = some (.string x.name) ∧ w.cell? ⟨g, j * 5 + 2, none⟩ = some (.string x.label) ∧ w.cell? ⟨g, j * 5 + 3, none⟩ = some (.int .i64 x.day) ∧ w.cell? ⟨g, j * 5 + 4, none⟩ = some (.int .i64 x.side) := by
  obtain ⟨g, e1, _, _⟩ := own_at h hj
  obtain ⟨ad, e2, c0, c1, c2, c3, c4⟩ := (Rd.of_own h).atWa hx
  rw [e1] at e2
  injection e2 with e2
  subst e2
  simp only [Addr.add_lit, Nat.zero_add] at c0 c1 c2 c3 c4
  exact ⟨g, e1, c0, c1, c2, c3, c4⟩

set_option maxRecDepth 100000 in
set_option maxHeartbeats 1600000 in
theorem windex_calls (base : Nat) (l : List Wa) (s : Wa) (a : Option Addr) (c : Nat) (w : World) (hr : w.ownsRow base 152 5 (.slice a l.length c) l.length (waCells l)) (hl : l.length ≤ 2 ^ 40) (hcm : c ≤ maxLen) :
    Calls Try.prog 156 #[.slice a l.length c, s.val] w fun e w' => RetAny w (l.any fun x => s.same x) e w' := by
  unfold maxLen at hcm
  have hE := fun x W => eql_wait s x W
  have f2 := held_wait.2
  unfold Wa.val at *
  go_enter Try.func156, Try.ntmps156
  go_wp2_with fail
  go_loopw [8] (fun i wr => ∃ j : Nat, j ≤ l.length ∧ i = .int .i64 j ∧ ((l.take j).any fun x => s.same x) = false ∧ Ext (w.alloc (.cells #[.bool s.ch, .string s.name, .string s.label, .int .i64 s.day, .int .i64 s.side] 152 (0, 0))) wr) (fun i _ => l.length - (intOf i).toNat)
  case atStart => exact ⟨0, by omega, rfl, rfl, Ext.refl _⟩
  case round =>
    obtain ⟨j, hj, rfl, hno, hx⟩ := hrel
    have hx0 : Ext w wr := ((Ext.refl w).alloc _).trans hx
    by_cases hlt : j < l.length
    · have e1 : l[j]? = some l[j] := List.getElem?_eq_getElem hlt
      generalize l[j] = k at e1
      obtain ⟨g, rfl, c0, c1, c2, c3, c4⟩ := wa_at (hx0.own hr) e1 hlt
      obtain ⟨q, hfz, hlt0⟩ := obj_cells (hx.lit (heap_new w _))
      have s0 := q 0 _ rfl
      have s1 := q 1 _ rfl
      have s2 := q 2 _ rfl
      have s3 := q 3 _ rfl
      have s4 := q 4 _ rfl
      have hs := any_take_succ (p := fun x => s.same x) e1
      rw [hno] at hs
      have hEk := fun W => hE k W
      have e0 := Lib.hid e1
      have hs0 := Lib.hid hs
      have hj0 := Lib.hid (show j + 1 ≤ l.length from hlt)
      have hr0 := Lib.hid hr
      have hji : (j : Int) < (l.length : Int) := by omega
      have hji0 : (0 : Int) ≤ (j : Int) := by omega
      clear hr e1 hs hno q hE
      generalize hp : s.same k = pb at *
      have hp0 := Lib.hid hp
      clear hp
      cases pb with
      | true =>
        go_wp2_with fail
        go_quiet (fail)
        go_wp2
        go_ret
        exact ⟨_, rfl, by rw [any_hit (p := fun x => s.same x) e0.out hp0.out]; simp, (by repeat' (first | (with_reducible exact Ext.refl _) | (with_reducible assumption) | (with_reducible refine Ext.alloc ?_ _) | (with_reducible refine Ext.drew ?_) | (with_reducible refine Ext.drewN ?_ _) | (with_reducible refine Ext.setCell ?_ (by first | exact Nat.le_refl _ | (simp; done) | (simp; omega) | omega) _) | (with_reducible refine Ext.trans ?_ (by assumption))))⟩
      | false =>
        go_wp2_with fail
        go_quiet (fail)
        go_wp2_with fail
        go_roundw
        case rel => exact ⟨j + 1, hj0.out, by go_num, by rw [hs0.out]; rfl, (by repeat' (first | (with_reducible exact Ext.refl _) | (with_reducible assumption) | (with_reducible refine Ext.alloc ?_ _) | (with_reducible refine Ext.drew ?_) | (with_reducible refine Ext.drewN ?_ _) | (with_reducible refine Ext.setCell ?_ (by first | exact Nat.le_refl _ | (simp; done) | (simp; omega) | omega) _) | (with_reducible refine Ext.trans ?_ (by assumption))))⟩
        case measure => simp [intOf]; omega
    · obtain rfl : j = l.length := by omega
      rw [List.take_length] at hno
      go_wp2
      go_ret
      exact ⟨_, rfl, by rw [hno]; rfl, (by repeat' (first | (with_reducible exact Ext.refl _) | (with_reducible assumption) | (with_reducible refine Ext.alloc ?_ _) | (with_reducible refine Ext.drew ?_) | (with_reducible refine Ext.drewN ?_ _) | (with_reducible refine Ext.setCell ?_ (by first | exact Nat.le_refl _ | (simp; done) | (simp; omega) | omega) _) | (with_reducible refine Ext.trans ?_ (by assumption))))⟩

set_option maxRecDepth 100000 in
set_option maxHeartbeats 800000 in
theorem wcontains_calls (base : Nat) (l : List Wa) (s : Wa) (a : Option Addr) (c : Nat) (w : World) (hr : w.ownsRow base 152 5 (.slice a l.length c) l.length (waCells l)) (hl : l.length ≤ 2 ^ 40) (hcm : c ≤ maxLen) :
    Calls Try.prog 155 #[.slice a l.length c, s.val] w fun e w' => RetB w (l.any fun x => s.same x) e w' := by
  have H := fun w' (h : Ext w w') => windex_calls base l s a c w' (h.own hr) hl hcm
  unfold Wa.val at *
  generalize (l.any fun x => s.same x) = b at *
  go_enter Try.func155, Try.ntmps155
  (go_wp2_with fail; (with_reducible refine (H _ ((by repeat' (first | (with_reducible exact Ext.refl _) | (with_reducible assumption) | (with_reducible refine Ext.alloc ?_ _) | (with_reducible refine Ext.drew ?_) | (with_reducible refine Ext.drewN ?_ _) | (with_reducible refine Ext.setCell ?_ (by first | exact Nat.le_refl _ | (simp; done) | (simp; omega) | omega) _) | (with_reducible refine Ext.trans ?_ (by assumption)))))).mono ?_); rintro e w' ⟨r, rfl, rfl, hx⟩)
  go_wp2
  go_ret
  exact ⟨rfl, (by repeat' (first | (with_reducible exact Ext.refl _) | (with_reducible assumption) | (with_reducible refine Ext.alloc ?_ _) | (with_reducible refine Ext.drew ?_) | (with_reducible refine Ext.drewN ?_ _) | (with_reducible refine Ext.setCell ?_ (by first | exact Nat.le_refl _ | (simp; done) | (simp; omega) | omega) _) | (with_reducible refine Ext.trans ?_ (by assumption))))⟩

end Go.Proofs.Ytgjjngkmbplijaa

/- Package cash: wait, number. -/
namespace Go.Proofs.Ytgjjngkmbplijaa
open Go.RowKit
set_option linter.unusedSimpArgs false
set_option linter.unusedVariables false

/-- Nothing comes back; the walk's memory holds what it holds then. -/
def RetW0 (base : Nat) (w : World) (b p f c : Nat) (F : FixL) (C : ChL) (id : ByteArray) (v1 v2 : Value) (st : CSt) (e : Ending) (w' : World) : Prop :=
  ∃ v1' v2', e = .returned (.tuple #[]) ∧ Wk base w' b p f c F C id v1' v2' st ∧ Moved w w' b v1 v2 v1' v2'
/-- An error's number comes back. -/
def RetW (base : Nat) (w : World) (b p f c : Nat) (F : FixL) (C : ChL) (id : ByteArray) (v1 v2 : Value) (r : Int × CSt) (e : Ending) (w' : World) : Prop :=
  ∃ v1' v2', e = .returned (.int .i64 r.1) ∧ Wk base w' b p f c F C id v1' v2' r.2 ∧ Moved w w' b v1 v2 v1' v2'

theorem waitsFor_take {L : List Wa} {d : Int} {l : List ByteArray} {j : Nat} {s : ByteArray} (h : l[j]? = some s) : waitsFor L d (l.take (j + 1)) = addW (waitsFor L d (l.take j)) (waitFix d s) := by
  unfold waitsFor; rw [List.take_add_one, h]; simp
theorem addW_len (L : List Wa) (y : Wa) : (addW L y).length ≤ L.length + 1 := by unfold addW; split <;> simp
theorem waitsFor_len (L : List Wa) (d : Int) (l : List ByteArray) : (waitsFor L d l).length ≤ L.length + l.length := by
  unfold waitsFor
  induction l generalizing L with
  | nil => simp
  | cons s t ih => have h1 := ih (addW L (waitFix d s)); have h2 := addW_len L (waitFix d s); simp only [List.foldl_cons, List.length_cons]; omega

theorem Rd.moved {w w' : World} {b size n : Nat} {v1 v2 v1' v2' : Value} {A : Option Addr} {xs : List Value} (h : Rd w size A n xs) (m : Moved w w' b v1 v2 v1' v2') (hq : ∀ ad, A = some ad → ad.block ≠ b ∧ v1.ownBlock ≠ some ad.block ∧ v2.ownBlock ≠ some ad.block) : Rd w' size A n xs :=
  ⟨h.1, fun j u hu => by
    obtain ⟨ad, e, hc⟩ := h.2 j u hu
    obtain ⟨q1, q2, q3⟩ := hq ad e
    have hlt := World.block_lt_of_cell? w _ hc
    have hb : (ad.add j).block = ad.block := add_block ad j
    refine ⟨ad, e, ?_⟩
    rw [World.cell?_of_block (w := w) (m.block (ad.add j).block hlt (by rw [hb]; exact q1) (by rw [hb]; exact q2) (by rw [hb]; exact q3))]
    exact hc⟩
theorem Wk.grown1 {base : Nat} {w w1 : World} {b p f c : Nat} {F : FixL} {C : ChL} {id : ByteArray} {v1 v2 : Value} {st : CSt} (h : Wk base w b p f c F C id v1 v2 st) (hg : w.grownBy w1 v1.ownBlock) : w1.cell? ⟨b, 2, none⟩ = some v1 ∧ ∀ o, w1.frozen? ⟨b, o, none⟩ = false := by
  have hb1 : w1.heap[b]? = some (.cells #[.string id, .pointer (some ⟨p, 0, none⟩), v1, v2] 221 (0, 0)) := by rw [hg.block b (Array.getElem?_eq_some_iff.1 h.blk).1 (fun e => h.n1 e.symm)]; exact h.blk
  obtain ⟨h1, h2, _⟩ := obj_cells hb1
  exact ⟨h1 2 _ rfl, h2⟩
theorem Wk.grown2 {base : Nat} {w w1 : World} {b p f c : Nat} {F : FixL} {C : ChL} {id : ByteArray} {v1 v2 : Value} {st : CSt} (h : Wk base w b p f c F C id v1 v2 st) (hg : w.grownBy w1 v2.ownBlock) : w1.cell? ⟨b, 3, none⟩ = some v2 ∧ ∀ o, w1.frozen? ⟨b, o, none⟩ = false := by
  have hb1 : w1.heap[b]? = some (.cells #[.string id, .pointer (some ⟨p, 0, none⟩), v1, v2] 221 (0, 0)) := by rw [hg.block b (Array.getElem?_eq_some_iff.1 h.blk).1 (fun e => h.n2 e.symm)]; exact h.blk
  obtain ⟨h1, h2, _⟩ := obj_cells hb1
  exact ⟨h1 3 _ rfl, h2⟩
theorem waitFix_cells (d : Int) (s : ByteArray) : (waitFix d s).cells = [.bool false, .string s, .string ⟨#[]⟩, .int .i64 d, .int .i64 0] := rfl

set_option maxRecDepth 100000 in
set_option maxHeartbeats 3200000 in
theorem cwait_calls (base : Nat) (w : World) (b p f c : Nat) (F : FixL) (C : ChL) (id : ByteArray) (v1 v2 : Value) (st : CSt) (d : Int) (N : List ByteArray) (A : Option Addr) (c2 : Nat) (h : Wk base w b p f c F C id v1 v2 st)
    (hN : Rd w 1 A N.length (strVals N)) (hq : ∀ ad, A = some ad → ad.block ≠ b ∧ v1.ownBlock ≠ some ad.block ∧ v2.ownBlock ≠ some ad.block) (hcm : c2 ≤ maxLen) (hn : N.length ≤ 2 ^ 33) (hl : st.2.length ≤ 2 ^ 33) :
    Calls Try.prog 154 #[.pointer (some ⟨b, 0, none⟩), .int .i64 d, .slice A N.length c2] w (RetW0 base w b p f c F C id v1 v2 (st.1, waitsFor st.2 d N)) := by
  unfold maxLen at hcm
  obtain ⟨fl, wa⟩ := st
  have H0 := Lib.hid h
  have hN0 := Lib.hid hN
  have hq0 := Lib.hid hq
  clear h hN hq
  go_enter Try.func154, Try.ntmps154
  go_wp2_with fail
  go_loopw [11] (fun i wr => ∃ (j : Nat) (u1 u2 : Value), j ≤ N.length ∧ i = .int .i64 j ∧ Wk base wr b p f c F C id u1 u2 (fl, waitsFor wa d (N.take j)) ∧ Moved w wr b v1 v2 u1 u2) (fun i _ => N.length - (intOf i).toNat)
  case atStart => exact ⟨0, v1, v2, by omega, rfl, H0.out, Moved.of_ext (Ext.refl w) b v1 v2⟩
  case round =>
    obtain ⟨j, u1, u2, hj, rfl, hW, hM⟩ := hrel
    by_cases hlt : j < N.length
    · obtain ⟨s, e1, hv⟩ := strVals_at hlt
      obtain ⟨ad, u, rfl, hu, hc⟩ := (hN0.out.moved hM hq0.out).at1 hlt
      obtain rfl : Value.string s = u := by rw [hv] at hu; injection hu
      have hwl := waitsFor_len wa d (N.take j)
      rw [List.length_take] at hwl
      have hS := Lib.hid (waitsFor_take (L := wa) (d := d) e1)
      have hj0 := Lib.hid (show j + 1 ≤ N.length from hlt)
      have hlen : (waitsFor wa d (N.take j)).length ≤ 2 ^ 34 := by have hl' : wa.length ≤ 2 ^ 33 := hl; omega
      generalize waitsFor wa d (N.take j) = L at *
      obtain ⟨A2, C2, rfl, hA1, hA2⟩ := own_form hW.wa
      obtain ⟨k0, k1, k2, k3, kf, kb⟩ := hW.cells
      have hC := fun w' (h : Ext wr w') => wcontains_calls base L (waitFix d s) A2 C2 w' (h.own hW.wa) (by omega) hA2
      have hW0 := Lib.hid hW
      have hM0 := Lib.hid hM
      unfold maxLen at hA2
      clear hv hu e1 hW hM hl hwl
      simp only [Wa.val, waitFix] at hC
      cases hb : (L.any fun x => Wa.same ⟨false, s, ⟨#[]⟩, d, 0⟩ x) with
      | true =>
        rw [hb] at hC
        have hadd := Lib.hid (show addW L (waitFix d s) = L by unfold addW waitFix; rw [if_pos hb])
        clear hb
        go_wp2_with fail
        go_region_with (go_at_call 155; (with_reducible refine (hC _ ?_).mono ?_); exact ((by repeat' (first | (with_reducible exact Ext.refl _) | (with_reducible assumption) | (with_reducible refine Ext.alloc ?_ _) | (with_reducible refine Ext.drew ?_) | (with_reducible refine Ext.drewN ?_ _) | (with_reducible refine Ext.setCell ?_ (by first | exact Nat.le_refl _ | (simp; done) | (simp; omega) | omega) _) | (with_reducible refine Ext.trans ?_ (by assumption))))); rintro e w2 ⟨rfl, hx⟩)
        all_goals
          go_wp2_with fail
          exact ⟨⟨j + 1, u1, _, hj0.out, by go_num, by rw [hS.out, hadd.out]; exact hW0.out.ext ((by repeat' (first | (with_reducible exact Ext.refl _) | (with_reducible assumption) | (with_reducible refine Ext.alloc ?_ _) | (with_reducible refine Ext.drew ?_) | (with_reducible refine Ext.drewN ?_ _) | (with_reducible refine Ext.setCell ?_ (by first | exact Nat.le_refl _ | (simp; done) | (simp; omega) | omega) _) | (with_reducible refine Ext.trans ?_ (by assumption))))), hM0.out.trans (Moved.of_ext ((by repeat' (first | (with_reducible exact Ext.refl _) | (with_reducible assumption) | (with_reducible refine Ext.alloc ?_ _) | (with_reducible refine Ext.drew ?_) | (with_reducible refine Ext.drewN ?_ _) | (with_reducible refine Ext.setCell ?_ (by first | exact Nat.le_refl _ | (simp; done) | (simp; omega) | omega) _) | (with_reducible refine Ext.trans ?_ (by assumption))))) b _ _)⟩, by simp [intOf]; omega⟩
      | false =>
        rw [hb] at hC
        have hadd := Lib.hid (show addW L (waitFix d s) = L ++ [waitFix d s] by unfold addW waitFix; rw [if_neg (by rw [hb]; decide)])
        have h63 : L.length + 1 ≤ maxLen := by unfold maxLen; omega
        have hby : (L.length + 1) * 56 ≤ 140737488355328 := by omega
        clear hb
        go_wp2_with fail
        go_region_with (go_at_call 155; (with_reducible refine (hC _ ?_).mono ?_); exact ((by repeat' (first | (with_reducible exact Ext.refl _) | (with_reducible assumption) | (with_reducible refine Ext.alloc ?_ _) | (with_reducible refine Ext.drew ?_) | (with_reducible refine Ext.drewN ?_ _) | (with_reducible refine Ext.setCell ?_ (by first | exact Nat.le_refl _ | (simp; done) | (simp; omega) | omega) _) | (with_reducible refine Ext.trans ?_ (by assumption))))); rintro e w2 ⟨rfl, hx⟩)
        all_goals
          have hW2 := hW0.out.ext (show Ext wr w2 from ((by repeat' (first | (with_reducible exact Ext.refl _) | (with_reducible assumption) | (with_reducible refine Ext.alloc ?_ _) | (with_reducible refine Ext.drew ?_) | (with_reducible refine Ext.drewN ?_ _) | (with_reducible refine Ext.setCell ?_ (by first | exact Nat.le_refl _ | (simp; done) | (simp; omega) | omega) _) | (with_reducible refine Ext.trans ?_ (by assumption))))))
          obtain ⟨k0, k1, k2, k3, kf, kb⟩ := hW2.cells
          obtain ⟨q, hfz, hlt0⟩ := obj_cells (hx.lit (heap_new wr _))
          have s0 := q 0 _ rfl
          have s1 := q 1 _ rfl
          have s2 := q 2 _ rfl
          have s3 := q 3 _ rfl
          have s4 := q 4 _ rfl
          have hW3 := Lib.hid hW2
          have hM3 := Lib.hid (hM0.out.trans (Moved.of_ext (show Ext wr w2 from ((by repeat' (first | (with_reducible exact Ext.refl _) | (with_reducible assumption) | (with_reducible refine Ext.alloc ?_ _) | (with_reducible refine Ext.drew ?_) | (with_reducible refine Ext.drewN ?_ _) | (with_reducible refine Ext.setCell ?_ (by first | exact Nat.le_refl _ | (simp; done) | (simp; omega) | omega) _) | (with_reducible refine Ext.trans ?_ (by assumption)))))) b _ _))
          clear hW2 q
          go_wp2_with fail
          go_region_law (refine step_app elemWa (by rfl) _ _ (by rfl) base (.slice A2 L.length C2) L.length (waCells L) (by rfl) ((hW3.out.wa.alloc _).drew) (some ⟨w2.heap.size, 0, none⟩) 1 1 (waitFix d s).cells (by rfl) (by exact Rd.ext (Rd.newAt (by simp) rfl rfl) ((Ext.refl _).drew)) (by simp [waitFix, Wa.cells, Value.oneCell']) h63 hby (by have := hW3.out.bb; simp; omega) ?_; intro A' C' w1 hown1 hg1 hat1; obtain ⟨q3, qf⟩ := (hW3.out.ext (w' := (w2.alloc _).drew) ((by repeat' (first | (with_reducible exact Ext.refl _) | (with_reducible assumption) | (with_reducible refine Ext.alloc ?_ _) | (with_reducible refine Ext.drew ?_) | (with_reducible refine Ext.drewN ?_ _) | (with_reducible refine Ext.setCell ?_ (by first | exact Nat.le_refl _ | (simp; done) | (simp; omega) | omega) _) | (with_reducible refine Ext.trans ?_ (by assumption)))))).grown2 hg1)
          all_goals
            have hP := Lib.hid ((hW3.out.ext (w' := (w2.alloc _).drew) ((by repeat' (first | (with_reducible exact Ext.refl _) | (with_reducible assumption) | (with_reducible refine Ext.alloc ?_ _) | (with_reducible refine Ext.drew ?_) | (with_reducible refine Ext.drewN ?_ _) | (with_reducible refine Ext.setCell ?_ (by first | exact Nat.le_refl _ | (simp; done) | (simp; omega) | omega) _) | (with_reducible refine Ext.trans ?_ (by assumption)))))).put2 (waitFix d s) hown1 hg1 hat1)
            clear hown1 hg1 hat1 q3 qf
            go_wp2_with fail
            exact ⟨⟨j + 1, u1, _, hj0.out, by go_num, by rw [hS.out, hadd.out]; exact hP.out.1, (hM3.out.trans (Moved.of_ext ((by repeat' (first | (with_reducible exact Ext.refl _) | (with_reducible assumption) | (with_reducible refine Ext.alloc ?_ _) | (with_reducible refine Ext.drew ?_) | (with_reducible refine Ext.drewN ?_ _) | (with_reducible refine Ext.setCell ?_ (by first | exact Nat.le_refl _ | (simp; done) | (simp; omega) | omega) _) | (with_reducible refine Ext.trans ?_ (by assumption))))) b _ _)).trans hP.out.2⟩, by simp [intOf]; omega⟩
    · obtain rfl : j = N.length := by omega
      rw [List.take_length] at hW
      go_wp2_with fail
      go_end0
      exact ⟨u1, u2, rfl, hW, hM⟩

/-- A number, whether it is known, an error's number come back. -/
def RetNum (base : Nat) (w : World) (b p f c : Nat) (F : FixL) (C : ChL) (id : ByteArray) (v1 v2 : Value) (k : Kn) (st : CSt) (e : Ending) (w' : World) : Prop :=
  ∃ v1' v2', e = .returned (.tuple #[.int .i64 k.n, .bool k.is, .int .i64 k.e]) ∧ Wk base w' b p f c F C id v1' v2' st ∧ Moved w w' b v1 v2 v1' v2'
/-- What is waited for behind a number. -/
def numSt (o : Ob) (F : FixL) (d : Int) (st : CSt) : CSt := if (o.ofV F d).e = 0 ∧ (o.ofV F d).is = false then (st.1, waitsFor st.2 d (o.needs F d)) else st
theorem Ob.needs_len (o : Ob) (F : FixL) (d : Int) : (o.needs F d).length ≤ o.nodes := by
  unfold Ob.needs
  split
  · exact Nat.le_trans (notFixed_len _ _ _) o.names_len
  · simp

set_option maxRecDepth 100000 in
set_option maxHeartbeats 3200000 in
theorem cnumber_calls (base : Nat) (w : World) (b p f c : Nat) (F : FixL) (C : ChL) (id : ByteArray) (v1 v2 : Value) (st : CSt) (o : Ob) (d : Int) (h : Wk base w b p f c F C id v1 v2 st) (ho : o.wf) (hn : o.nodes ≤ 2 ^ 32) (hl : st.2.length ≤ 2 ^ 33) :
    Calls Try.prog 153 #[.pointer (some ⟨b, 0, none⟩), o.val, .int .i64 d] w (RetNum base w b p f c F C id v1 v2 (o.ofV F d) (numSt o F d st)) := by
  have H1 := fun w' (h' : Ext w w') => vOf_calls p f c F C d o w' ho (by omega) (h.wld.ext h')
  have H2 := fun w' (h' : Ext w w') => vneeds_calls p f c F C d o w' ho hn (h.wld.ext h')
  have hnl : (o.needs F d).length ≤ 2 ^ 32 := Nat.le_trans (o.needs_len F d) hn
  have HS := Lib.hid (show numSt o F d st = if (o.ofV F d).e = 0 ∧ (o.ofV F d).is = false then (st.1, waitsFor st.2 d (o.needs F d)) else st from rfl)
  have HW := fun (w' : World) (h' : Ext w w') (A : Option Addr) (c2 : Nat) hN hq hcm => cwait_calls base w' b p f c F C id v1 v2 st d (o.needs F d) A c2 (h.ext h') hN hq hcm (by omega) hl
  obtain ⟨k0, k1, k2, k3, kf, kb⟩ := h.cells
  have H0 := Lib.hid h
  generalize numSt o F d st = st2 at *
  generalize o.needs F d = N at *
  generalize o.ofV F d = k at *
  obtain ⟨kn, ki, ke⟩ := k
  generalize o.val = v at *
  clear h ho hn hl
  by_cases h1 : ke = 0
  · subst h1
    cases ki with
    | true =>
      have HS := Lib.hid (show st2 = st by rw [HS.out, if_neg (by simp)])
      go_enter Try.func153, Try.ntmps153
      (go_wp2_with fail; (with_reducible refine (H1 _ ((by repeat' (first | (with_reducible exact Ext.refl _) | (with_reducible assumption) | (with_reducible refine Ext.alloc ?_ _) | (with_reducible refine Ext.drew ?_) | (with_reducible refine Ext.drewN ?_ _) | (with_reducible refine Ext.setCell ?_ (by first | exact Nat.le_refl _ | (simp; done) | (simp; omega) | omega) _) | (with_reducible refine Ext.trans ?_ (by assumption)))))).mono ?_); rintro e w' ⟨rfl, hx⟩)
      go_wp2
      go_ret3
      exact ⟨v1, v2, rfl, by rw [HS.out]; exact H0.out.ext ((by repeat' (first | (with_reducible exact Ext.refl _) | (with_reducible assumption) | (with_reducible refine Ext.alloc ?_ _) | (with_reducible refine Ext.drew ?_) | (with_reducible refine Ext.drewN ?_ _) | (with_reducible refine Ext.setCell ?_ (by first | exact Nat.le_refl _ | (simp; done) | (simp; omega) | omega) _) | (with_reducible refine Ext.trans ?_ (by assumption))))), Moved.of_ext ((by repeat' (first | (with_reducible exact Ext.refl _) | (with_reducible assumption) | (with_reducible refine Ext.alloc ?_ _) | (with_reducible refine Ext.drew ?_) | (with_reducible refine Ext.drewN ?_ _) | (with_reducible refine Ext.setCell ?_ (by first | exact Nat.le_refl _ | (simp; done) | (simp; omega) | omega) _) | (with_reducible refine Ext.trans ?_ (by assumption))))) b _ _⟩
    | false =>
      have HS := Lib.hid (show st2 = (st.1, waitsFor st.2 d N) by rw [HS.out, if_pos ⟨rfl, rfl⟩])
      go_enter Try.func153, Try.ntmps153
      (go_wp2_with fail; (with_reducible refine (H1 _ ((by repeat' (first | (with_reducible exact Ext.refl _) | (with_reducible assumption) | (with_reducible refine Ext.alloc ?_ _) | (with_reducible refine Ext.drew ?_) | (with_reducible refine Ext.drewN ?_ _) | (with_reducible refine Ext.setCell ?_ (by first | exact Nat.le_refl _ | (simp; done) | (simp; omega) | omega) _) | (with_reducible refine Ext.trans ?_ (by assumption)))))).mono ?_); rintro e w' ⟨rfl, hx⟩)
      have hW1 := H0.out.ext (show Ext w w' from ((by repeat' (first | (with_reducible exact Ext.refl _) | (with_reducible assumption) | (with_reducible refine Ext.alloc ?_ _) | (with_reducible refine Ext.drew ?_) | (with_reducible refine Ext.drewN ?_ _) | (with_reducible refine Ext.setCell ?_ (by first | exact Nat.le_refl _ | (simp; done) | (simp; omega) | omega) _) | (with_reducible refine Ext.trans ?_ (by assumption))))))
      obtain ⟨k0, k1, k2, k3, kf, kb⟩ := hW1.cells
      clear hW1
      (go_wp2_with fail; (with_reducible refine (H2 _ ((by repeat' (first | (with_reducible exact Ext.refl _) | (with_reducible assumption) | (with_reducible refine Ext.alloc ?_ _) | (with_reducible refine Ext.drew ?_) | (with_reducible refine Ext.drewN ?_ _) | (with_reducible refine Ext.setCell ?_ (by first | exact Nat.le_refl _ | (simp; done) | (simp; omega) | omega) _) | (with_reducible refine Ext.trans ?_ (by assumption)))))).mono ?_); rintro e w' ⟨nv, rfl, hno, hy⟩)
      obtain ⟨A, c2, rfl, hA1, hA2⟩ := own_form hno
      have hE : Ext w w' := ((by repeat' (first | (with_reducible exact Ext.refl _) | (with_reducible assumption) | (with_reducible refine Ext.alloc ?_ _) | (with_reducible refine Ext.drew ?_) | (with_reducible refine Ext.drewN ?_ _) | (with_reducible refine Ext.setCell ?_ (by first | exact Nat.le_refl _ | (simp; done) | (simp; omega) | omega) _) | (with_reducible refine Ext.trans ?_ (by assumption)))))
      have hq : ∀ ad, A = some ad → ad.block ≠ b ∧ v1.ownBlock ≠ some ad.block ∧ v2.ownBlock ≠ some ad.block := by
        rintro ad rfl
        have h1 := (hno.lt ad.block rfl).1
        have h2 := hx.le
        have h3 := H0.out
        refine ⟨by omega, fun e => ?_, fun e => ?_⟩
        · have := (h3.fl.lt _ e).2; omega
        · have := (h3.wa.lt _ e).2; omega
      have hrd := Rd.of_own hno
      clear hno
      (go_wp2_with fail; (with_reducible refine (HW _ hE A c2 hrd hq hA2).mono ?_); rintro e w' ⟨u1, u2, rfl, hWk, hM⟩)
      have hWk := Lib.hid hWk
      go_wp2
      go_ret3
      exact ⟨u1, u2, rfl, by rw [HS.out]; exact hWk.out, (Moved.of_ext hE b _ _).trans hM⟩
  · have HS := Lib.hid (show st2 = st by rw [HS.out, if_neg (by simp [h1])])
    have hne : (ke == 0) = false := by simpa using h1
    go_enter Try.func153, Try.ntmps153
    (go_wp2_with fail; (with_reducible refine (H1 _ ((by repeat' (first | (with_reducible exact Ext.refl _) | (with_reducible assumption) | (with_reducible refine Ext.alloc ?_ _) | (with_reducible refine Ext.drew ?_) | (with_reducible refine Ext.drewN ?_ _) | (with_reducible refine Ext.setCell ?_ (by first | exact Nat.le_refl _ | (simp; done) | (simp; omega) | omega) _) | (with_reducible refine Ext.trans ?_ (by assumption)))))).mono ?_); rintro e w' ⟨rfl, hx⟩)
    go_wp2
    go_ret3
    exact ⟨v1, v2, rfl, by rw [HS.out]; exact H0.out.ext ((by repeat' (first | (with_reducible exact Ext.refl _) | (with_reducible assumption) | (with_reducible refine Ext.alloc ?_ _) | (with_reducible refine Ext.drew ?_) | (with_reducible refine Ext.drewN ?_ _) | (with_reducible refine Ext.setCell ?_ (by first | exact Nat.le_refl _ | (simp; done) | (simp; omega) | omega) _) | (with_reducible refine Ext.trans ?_ (by assumption))))), Moved.of_ext ((by repeat' (first | (with_reducible exact Ext.refl _) | (with_reducible assumption) | (with_reducible refine Ext.alloc ?_ _) | (with_reducible refine Ext.drew ?_) | (with_reducible refine Ext.drewN ?_ _) | (with_reducible refine Ext.setCell ?_ (by first | exact Nat.le_refl _ | (simp; done) | (simp; omega) | omega) _) | (with_reducible refine Ext.trans ?_ (by assumption))))) b _ _⟩

end Go.Proofs.Ytgjjngkmbplijaa
