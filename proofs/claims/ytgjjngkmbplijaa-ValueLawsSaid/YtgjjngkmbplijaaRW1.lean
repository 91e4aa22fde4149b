/- The document's world (ref04.World) in memory: rows of fixings and choices; what a step leaves as it was. -/
import Derived.Test.YtgjjngkmbplijaaLaw08
import Derived.Test.YtgjjngkmbplijaaCash3
namespace Go.Proofs.Ytgjjngkmbplijaa
open Go.RowKit
set_option linter.unusedSimpArgs false
set_option linter.unusedVariables false

def fxOf (x : (ByteArray × Int) × Int) : List Value := [.string x.1.1, .int .i64 x.1.2, .int .i64 x.2]
def ccOf (x : (ByteArray × ByteArray) × (Int × Int)) : List Value := [.string x.1.1, .string x.1.2, .int .i64 x.2.1, .int .i64 x.2.2]
def fxCells (F : FixL) : List Value := F.flatMap fxOf
def ccCells (C : ChL) : List Value := C.flatMap ccOf
theorem flat_at {α : Type} (f : α → List Value) (m : Nat) (hf : ∀ x, (f x).length = m) {l : List α} {j : Nat} {x : α} (h : l[j]? = some x) (i : Nat) (hi : i < m) : (l.flatMap f)[j * m + i]? = (f x)[i]? := by
  induction l generalizing j with
  | nil => simp at h
  | cons y r ih =>
    have hl := hf y
    cases j with
    | zero => simp at h; subst h; simp only [List.flatMap_cons, Nat.zero_mul, Nat.zero_add]; rw [List.getElem?_append_left (by omega)]
    | succ j =>
      simp only [List.getElem?_cons_succ] at h
      have := ih h
      simp only [List.flatMap_cons]
      rw [List.getElem?_append_right (by rw [hl, Nat.succ_mul]; omega), ← this]
      congr 1
      rw [hl, Nat.succ_mul]; omega
/-- The cells of the element at place j of a row of the call's own. -/
theorem flat_own {α : Type} (f : α → List Value) (m : Nat) (hf : ∀ x, (f x).length = m) {w : World} {base : Nat} {e : TypeId} {a : Option Addr} {c n : Nat} {l : List α} (h : w.ownsRow base e m (.slice a n c) n (l.flatMap f)) {j : Nat} {x : α} (hx : l[j]? = some x) (hj : j < n) :
    ∃ g, a = some ⟨g, 0, none⟩ ∧ ∀ i u, i < m → (f x)[i]? = some u → w.cell? ⟨g, j * m + i, none⟩ = some u := by
  obtain ⟨g, e1, _, _⟩ := own_at h hj
  refine ⟨g, e1, fun i u hi hu => ?_⟩
  obtain ⟨ad, e2, c0⟩ := (Rd.of_own h).2 (j * m + i) u (by rw [flat_at f m hf hx i hi]; exact hu)
  rw [e1] at e2
  injection e2 with e2
  subst e2
  simpa only [Addr.add_lit, Nat.zero_add] using c0
theorem fx_at {w : World} {base : Nat} {e : TypeId} {a : Option Addr} {c n : Nat} {l : FixL} (h : w.ownsRow base e 3 (.slice a n c) n (fxCells l)) {j : Nat} {x : (ByteArray × Int) × Int} (hx : l[j]? = some x) (hj : j < n) :
    ∃ g, a = some ⟨g, 0, none⟩ ∧ w.cell? ⟨g, j * 3, none⟩ = some (.string x.1.1) ∧ w.cell? ⟨g, j * 3 + 1, none⟩ = some (.int .i64 x.1.2) ∧ w.cell? ⟨g, j * 3 + 2, none⟩ = some (.int .i64 x.2) := by
  obtain ⟨g, e, H⟩ := flat_own fxOf 3 (fun _ => rfl) h hx hj
  exact ⟨g, e, H 0 _ (by omega) rfl, H 1 _ (by omega) rfl, H 2 _ (by omega) rfl⟩
theorem cc_at {w : World} {base : Nat} {e : TypeId} {a : Option Addr} {c n : Nat} {l : ChL} (h : w.ownsRow base e 4 (.slice a n c) n (ccCells l)) {j : Nat} {x : (ByteArray × ByteArray) × (Int × Int)} (hx : l[j]? = some x) (hj : j < n) :
    ∃ g, a = some ⟨g, 0, none⟩ ∧ w.cell? ⟨g, j * 4, none⟩ = some (.string x.1.1) ∧ w.cell? ⟨g, j * 4 + 1, none⟩ = some (.string x.1.2) ∧ w.cell? ⟨g, j * 4 + 2, none⟩ = some (.int .i64 x.2.1) ∧ w.cell? ⟨g, j * 4 + 3, none⟩ = some (.int .i64 x.2.2) := by
  obtain ⟨g, e, H⟩ := flat_own ccOf 4 (fun _ => rfl) h hx hj
  exact ⟨g, e, H 0 _ (by omega) rfl, H 1 _ (by omega) rfl, H 2 _ (by omega) rfl, H 3 _ (by omega) rfl⟩
theorem elemFx : Elem Try.prog 41 179 3 32 := elem_of (z := .agg #[.string ⟨#[]⟩, .int .i64 0, .int .i64 0]) (by kernel_rfl) (by kernel_rfl) rfl (by omega)
theorem elemCc : Elem Try.prog 42 181 4 48 := elem_of (z := .agg #[.string ⟨#[]⟩, .string ⟨#[]⟩, .int .i64 0, .int .i64 0]) (by kernel_rfl) (by kernel_rfl) rfl (by omega)

/-- At block p lies the document's world: F and C in rows of its own. -/
structure RWld (base : Nat) (w : World) (p : Nat) (v1 v2 : Value) (F : FixL) (C : ChL) : Prop where
  blk : w.heap[p]? = some (.cells #[v1, v2] 44 (0, 0))
  fl : w.ownsRow base 179 3 v1 F.length (fxCells F)
  ch : w.ownsRow base 181 4 v2 C.length (ccCells C)
  bb : base ≤ p
  n1 : v1.ownBlock ≠ some p
  n2 : v2.ownBlock ≠ some p
  n12 : v1.ownBlock = none ∨ v1.ownBlock ≠ v2.ownBlock
section
variable {base : Nat} {w w' w1 a : World} {p : Nat} {F : FixL} {C : ChL} {v1 v2 v1' v2' : Value}
theorem RWld.ext (h : RWld base w p v1 v2 F C) (k : Ext w w') : RWld base w' p v1 v2 F C := ⟨k.obj h.blk, k.own h.fl, k.own h.ch, h.bb, h.n1, h.n2, h.n12⟩
theorem RWld.lt (h : RWld base w p v1 v2 F C) : p < w.heap.size := lt_of_obj h.blk
theorem RWld.cells (h : RWld base w p v1 v2 F C) : w.cell? ⟨p, 0, none⟩ = some v1 ∧ w.cell? ⟨p, 1, none⟩ = some v2 ∧ (∀ o, w.frozen? ⟨p, o, none⟩ = false) := by
  obtain ⟨h1, h2, h3⟩ := obj_cells h.blk
  exact ⟨h1 0 _ rfl, h1 1 _ rfl, h2⟩
/-- Another block's turn leaves it as it is. -/
theorem RWld.grown (h : RWld base w p v1 v2 F C) {row : Nat} (hg : w.grownBy w' (some row)) (h0 : row ≠ p) (h1 : v1.ownBlock ≠ some row) (h2 : v2.ownBlock ≠ some row) : RWld base w' p v1 v2 F C :=
  ⟨by rw [hg.block p h.lt (by intro e; injection e with e; exact h0 e.symm)]; exact h.blk, h.fl.kept hg (.inr h1), h.ch.kept hg (.inr h2), h.bb, h.n1, h.n2, h.n12⟩
/-- What was there before is as it was. -/
theorem RWld.mext (h : RWld base w p v1 v2 F C) (m : Moved w w' p v1 v2 v1' v2') (ha : Ext a w) (hb : a.heap.size ≤ base) : Ext a w' := by
  have hs := ha.size
  refine ⟨m.os.trans ha.os, m.tape.trans ha.tape, m.output.trans ha.output, Nat.le_trans hs m.size, fun i hi => ?_⟩
  refine (m.block i (by omega) (by have := h.bb; omega) ?_ ?_).trans (ha.block hi)
  · intro e; have := (h.fl.lt i e).1; omega
  · intro e; have := (h.ch.lt i e).1; omega
theorem RWld.put1 (h : RWld base w p v1 v2 F C) {A' : Option Addr} {C' : Nat} (x : (ByteArray × Int) × Int) (hown : w1.ownsRow base 179 3 (.slice A' (F.length + 1) C') (F.length + 1) (fxCells F ++ fxOf x)) (hg : w.grownBy w1 v1.ownBlock)
    (hat : (Value.slice A' (F.length + 1) C').ownBlock = v1.ownBlock ∨ (Value.slice A' (F.length + 1) C').ownBlock = some w.heap.size) :
    RWld base (w1.setCell ⟨p, 0, none⟩ (.slice A' (F.length + 1) C')) p (.slice A' (F.length + 1) C') v2 (F ++ [x]) C ∧ Moved w (w1.setCell ⟨p, 0, none⟩ (.slice A' (F.length + 1) C')) p v1 v2 (.slice A' (F.length + 1) C') v2 := by
  have hbl := h.lt
  have hb1 : w1.heap[p]? = some (.cells #[v1, v2] 44 (0, 0)) := by rw [hg.block p hbl (fun e => h.n1 e.symm)]; exact h.blk
  have hset := setC_grown w1 p 0 (.slice A' (F.length + 1) C')
  have hne1 : (Value.slice A' (F.length + 1) C').ownBlock ≠ some p := by
    rcases hat with e | e <;> rw [e]
    · exact h.n1
    · intro e'; injection e' with e'; omega
  refine ⟨⟨?_, ?_, ?_, h.bb, hne1, h.n2, ?_⟩, ⟨?_, ?_, ?_, ?_, ?_, ?_, .inl rfl⟩⟩
  · rw [setC_block w1 p 0 _ hb1]; rfl
  · have := hown.kept hset (.inr hne1)
    rw [show fxCells (F ++ [x]) = fxCells F ++ fxOf x by simp [fxCells], List.length_append]
    exact this
  · refine (h.ch.kept hg ?_).kept hset (.inr h.n2)
    cases hv : v2.ownBlock with
    | none => exact .inl rfl
    | some k =>
      right
      rcases h.n12 with e | e
      · rw [e]; simp
      · rw [hv] at e; exact fun e' => e e'.symm
  · rcases hat with e | e <;> rw [e]
    · exact h.n12
    · right
      intro e'
      have := (h.ch.lt _ e'.symm).2
      omega
  · exact hset.os.trans hg.os
  · exact hset.tape.trans hg.tape
  · exact hset.output.trans hg.output
  · exact Nat.le_trans hg.size hset.size
  · intro k hk h1 h2 h3
    rw [hset.block k (Nat.lt_of_lt_of_le hk hg.size) (by intro e; injection e with e; exact h1 e), hg.block k hk (fun e => h2 e.symm)]
  · rcases hat with e | e
    · exact .inl e
    · exact .inr ⟨_, e, Nat.le_refl _⟩
theorem RWld.put2 (h : RWld base w p v1 v2 F C) {A' : Option Addr} {C' : Nat} (x : (ByteArray × ByteArray) × (Int × Int)) (hown : w1.ownsRow base 181 4 (.slice A' (C.length + 1) C') (C.length + 1) (ccCells C ++ ccOf x)) (hg : w.grownBy w1 v2.ownBlock)
    (hat : (Value.slice A' (C.length + 1) C').ownBlock = v2.ownBlock ∨ (Value.slice A' (C.length + 1) C').ownBlock = some w.heap.size) :
    RWld base (w1.setCell ⟨p, 1, none⟩ (.slice A' (C.length + 1) C')) p v1 (.slice A' (C.length + 1) C') F (C ++ [x]) ∧ Moved w (w1.setCell ⟨p, 1, none⟩ (.slice A' (C.length + 1) C')) p v1 v2 v1 (.slice A' (C.length + 1) C') := by
  have hbl := h.lt
  have hb1 : w1.heap[p]? = some (.cells #[v1, v2] 44 (0, 0)) := by rw [hg.block p hbl (fun e => h.n2 e.symm)]; exact h.blk
  have hset := setC_grown w1 p 1 (.slice A' (C.length + 1) C')
  have hne1 : (Value.slice A' (C.length + 1) C').ownBlock ≠ some p := by
    rcases hat with e | e <;> rw [e]
    · exact h.n2
    · intro e'; injection e' with e'; omega
  refine ⟨⟨?_, ?_, ?_, h.bb, h.n1, hne1, ?_⟩, ⟨?_, ?_, ?_, ?_, ?_, .inl rfl, ?_⟩⟩
  · rw [setC_block w1 p 1 _ hb1]; rfl
  · refine (h.fl.kept hg ?_).kept hset (.inr h.n1)
    exact h.n12
  · have := hown.kept hset (.inr hne1)
    rw [show ccCells (C ++ [x]) = ccCells C ++ ccOf x by simp [ccCells], List.length_append]
    exact this
  · rcases hat with e | e <;> rw [e]
    · exact h.n12
    · cases hv : v1.ownBlock with
      | none => exact .inl rfl
      | some k =>
        right
        intro e'
        injection e' with e'
        have := (h.fl.lt _ hv).2
        omega
  · exact hset.os.trans hg.os
  · exact hset.tape.trans hg.tape
  · exact hset.output.trans hg.output
  · exact Nat.le_trans hg.size hset.size
  · intro k hk h1 h2 h3
    rw [hset.block k (Nat.lt_of_lt_of_le hk hg.size) (by intro e; injection e with e; exact h1 e), hg.block k hk (fun e => h3 e.symm)]
  · rcases hat with e | e
    · exact .inl e
    · exact .inr ⟨_, e, Nat.le_refl _⟩
theorem RWld.new (w : World) (base : Nat) (hb : base ≤ w.heap.size) : RWld base (w.alloc (.cells #[.slice none 0 0, .slice none 0 0] 44)) w.heap.size (.slice none 0 0) (.slice none 0 0) [] [] :=
  ⟨heap_new w _, World.ownsRow_nil _ _ _ _, World.ownsRow_nil _ _ _ _, hb, by simp [Value.ownBlock], by simp [Value.ownBlock], .inl (by simp [Value.ownBlock])⟩
/-- A world that lies elsewhere is as it was behind a step of the document's. -/
theorem Wld.moved {q f c : Nat} {F' : FixL} {C' : ChL} (h : Wld w q f c F' C') (m : Moved w w' p v1 v2 v1' v2') (hd : ∀ k, k = q ∨ k = f ∨ k = c → k ≠ p ∧ v1.ownBlock ≠ some k ∧ v2.ownBlock ≠ some k) : Wld w' q f c F' C' := by
  obtain ⟨h1, h2, h3⟩ := h.lts
  refine h.keep fun k hk => ?_
  obtain ⟨d1, d2, d3⟩ := hd k hk
  exact m.block k (by rcases hk with rfl | rfl | rfl <;> assumption) d1 d2 d3
end

/-- A number comes back, and what the document's world is then. -/
def RetR (base : Nat) (w : World) (p : Nat) (v1 v2 : Value) (r : Int) (F : FixL) (C : ChL) (e : Ending) (w' : World) : Prop :=
  ∃ v1' v2', e = .returned (.int .i64 r) ∧ RWld base w' p v1' v2' F C ∧ Moved w w' p v1 v2 v1' v2'
theorem RetR.same {base : Nat} {w w' : World} {p : Nat} {v1 v2 : Value} {r : Int} {F : FixL} {C : ChL} (h : RWld base w p v1 v2 F C) (k : Ext w w') : RetR base w p v1 v2 r F C (.returned (.int .i64 r)) w' :=
  ⟨v1, v2, rfl, h.ext k, Moved.of_ext k p v1 v2⟩

/-- Looking from the front on. -/
theorem lookup_take {α β : Type} [BEq α] {l : List (α × β)} {j : Nat} {x : α × β} (h : l[j]? = some x) (a : α) : (l.take (j + 1)).lookup a = ((l.take j).lookup a).or (if (a == x.1) = true then some x.2 else none) := by
  rw [List.take_add_one, h]
  simp only [Option.toList_some]
  induction (l.take j) with
  | nil => simp [List.lookup]; cases a == x.1 <;> rfl
  | cons y r ih => simp only [List.cons_append, List.lookup]; cases a == y.1 <;> simp [ih]
theorem lookup_front {α β : Type} [BEq α] {l : List (α × β)} {j : Nat} {b : β} {a : α} (h : (l.take j).lookup a = some b) : l.lookup a = some b := by
  have key : ∀ (q r : List (α × β)), q.lookup a = some b → (q ++ r).lookup a = some b := by
    intro q r
    induction q with
    | nil => intro h; cases h
    | cons y t ih =>
      intro h
      simp only [List.cons_append, List.lookup] at h ⊢
      cases hb : a == y.1 with
      | true => rw [hb] at h; exact h
      | false => rw [hb] at h; exact ih h
  have := key _ (l.drop j) h
  rwa [List.take_append_drop] at this

end Go.Proofs.Ytgjjngkmbplijaa
