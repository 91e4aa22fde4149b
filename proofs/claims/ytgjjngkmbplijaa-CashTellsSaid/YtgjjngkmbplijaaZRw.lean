/- Texts put together: RW1, RW2, RW3, RW4, RW5. -/
import Derived.Test.YtgjjngkmbplijaaYLaw08
import Derived.Test.YtgjjngkmbplijaaZC1
/- The document's world (ref04.World) in memory: rows of fixings and choices; what a step leaves as it was. -/
namespace Go.Proofs.Ytgjjngkmbplijaa
open Go.RowKit
set_option linter.unusedSimpArgs false
set_option linter.unusedVariables false

def fxOf (x : (ByteArray × Int) × Int) : List Value := [.string x.1.1, .int .i64 x.1.2, .int .i64 x.2]
def ccOf (x : (ByteArray × ByteArray) × (Int × Int)) : List Value := [.string x.1.1, .string x.1.2, .int .i64 x.2.1, .int .i64 x.2.2]
def fxCells (F : FixL) : List Value := F.flatMap fxOf
def ccCells (C : ChL) : List Value := C.flatMap ccOf
theorem flat_at {α : Type} (f : α → List Value) (m : Nat) (hf : ∀ x, (f x).length = m) {l : List α} {j : Nat} {x : α} (h : l[j]? = some x) (i : Nat) (hi : i < m) : (l.flatMap f)[j * m + i]? = (f x)[i]? := by
  induction l generalizing j with
  | nil => simp at h
  | cons y r ih =>
    have hl := hf y
    cases j with
    | zero => simp at h; subst h; simp only [List.flatMap_cons, Nat.zero_mul, Nat.zero_add]; rw [List.getElem?_append_left (by omega)]
    | succ j =>
      simp only [List.getElem?_cons_succ] at h
      have := ih h
      simp only [List.flatMap_cons]
      rw [List.getElem?_append_right (by rw [hl, Nat.succ_mul]; omega), ← this]
      congr 1
      rw [hl, Nat.succ_mul]; omega
/-- The cells of the element at place j of a row of the call's own. -/
theorem flat_own {α : Type} (f : α → List Value) (m : Nat) (hf : ∀ x, (f x).length = m) {w : World} {base : Nat} {e : TypeId} {a : Option Addr} {c n : Nat} {l : List α} (h : w.ownsRow base e m (.slice a n c) n (l.flatMap f)) {j : Nat} {x : α} (hx : l[j]? = some x) (hj : j < n) :
    ∃ g, a = some ⟨g, 0, none⟩ ∧ ∀ i u, i < m → (f x)[i]? = some u → w.cell? ⟨g, j * m + i, none⟩ = some u := by
  obtain ⟨g, e1, _, _⟩ := own_at h hj
  refine ⟨g, e1, fun i u hi hu => ?_⟩
  obtain ⟨ad, e2, c0⟩ := (Rd.of_own h).2 (j * m + i) u (by rw [flat_at f m hf hx i hi]; exact hu)
  rw [e1] at e2
  injection e2 with e2
  subst e2
  simpa only [Addr.add_lit, Nat.zero_add] using c0
theorem fx_at {w : World} {base : Nat} {e : TypeId} {a : Option Addr} {c n : Nat} {l : FixL} (h : w.ownsRow base e 3 (.slice a n c) n (fxCells l)) {j : Nat} {x : (ByteArray × Int) × Int} (hx : l[j]? = some x) (hj : j < n) :
    ∃ g, a = some ⟨g, 0, none⟩ ∧ w.cell? ⟨g, j * 3, none⟩ = some (.string x.1.1) ∧ w.cell? ⟨g, j * 3 + 1, none⟩ = some (.int .i64 x.1.2) ∧ w.cell? ⟨g, j * 3 + 2, none⟩ = some (.int .i64 x.2) := by
  obtain ⟨g, e, H⟩ := flat_own fxOf 3 (fun _ => rfl) h hx hj
  exact ⟨g, e, H 0 _ (by omega) rfl, H 1 _ (by omega) rfl, H 2 _ (by omega) rfl⟩
theorem cc_at {w : World} {base : Nat} {e : TypeId} {a : Option Addr} {c n : Nat} {l : ChL} (h : w.ownsRow base e 4 (.slice a n c) n (ccCells l)) {j : Nat} {x : (ByteArray × ByteArray) × (Int × Int)} (hx : l[j]? = some x) (hj : j < n) :
    ∃ g, a = some ⟨g, 0, none⟩ ∧ w.cell? ⟨g, j * 4, none⟩ = some (.string x.1.1) ∧ w.cell? ⟨g, j * 4 + 1, none⟩ = some (.string x.1.2) ∧ w.cell? ⟨g, j * 4 + 2, none⟩ = some (.int .i64 x.2.1) ∧ w.cell? ⟨g, j * 4 + 3, none⟩ = some (.int .i64 x.2.2) := by
  obtain ⟨g, e, H⟩ := flat_own ccOf 4 (fun _ => rfl) h hx hj
  exact ⟨g, e, H 0 _ (by omega) rfl, H 1 _ (by omega) rfl, H 2 _ (by omega) rfl, H 3 _ (by omega) rfl⟩
theorem elemFx : Elem Try.prog 41 179 3 32 := elem_of (z := .agg #[.string ⟨#[]⟩, .int .i64 0, .int .i64 0]) (by kernel_rfl) (by kernel_rfl) rfl (by omega)
theorem elemCc : Elem Try.prog 42 181 4 48 := elem_of (z := .agg #[.string ⟨#[]⟩, .string ⟨#[]⟩, .int .i64 0, .int .i64 0]) (by kernel_rfl) (by kernel_rfl) rfl (by omega)

/-- At block p lies the document's world: F and C in rows of its own. -/
structure RWld (base : Nat) (w : World) (p : Nat) (v1 v2 : Value) (F : FixL) (C : ChL) : Prop where
  blk : w.heap[p]? = some (.cells #[v1, v2] 44 (0, 0))
  fl : w.ownsRow base 179 3 v1 F.length (fxCells F)
  ch : w.ownsRow base 181 4 v2 C.length (ccCells C)
  bb : base ≤ p
  n1 : v1.ownBlock ≠ some p
  n2 : v2.ownBlock ≠ some p
  n12 : v1.ownBlock = none ∨ v1.ownBlock ≠ v2.ownBlock
section
variable {base : Nat} {w w' w1 a : World} {p : Nat} {F : FixL} {C : ChL} {v1 v2 v1' v2' : Value}
theorem RWld.ext (h : RWld base w p v1 v2 F C) (k : Ext w w') : RWld base w' p v1 v2 F C := ⟨k.obj h.blk, k.own h.fl, k.own h.ch, h.bb, h.n1, h.n2, h.n12⟩
theorem RWld.lt (h : RWld base w p v1 v2 F C) : p < w.heap.size := lt_of_obj h.blk
theorem RWld.cells (h : RWld base w p v1 v2 F C) : w.cell? ⟨p, 0, none⟩ = some v1 ∧ w.cell? ⟨p, 1, none⟩ = some v2 ∧ (∀ o, w.frozen? ⟨p, o, none⟩ = false) := by
  obtain ⟨h1, h2, h3⟩ := obj_cells h.blk
  exact ⟨h1 0 _ rfl, h1 1 _ rfl, h2⟩
/-- Another block's turn leaves it as it is. -/
theorem RWld.grown (h : RWld base w p v1 v2 F C) {row : Nat} (hg : w.grownBy w' (some row)) (h0 : row ≠ p) (h1 : v1.ownBlock ≠ some row) (h2 : v2.ownBlock ≠ some row) : RWld base w' p v1 v2 F C :=
  ⟨by rw [hg.block p h.lt (by intro e; injection e with e; exact h0 e.symm)]; exact h.blk, h.fl.kept hg (.inr h1), h.ch.kept hg (.inr h2), h.bb, h.n1, h.n2, h.n12⟩
/-- What was there before is as it was. -/
theorem RWld.mext (h : RWld base w p v1 v2 F C) (m : Moved w w' p v1 v2 v1' v2') (ha : Ext a w) (hb : a.heap.size ≤ base) : Ext a w' := by
  have hs := ha.size
  refine ⟨m.os.trans ha.os, m.tape.trans ha.tape, m.output.trans ha.output, Nat.le_trans hs m.size, fun i hi => ?_⟩
  refine (m.block i (by omega) (by have := h.bb; omega) ?_ ?_).trans (ha.block hi)
  · intro e; have := (h.fl.lt i e).1; omega
  · intro e; have := (h.ch.lt i e).1; omega
theorem RWld.put1 (h : RWld base w p v1 v2 F C) {A' : Option Addr} {C' : Nat} (x : (ByteArray × Int) × Int) (hown : w1.ownsRow base 179 3 (.slice A' (F.length + 1) C') (F.length + 1) (fxCells F ++ fxOf x)) (hg : w.grownBy w1 v1.ownBlock)
    (hat : (Value.slice A' (F.length + 1) C').ownBlock = v1.ownBlock ∨ (Value.slice A' (F.length + 1) C').ownBlock = some w.heap.size) :
    RWld base (w1.setCell ⟨p, 0, none⟩ (.slice A' (F.length + 1) C')) p (.slice A' (F.length + 1) C') v2 (F ++ [x]) C ∧ Moved w (w1.setCell ⟨p, 0, none⟩ (.slice A' (F.length + 1) C')) p v1 v2 (.slice A' (F.length + 1) C') v2 := by
  have hbl := h.lt
  have hb1 : w1.heap[p]? = some (.cells #[v1, v2] 44 (0, 0)) := by rw [hg.block p hbl (fun e => h.n1 e.symm)]; exact h.blk
  have hset := setC_grown w1 p 0 (.slice A' (F.length + 1) C')
  have hne1 : (Value.slice A' (F.length + 1) C').ownBlock ≠ some p := by
    rcases hat with e | e <;> rw [e]
    · exact h.n1
    · intro e'; injection e' with e'; omega
  refine ⟨⟨?_, ?_, ?_, h.bb, hne1, h.n2, ?_⟩, ⟨?_, ?_, ?_, ?_, ?_, ?_, .inl rfl⟩⟩
  · rw [setC_block w1 p 0 _ hb1]; rfl
  · have := hown.kept hset (.inr hne1)
    rw [show fxCells (F ++ [x]) = fxCells F ++ fxOf x by simp [fxCells], List.length_append]
    exact this
  · refine (h.ch.kept hg ?_).kept hset (.inr h.n2)
    cases hv : v2.ownBlock with
    | none => exact .inl rfl
    | some k =>
      right
      rcases h.n12 with e | e
      · rw [e]; simp
      · rw [hv] at e; exact fun e' => e e'.symm
  · rcases hat with e | e <;> rw [e]
    · exact h.n12
    · right
      intro e'
      have := (h.ch.lt _ e'.symm).2
      omega
  · exact hset.os.trans hg.os
  · exact hset.tape.trans hg.tape
  · exact hset.output.trans hg.output
  · exact Nat.le_trans hg.size hset.size
  · intro k hk h1 h2 h3
    rw [hset.block k (Nat.lt_of_lt_of_le hk hg.size) (by intro e; injection e with e; exact h1 e), hg.block k hk (fun e => h2 e.symm)]
  · rcases hat with e | e
    · exact .inl e
    · exact .inr ⟨_, e, Nat.le_refl _⟩
theorem RWld.put2 (h : RWld base w p v1 v2 F C) {A' : Option Addr} {C' : Nat} (x : (ByteArray × ByteArray) × (Int × Int)) (hown : w1.ownsRow base 181 4 (.slice A' (C.length + 1) C') (C.length + 1) (ccCells C ++ ccOf x)) (hg : w.grownBy w1 v2.ownBlock)
    (hat : (Value.slice A' (C.length + 1) C').ownBlock = v2.ownBlock ∨ (Value.slice A' (C.length + 1) C').ownBlock = some w.heap.size) :
    RWld base (w1.setCell ⟨p, 1, none⟩ (.slice A' (C.length + 1) C')) p v1 (.slice A' (C.length + 1) C') F (C ++ [x]) ∧ Moved w (w1.setCell ⟨p, 1, none⟩ (.slice A' (C.length + 1) C')) p v1 v2 v1 (.slice A' (C.length + 1) C') := by
  have hbl := h.lt
  have hb1 : w1.heap[p]? = some (.cells #[v1, v2] 44 (0, 0)) := by rw [hg.block p hbl (fun e => h.n2 e.symm)]; exact h.blk
  have hset := setC_grown w1 p 1 (.slice A' (C.length + 1) C')
  have hne1 : (Value.slice A' (C.length + 1) C').ownBlock ≠ some p := by
    rcases hat with e | e <;> rw [e]
    · exact h.n2
    · intro e'; injection e' with e'; omega
  refine ⟨⟨?_, ?_, ?_, h.bb, h.n1, hne1, ?_⟩, ⟨?_, ?_, ?_, ?_, ?_, .inl rfl, ?_⟩⟩
  · rw [setC_block w1 p 1 _ hb1]; rfl
  · refine (h.fl.kept hg ?_).kept hset (.inr h.n1)
    exact h.n12
  · have := hown.kept hset (.inr hne1)
    rw [show ccCells (C ++ [x]) = ccCells C ++ ccOf x by simp [ccCells], List.length_append]
    exact this
  · rcases hat with e | e <;> rw [e]
    · exact h.n12
    · cases hv : v1.ownBlock with
      | none => exact .inl rfl
      | some k =>
        right
        intro e'
        injection e' with e'
        have := (h.fl.lt _ hv).2
        omega
  · exact hset.os.trans hg.os
  · exact hset.tape.trans hg.tape
  · exact hset.output.trans hg.output
  · exact Nat.le_trans hg.size hset.size
  · intro k hk h1 h2 h3
    rw [hset.block k (Nat.lt_of_lt_of_le hk hg.size) (by intro e; injection e with e; exact h1 e), hg.block k hk (fun e => h3 e.symm)]
  · rcases hat with e | e
    · exact .inl e
    · exact .inr ⟨_, e, Nat.le_refl _⟩
theorem RWld.new (w : World) (base : Nat) (hb : base ≤ w.heap.size) : RWld base (w.alloc (.cells #[.slice none 0 0, .slice none 0 0] 44)) w.heap.size (.slice none 0 0) (.slice none 0 0) [] [] :=
  ⟨heap_new w _, World.ownsRow_nil _ _ _ _, World.ownsRow_nil _ _ _ _, hb, by simp [Value.ownBlock], by simp [Value.ownBlock], .inl (by simp [Value.ownBlock])⟩
/-- A world that lies elsewhere is as it was behind a step of the document's. -/
theorem Wld.moved {q f c : Nat} {F' : FixL} {C' : ChL} (h : Wld w q f c F' C') (m : Moved w w' p v1 v2 v1' v2') (hd : ∀ k, k = q ∨ k = f ∨ k = c → k ≠ p ∧ v1.ownBlock ≠ some k ∧ v2.ownBlock ≠ some k) : Wld w' q f c F' C' := by
  obtain ⟨h1, h2, h3⟩ := h.lts
  refine h.keep fun k hk => ?_
  obtain ⟨d1, d2, d3⟩ := hd k hk
  exact m.block k (by rcases hk with rfl | rfl | rfl <;> assumption) d1 d2 d3
end

/-- A number comes back, and what the document's world is then. -/
def RetR (base : Nat) (w : World) (p : Nat) (v1 v2 : Value) (r : Int) (F : FixL) (C : ChL) (e : Ending) (w' : World) : Prop :=
  ∃ v1' v2', e = .returned (.int .i64 r) ∧ RWld base w' p v1' v2' F C ∧ Moved w w' p v1 v2 v1' v2'
theorem RetR.same {base : Nat} {w w' : World} {p : Nat} {v1 v2 : Value} {r : Int} {F : FixL} {C : ChL} (h : RWld base w p v1 v2 F C) (k : Ext w w') : RetR base w p v1 v2 r F C (.returned (.int .i64 r)) w' :=
  ⟨v1, v2, rfl, h.ext k, Moved.of_ext k p v1 v2⟩

/-- Looking from the front on. -/
theorem lookup_take {α β : Type} [BEq α] {l : List (α × β)} {j : Nat} {x : α × β} (h : l[j]? = some x) (a : α) : (l.take (j + 1)).lookup a = ((l.take j).lookup a).or (if (a == x.1) = true then some x.2 else none) := by
  rw [List.take_add_one, h]
  simp only [Option.toList_some]
  induction (l.take j) with
  | nil => simp [List.lookup]; cases a == x.1 <;> rfl
  | cons y r ih => simp only [List.cons_append, List.lookup]; cases a == y.1 <;> simp [ih]
theorem lookup_front {α β : Type} [BEq α] {l : List (α × β)} {j : Nat} {b : β} {a : α} (h : (l.take j).lookup a = some b) : l.lookup a = some b := by
  have key : ∀ (q r : List (α × β)), q.lookup a = some b → (q ++ r).lookup a = some b := by
    intro q r
    induction q with
    | nil => intro h; cases h
    | cons y t ih =>
      intro h
      simp only [List.cons_append, List.lookup] at h ⊢
      cases hb : a == y.1 with
      | true => rw [hb] at h; exact h
      | false => rw [hb] at h; exact ih h
  have := key _ (l.drop j) h
  rwa [List.take_append_drop] at this

end Go.Proofs.Ytgjjngkmbplijaa

/- The document's world (ref04.World): Fixed, Chosen. -/
namespace Go.Proofs.Ytgjjngkmbplijaa
open Go.RowKit
set_option linter.unusedSimpArgs false
set_option linter.unusedVariables false

theorem pair_beq {α β : Type} [BEq α] [BEq β] (a c : α) (b d : β) : ((a, b) == (c, d)) = (a == c && b == d) := rfl
/-- Two texts: the same, or not, as the walk spells it. -/
theorem text_ways (x s : ByteArray) : x = s ∨ ((x.toList == s.toList) = false ∧ (s == x) = false) := by
  by_cases h : x = s
  · exact .inl h
  · exact .inr ⟨by rw [bytes_beq]; exact beq_eq_false_iff_ne.2 h, beq_eq_false_iff_ne.2 (fun e => h e.symm)⟩
theorem int_ways (x d : Int) : x = d ∨ ((x == d) = false ∧ (d == x) = false) := by
  by_cases h : x = d
  · exact .inl h
  · exact .inr ⟨beq_eq_false_iff_ne.2 h, beq_eq_false_iff_ne.2 (fun e => h e.symm)⟩

set_option maxRecDepth 100000 in
set_option maxHeartbeats 1600000 in
theorem rfixed_calls (base : Nat) (w : World) (p : Nat) (v1 v2 : Value) (F : FixL) (C : ChL) (s : ByteArray) (d : Int) (h : RWld base w p v1 v2 F C) (hl : F.length ≤ 2 ^ 33) :
    Calls Try.prog 44 #[.pointer (some ⟨p, 0, none⟩), .string s, .int .i64 d] w fun e w' => e = .returned (.tuple #[.int .i64 ((F.lookup (s, d)).getD 0), .bool (F.lookup (s, d)).isSome]) ∧ Ext w w' := by
  obtain ⟨k0, k1, kf⟩ := h.cells
  obtain ⟨A, C1, rfl, hA1, hA2⟩ := own_form h.fl
  have H := Lib.hid h.fl
  unfold maxLen at hA2
  generalize hq : F.lookup (s, d) = q
  have Hq := Lib.hid hq
  clear hq h
  go_enter Try.func44, Try.ntmps44
  go_wp2_with fail
  go_loopw [15] (fun i wr => ∃ j : Nat, j ≤ F.length ∧ i = .int .i64 j ∧ (F.take j).lookup (s, d) = none ∧ Ext w wr) (fun i _ => F.length - (intOf i).toNat)
  case atStart => exact ⟨0, by omega, rfl, rfl, Ext.refl _⟩
  case round =>
    obtain ⟨j, hj, rfl, hno, hx⟩ := hrel
    by_cases hlt : j < F.length
    · have e1 : F[j]? = some F[j] := List.getElem?_eq_getElem hlt
      generalize F[j] = x at e1
      obtain ⟨g, rfl, c0, c1, c2⟩ := fx_at (hx.own H.out) e1 hlt
      have hs := lookup_take e1 (s, d)
      rw [hno, pair_beq] at hs
      have hf := fun b => lookup_front (l := F) (j := j + 1) (a := (s, d)) (b := b)
      obtain ⟨⟨xs, xd⟩, xv⟩ := x
      simp only [Option.none_or] at c0 c1 c2 hs
      have hj0 := Lib.hid (show j + 1 ≤ F.length from hlt)
      have hx0 := Lib.hid hx
      have hji : (j : Int) < (F.length : Int) := by omega
      have hji0 : (0 : Int) ≤ (j : Int) := by omega
      clear e1 hno hx
      rcases text_ways xs s with rfl | ⟨t1, t2⟩
      · rcases int_ways xd d with rfl | ⟨t3, t4⟩
        · have hv := Lib.hid (hf xv (by rw [hs]; simp))
          clear hs hf
          go_wp2
          go_ret2
          exact ⟨by rw [← Hq.out, hv.out]; rfl, hx0.out.trans ((by repeat' (first | (with_reducible exact Ext.refl _) | (with_reducible assumption) | (with_reducible refine Ext.alloc ?_ _) | (with_reducible refine Ext.drew ?_) | (with_reducible refine Ext.drewN ?_ _) | (with_reducible refine Ext.setCell ?_ (by first | exact Nat.le_refl _ | (simp; done) | (simp; omega) | omega) _) | (with_reducible refine Ext.trans ?_ (by assumption)))))⟩
        · have hs := Lib.hid (show List.lookup (xs, d) (F.take (j + 1)) = none by rw [hs, t4]; simp)
          clear hf t4
          go_wp2_with fail
          go_roundw
          case rel => exact ⟨j + 1, hj0.out, by go_num, hs.out, hx0.out.trans ((by repeat' (first | (with_reducible exact Ext.refl _) | (with_reducible assumption) | (with_reducible refine Ext.alloc ?_ _) | (with_reducible refine Ext.drew ?_) | (with_reducible refine Ext.drewN ?_ _) | (with_reducible refine Ext.setCell ?_ (by first | exact Nat.le_refl _ | (simp; done) | (simp; omega) | omega) _) | (with_reducible refine Ext.trans ?_ (by assumption)))))⟩
          case measure => simp [intOf]; omega
      · have hs := Lib.hid (show List.lookup (s, d) (F.take (j + 1)) = none by rw [hs, t2]; simp)
        clear hf t2
        go_wp2_with fail
        go_roundw
        case rel => exact ⟨j + 1, hj0.out, by go_num, hs.out, hx0.out.trans ((by repeat' (first | (with_reducible exact Ext.refl _) | (with_reducible assumption) | (with_reducible refine Ext.alloc ?_ _) | (with_reducible refine Ext.drew ?_) | (with_reducible refine Ext.drewN ?_ _) | (with_reducible refine Ext.setCell ?_ (by first | exact Nat.le_refl _ | (simp; done) | (simp; omega) | omega) _) | (with_reducible refine Ext.trans ?_ (by assumption)))))⟩
        case measure => simp [intOf]; omega
    · obtain rfl : j = F.length := by omega
      rw [List.take_length] at hno
      rw [hno] at Hq
      have hx0 := Lib.hid hx
      clear hx hno
      go_wp2
      go_ret2
      exact ⟨by rw [← Hq.out]; rfl, hx0.out⟩

set_option maxRecDepth 100000 in
set_option maxHeartbeats 1600000 in
theorem rchosen_calls (base : Nat) (w : World) (p : Nat) (v1 v2 : Value) (F : FixL) (C : ChL) (s d : ByteArray) (h : RWld base w p v1 v2 F C) (hl : C.length ≤ 2 ^ 33) :
    Calls Try.prog 45 #[.pointer (some ⟨p, 0, none⟩), .string s, .string d] w fun e w' => e = Ret3 ((C.lookup (s, d)).getD (0, 0)).1 ((C.lookup (s, d)).getD (0, 0)).2 (C.lookup (s, d)).isSome ∧ Ext w w' := by
  obtain ⟨k0, k1, kf⟩ := h.cells
  obtain ⟨A, C1, rfl, hA1, hA2⟩ := own_form h.ch
  have H := Lib.hid h.ch
  unfold maxLen at hA2
  generalize hq : C.lookup (s, d) = q
  have Hq := Lib.hid hq
  clear hq h
  go_enter Try.func45, Try.ntmps45
  go_wp2_with fail
  go_loopw [16] (fun i wr => ∃ j : Nat, j ≤ C.length ∧ i = .int .i64 j ∧ (C.take j).lookup (s, d) = none ∧ Ext w wr) (fun i _ => C.length - (intOf i).toNat)
  case atStart => exact ⟨0, by omega, rfl, rfl, Ext.refl _⟩
  case round =>
    obtain ⟨j, hj, rfl, hno, hx⟩ := hrel
    by_cases hlt : j < C.length
    · have e1 : C[j]? = some C[j] := List.getElem?_eq_getElem hlt
      generalize C[j] = x at e1
      obtain ⟨g, rfl, c0, c1, c2, c3⟩ := cc_at (hx.own H.out) e1 hlt
      have hs := lookup_take e1 (s, d)
      rw [hno, pair_beq] at hs
      have hf := fun b => lookup_front (l := C) (j := j + 1) (a := (s, d)) (b := b)
      obtain ⟨⟨xs, xd⟩, ⟨xv, xe⟩⟩ := x
      simp only [Option.none_or] at c0 c1 c2 c3 hs
      have hj0 := Lib.hid (show j + 1 ≤ C.length from hlt)
      have hx0 := Lib.hid hx
      have hji : (j : Int) < (C.length : Int) := by omega
      have hji0 : (0 : Int) ≤ (j : Int) := by omega
      clear e1 hno hx
      rcases text_ways xs s with rfl | ⟨t1, t2⟩
      · rcases text_ways xd d with rfl | ⟨t3, t4⟩
        · have hv := Lib.hid (hf (xv, xe) (by rw [hs]; simp))
          clear hs hf
          go_wp2_with fail
          go_quiet (fail)
          go_wp2
          go_ret3
          exact ⟨by rw [← Hq.out, hv.out]; rfl, hx0.out.trans ((by repeat' (first | (with_reducible exact Ext.refl _) | (with_reducible assumption) | (with_reducible refine Ext.alloc ?_ _) | (with_reducible refine Ext.drew ?_) | (with_reducible refine Ext.drewN ?_ _) | (with_reducible refine Ext.setCell ?_ (by first | exact Nat.le_refl _ | (simp; done) | (simp; omega) | omega) _) | (with_reducible refine Ext.trans ?_ (by assumption)))))⟩
        · have hs := Lib.hid (show List.lookup (xs, d) (C.take (j + 1)) = none by rw [hs, t4]; simp)
          clear hf t4
          go_wp2_with fail
          go_roundw
          case rel => exact ⟨j + 1, hj0.out, by go_num, hs.out, hx0.out.trans ((by repeat' (first | (with_reducible exact Ext.refl _) | (with_reducible assumption) | (with_reducible refine Ext.alloc ?_ _) | (with_reducible refine Ext.drew ?_) | (with_reducible refine Ext.drewN ?_ _) | (with_reducible refine Ext.setCell ?_ (by first | exact Nat.le_refl _ | (simp; done) | (simp; omega) | omega) _) | (with_reducible refine Ext.trans ?_ (by assumption)))))⟩
          case measure => simp [intOf]; omega
      · have hs := Lib.hid (show List.lookup (s, d) (C.take (j + 1)) = none by rw [hs, t2]; simp)
        clear hf t2
        go_wp2_with fail
        go_roundw
        case rel => exact ⟨j + 1, hj0.out, by go_num, hs.out, hx0.out.trans ((by repeat' (first | (with_reducible exact Ext.refl _) | (with_reducible assumption) | (with_reducible refine Ext.alloc ?_ _) | (with_reducible refine Ext.drew ?_) | (with_reducible refine Ext.drewN ?_ _) | (with_reducible refine Ext.setCell ?_ (by first | exact Nat.le_refl _ | (simp; done) | (simp; omega) | omega) _) | (with_reducible refine Ext.trans ?_ (by assumption)))))⟩
        case measure => simp [intOf]; omega
    · obtain rfl : j = C.length := by omega
      rw [List.take_length] at hno
      rw [hno] at Hq
      have hx0 := Lib.hid hx
      clear hx hno
      go_wp2
      go_ret3
      exact ⟨by rw [← Hq.out]; rfl, hx0.out⟩

end Go.Proofs.Ytgjjngkmbplijaa

/- The document's world (ref04.World): Fix, Choose. -/
namespace Go.Proofs.Ytgjjngkmbplijaa
open Go.RowKit
set_option linter.unusedSimpArgs false
set_option linter.unusedVariables false

section
variable {base : Nat} {w w1 : World} {p : Nat} {F : FixL} {C : ChL} {v1 v2 : Value}
theorem RWld.grown1 (h : RWld base w p v1 v2 F C) (hg : w.grownBy w1 v1.ownBlock) : w1.cell? ⟨p, 0, none⟩ = some v1 ∧ ∀ o, w1.frozen? ⟨p, o, none⟩ = false := by
  have hb1 : w1.heap[p]? = some (.cells #[v1, v2] 44 (0, 0)) := by rw [hg.block p h.lt (fun e => h.n1 e.symm)]; exact h.blk
  obtain ⟨h1, h2, _⟩ := obj_cells hb1
  exact ⟨h1 0 _ rfl, h2⟩
theorem RWld.grown2 (h : RWld base w p v1 v2 F C) (hg : w.grownBy w1 v2.ownBlock) : w1.cell? ⟨p, 1, none⟩ = some v2 ∧ ∀ o, w1.frozen? ⟨p, o, none⟩ = false := by
  have hb1 : w1.heap[p]? = some (.cells #[v1, v2] 44 (0, 0)) := by rw [hg.block p h.lt (fun e => h.n2 e.symm)]; exact h.blk
  obtain ⟨h1, h2, _⟩ := obj_cells hb1
  exact ⟨h1 1 _ rfl, h2⟩
end

set_option maxRecDepth 100000 in
set_option maxHeartbeats 3200000 in
theorem rfix_calls (base : Nat) (w : World) (p : Nat) (v1 v2 : Value) (F : FixL) (C : ChL) (s : ByteArray) (d v : Int) (h : RWld base w p v1 v2 F C) (hb : base ≤ w.heap.size) (hsz : s.size ≤ 1000) (hl : F.length ≤ 1000) :
    Calls Try.prog 96 #[.pointer (some ⟨p, 0, none⟩), .string s, .int .i64 d, .int .i64 v] w (RetR base w p v1 v2 (fixRes F s d v) (fixNew F s d v) C) := by
  have HN := rname_calls s w hsz
  have H0 := Lib.hid h
  obtain ⟨A, C1, rfl, hA1, hA2⟩ := own_form h.fl
  unfold maxLen at hA2
  have HF := fun w' (hx : Ext w w') => rfixed_calls base w' p _ v2 F C s d (h.ext hx) (by omega)
  have hl63 : F.length ≤ 9223372036854775807 := by omega
  clear h
  cases hn : isName s with
  | false =>
    obtain ⟨e1, e2⟩ := fixRes_arg (F := F) (s := s) (d := d) (v := v) (.inl hn)
    rw [e1, e2]
    rw [hn] at HN
    clear e1 e2 HF
    go_enter Try.func96, Try.ntmps96
    (go_wp2_with fail; (with_reducible refine (HN).mono ?_); rintro e w' ⟨rfl, hx⟩)
    go_wp2
    go_ret
    exact RetR.same H0.out hx
  | true =>
    rw [hn] at HN
    by_cases hd1 : 0 ≤ d
    case neg =>
      obtain ⟨e1, e2⟩ := fixRes_arg (F := F) (s := s) (d := d) (v := v) (.inr (.inl (bool_no (dayB_iff d) (by omega))))
      rw [e1, e2]
      have hd1' : d < 0 := by omega
      clear e1 e2 HF hd1
      go_enter Try.func96, Try.ntmps96
      (go_wp2_with fail; (with_reducible refine (HN).mono ?_); rintro e w' ⟨rfl, hx⟩)
      go_wp2
      go_ret
      exact RetR.same H0.out hx
    by_cases hd2 : d ≤ 10000
    case neg =>
      obtain ⟨e1, e2⟩ := fixRes_arg (F := F) (s := s) (d := d) (v := v) (.inr (.inl (bool_no (dayB_iff d) (by omega))))
      rw [e1, e2]
      have hd2' : 10000 < d := by omega
      clear e1 e2 HF hd2
      go_enter Try.func96, Try.ntmps96
      (go_wp2_with fail; (with_reducible refine (HN).mono ?_); rintro e w' ⟨rfl, hx⟩)
      go_wp2
      go_ret
      exact RetR.same H0.out hx
    have hd : dayB d = true := (dayB_iff d).2 ⟨hd1, hd2⟩
    have HV := fun w' => rvalid_calls v w'
    cases hv : Vd v with
    | false =>
      obtain ⟨e1, e2⟩ := fixRes_arg (F := F) (s := s) (d := d) (v := v) (.inr (.inr hv))
      rw [e1, e2]
      rw [hv] at HV
      clear e1 e2 HF hd
      go_enter Try.func96, Try.ntmps96
      (go_wp2_with fail; (with_reducible refine (HN).mono ?_); rintro e w' ⟨rfl, hx⟩)
      (go_wp2_with fail; (with_reducible refine (HV _).mono ?_); rintro e w' ⟨rfl, rfl⟩)
      go_wp2
      go_ret
      exact RetR.same H0.out hx
    | true =>
      rw [hv] at HV
      cases ht : (F.lookup (s, d)).isSome with
      | true =>
        obtain ⟨e1, e2⟩ := fixRes_there hn hd hv ht
        rw [e1, e2]
        rw [ht] at HF
        clear e1 e2 hd ht
        generalize (F.lookup (s, d)).getD 0 = q at *
        go_enter Try.func96, Try.ntmps96
        (go_wp2_with fail; (with_reducible refine (HN).mono ?_); rintro e w' ⟨rfl, hx⟩)
        (go_wp2_with fail; (with_reducible refine (HV _).mono ?_); rintro e w' ⟨rfl, rfl⟩)
        (go_wp2_with fail; (with_reducible refine (HF _ hx).mono ?_); rintro e w' ⟨rfl, hy⟩)
        go_wp2
        go_ret
        exact RetR.same H0.out (hx.trans hy)
      | false =>
        by_cases h32 : F.length < 32
        case neg =>
          obtain ⟨e1, e2⟩ := fixRes_limit hn hd hv ht (by omega)
          rw [e1, e2]
          rw [ht] at HF
          clear e1 e2 hd ht
          have h32' : (32 : Int) ≤ (F.length : Int) := by omega
          generalize (F.lookup (s, d)).getD 0 = q at *
          clear h32
          go_enter Try.func96, Try.ntmps96
          (go_wp2_with fail; (with_reducible refine (HN).mono ?_); rintro e w' ⟨rfl, hx⟩)
          (go_wp2_with fail; (with_reducible refine (HV _).mono ?_); rintro e w' ⟨rfl, rfl⟩)
          (go_wp2_with fail; (with_reducible refine (HF _ hx).mono ?_); rintro e w' ⟨rfl, hy⟩)
          obtain ⟨k0, k1, kf⟩ := (H0.out.ext (hx.trans hy)).cells
          go_wp2
          go_ret
          exact RetR.same H0.out (hx.trans hy)
        obtain ⟨e1, e2⟩ := fixRes_ok hn hd hv ht h32
        rw [e1, e2]
        rw [ht] at HF
        clear e1 e2 hd ht
        have h32' : (F.length : Int) < 32 := by omega
        have h63 : F.length + 1 ≤ maxLen := by unfold maxLen; omega
        have hby : (F.length + 1) * 32 ≤ 140737488355328 := by omega
        generalize (F.lookup (s, d)).getD 0 = q at *
        clear h32
        go_enter Try.func96, Try.ntmps96
        (go_wp2_with fail; (with_reducible refine (HN).mono ?_); rintro e w' ⟨rfl, hx⟩)
        (go_wp2_with fail; (with_reducible refine (HV _).mono ?_); rintro e w' ⟨rfl, rfl⟩)
        (go_wp2_with fail; (with_reducible refine (HF _ hx).mono ?_); rintro e w' ⟨rfl, hy⟩)
        have hxy := hx.trans hy
        obtain ⟨k0, k1, kf⟩ := (H0.out.ext hxy).cells
        have hM := Lib.hid (Moved.of_ext hxy p (.slice A F.length C1) v2)
        have hW := Lib.hid (H0.out.ext hxy)
        have hbl : base ≤ w'.heap.size + 1 := by have := hxy.le; omega
        clear hx hy hxy HF HN HV
        go_wp2_with (at_builtin; refine wpList_app elemFx rfl _ _ rfl base (.slice A F.length C1) F.length (fxCells F) rfl (hW.out.fl.alloc _) _ 1 1 (fxOf ((s, d), v)) rfl (Rd.new _ #[.string s, .int .i64 d, .int .i64 v] _ 1 3 rfl) (by simp [fxOf, Value.oneCell']) h63 hby (by simp; omega) ?_; intro u1 w1 hown1 hg1 hat1; obtain ⟨A6, C6, rfl, h6, h7⟩ := own_form hown1; obtain ⟨q3, qf⟩ := (hW.out.ext (w' := w'.alloc _) ((by repeat' (first | (with_reducible exact Ext.refl _) | (with_reducible assumption) | (with_reducible refine Ext.alloc ?_ _) | (with_reducible refine Ext.drew ?_) | (with_reducible refine Ext.drewN ?_ _) | (with_reducible refine Ext.setCell ?_ (by first | exact Nat.le_refl _ | (simp; done) | (simp; omega) | omega) _) | (with_reducible refine Ext.trans ?_ (by assumption)))))).grown1 hg1)
        have hP := Lib.hid ((hW.out.ext (w' := w'.alloc _) ((by repeat' (first | (with_reducible exact Ext.refl _) | (with_reducible assumption) | (with_reducible refine Ext.alloc ?_ _) | (with_reducible refine Ext.drew ?_) | (with_reducible refine Ext.drewN ?_ _) | (with_reducible refine Ext.setCell ?_ (by first | exact Nat.le_refl _ | (simp; done) | (simp; omega) | omega) _) | (with_reducible refine Ext.trans ?_ (by assumption)))))).put1 ((s, d), v) hown1 hg1 hat1)
        clear hown1 hg1 hat1 q3 qf
        go_wp2_with fail
        go_ret
        exact ⟨_, _, rfl, hP.out.1, (hM.out.trans (Moved.of_ext ((by repeat' (first | (with_reducible exact Ext.refl _) | (with_reducible assumption) | (with_reducible refine Ext.alloc ?_ _) | (with_reducible refine Ext.drew ?_) | (with_reducible refine Ext.drewN ?_ _) | (with_reducible refine Ext.setCell ?_ (by first | exact Nat.le_refl _ | (simp; done) | (simp; omega) | omega) _) | (with_reducible refine Ext.trans ?_ (by assumption))))) p _ _)).trans hP.out.2⟩

end Go.Proofs.Ytgjjngkmbplijaa

/- The document's world (ref04.World): Choose. -/
namespace Go.Proofs.Ytgjjngkmbplijaa
open Go.RowKit
set_option linter.unusedSimpArgs false
set_option linter.unusedVariables false

theorem side_bounds (k : Int) : (sideB k = true ∧ 0 ≤ k ∧ k ≤ 1) ∨ (sideB k = false ∧ k < 0) ∨ (sideB k = false ∧ 0 ≤ k ∧ 1 < k) := by
  by_cases h : k = 0 ∨ k = 1
  · exact .inl ⟨(sideB_iff k).2 h, by omega, by omega⟩
  · have hb := bool_no (sideB_iff k) h
    by_cases h2 : k < 0
    · exact .inr (.inl ⟨hb, h2⟩)
    · exact .inr (.inr ⟨hb, by omega, by omega⟩)
theorem day_bounds (d : Int) : (dayB d = true ∧ 0 ≤ d ∧ d ≤ 10000) ∨ (dayB d = false ∧ d < 0) ∨ (dayB d = false ∧ 0 ≤ d ∧ 10000 < d) := by
  by_cases h : 0 ≤ d ∧ d ≤ 10000
  · exact .inl ⟨(dayB_iff d).2 h, h.1, h.2⟩
  · have hb := bool_no (dayB_iff d) h
    by_cases h2 : d < 0
    · exact .inr (.inl ⟨hb, h2⟩)
    · exact .inr (.inr ⟨hb, by omega, by omega⟩)

set_option maxRecDepth 100000 in
set_option maxHeartbeats 3200000 in
theorem rchoose_calls (base : Nat) (w : World) (p : Nat) (v1 v2 : Value) (F : FixL) (C : ChL) (s t : ByteArray) (k d : Int) (h : RWld base w p v1 v2 F C) (hb : base ≤ w.heap.size) (hsz : s.size ≤ 1000) (htz : t.size ≤ 1000) (hl : C.length ≤ 1000) :
    Calls Try.prog 95 #[.pointer (some ⟨p, 0, none⟩), .string s, .string t, .int .i64 k, .int .i64 d] w (RetR base w p v1 v2 (chRes C s t k d) F (chNew C s t k d)) := by
  have HN := rname_calls s w hsz
  have HM := fun w' => rname_calls t w' htz
  have H0 := Lib.hid h
  obtain ⟨A, C1, rfl, hA1, hA2⟩ := own_form h.ch
  unfold maxLen at hA2
  have HF := fun w' (hx : Ext w w') => rchosen_calls base w' p v1 _ F C s t (h.ext hx) (by omega)
  have hl63 : C.length ≤ 9223372036854775807 := by omega
  clear h
  cases hn : isName s with
  | false =>
    obtain ⟨e1, e2⟩ := chRes_arg (C := C) (s := s) (t := t) (k := k) (d := d) (.inl hn)
    rw [e1, e2]
    rw [hn] at HN
    clear e1 e2 HF HM
    go_enter Try.func95, Try.ntmps95
    (go_wp2_with fail; (with_reducible refine (HN).mono ?_); rintro e w' ⟨rfl, hx⟩)
    go_wp2
    go_ret
    exact RetR.same H0.out hx
  | true =>
    rw [hn] at HN
    cases hm : isName t with
    | false =>
      obtain ⟨e1, e2⟩ := chRes_arg (C := C) (s := s) (t := t) (k := k) (d := d) (.inr (.inl hm))
      rw [e1, e2]
      rw [hm] at HM
      clear e1 e2 HF
      go_enter Try.func95, Try.ntmps95
      (go_wp2_with fail; (with_reducible refine (HN).mono ?_); rintro e w' ⟨rfl, hx⟩)
      (go_wp2_with fail; (with_reducible refine (HM _).mono ?_); rintro e w' ⟨rfl, hy⟩)
      go_wp2
      go_ret
      exact RetR.same H0.out (hx.trans hy)
    | true =>
      rw [hm] at HM
      rcases side_bounds k with ⟨hk, hk1, hk2⟩ | ⟨hk, hk1⟩ | ⟨hk, hk1, hk2⟩
      rotate_left
      iterate 2
        · obtain ⟨e1, e2⟩ := chRes_arg (C := C) (s := s) (t := t) (k := k) (d := d) (.inr (.inr (.inl hk)))
          rw [e1, e2]
          clear e1 e2 HF hk
          go_enter Try.func95, Try.ntmps95
          (go_wp2_with fail; (with_reducible refine (HN).mono ?_); rintro e w' ⟨rfl, hx⟩)
          (go_wp2_with fail; (with_reducible refine (HM _).mono ?_); rintro e w' ⟨rfl, hy⟩)
          go_wp2
          go_ret
          exact RetR.same H0.out (hx.trans hy)
      rcases day_bounds d with ⟨hd, hd1, hd2⟩ | ⟨hd, hd1⟩ | ⟨hd, hd1, hd2⟩
      rotate_left
      iterate 2
        · obtain ⟨e1, e2⟩ := chRes_arg (C := C) (s := s) (t := t) (k := k) (d := d) (.inr (.inr (.inr hd)))
          rw [e1, e2]
          clear e1 e2 HF hk hd
          go_enter Try.func95, Try.ntmps95
          (go_wp2_with fail; (with_reducible refine (HN).mono ?_); rintro e w' ⟨rfl, hx⟩)
          (go_wp2_with fail; (with_reducible refine (HM _).mono ?_); rintro e w' ⟨rfl, hy⟩)
          go_wp2
          go_ret
          exact RetR.same H0.out (hx.trans hy)
      cases ht : (C.lookup (s, t)).isSome with
      | true =>
        obtain ⟨e1, e2⟩ := chRes_there (k := k) hn hm hk hd ht
        rw [e1, e2]
        rw [ht] at HF
        clear e1 e2 hd hk ht
        generalize (C.lookup (s, t)).getD (0, 0) = q at *
        unfold Ret3 at HF
        go_enter Try.func95, Try.ntmps95
        (go_wp2_with fail; (with_reducible refine (HN).mono ?_); rintro e w' ⟨rfl, hx⟩)
        (go_wp2_with fail; (with_reducible refine (HM _).mono ?_); rintro e w' ⟨rfl, hy⟩)
        (go_wp2_with fail; (with_reducible refine (HF _ (hx.trans hy)).mono ?_); rintro e w' ⟨rfl, hz⟩)
        go_wp2
        go_ret
        exact RetR.same H0.out ((hx.trans hy).trans hz)
      | false =>
        obtain ⟨e1, e2⟩ := chRes_ok hn hm hk hd ht
        rw [e1, e2]
        rw [ht] at HF
        clear e1 e2 hd hk ht
        have h63 : C.length + 1 ≤ maxLen := by unfold maxLen; omega
        have hby : (C.length + 1) * 48 ≤ 140737488355328 := by omega
        generalize (C.lookup (s, t)).getD (0, 0) = q at *
        unfold Ret3 at HF
        go_enter Try.func95, Try.ntmps95
        (go_wp2_with fail; (with_reducible refine (HN).mono ?_); rintro e w' ⟨rfl, hx⟩)
        (go_wp2_with fail; (with_reducible refine (HM _).mono ?_); rintro e w' ⟨rfl, hy⟩)
        (go_wp2_with fail; (with_reducible refine (HF _ (hx.trans hy)).mono ?_); rintro e w' ⟨rfl, hz⟩)
        have hxy := (hx.trans hy).trans hz
        obtain ⟨k0, k1, kf⟩ := (H0.out.ext hxy).cells
        have hM := Lib.hid (Moved.of_ext hxy p v1 (.slice A C.length C1))
        have hW := Lib.hid (H0.out.ext hxy)
        have hbl : base ≤ w'.heap.size + 1 := by have := hxy.le; omega
        clear hx hy hz hxy HF HN HM
        go_wp2_with (at_builtin; refine wpList_app elemCc rfl _ _ rfl base (.slice A C.length C1) C.length (ccCells C) rfl (hW.out.ch.alloc _) _ 1 1 (ccOf ((s, t), (k, d))) rfl (Rd.new _ #[.string s, .string t, .int .i64 k, .int .i64 d] _ 1 4 rfl) (by simp [ccOf, Value.oneCell']) h63 hby (by simp; omega) ?_; intro u1 w1 hown1 hg1 hat1; obtain ⟨A6, C6, rfl, h6, h7⟩ := own_form hown1; obtain ⟨q3, qf⟩ := (hW.out.ext (w' := w'.alloc _) ((by repeat' (first | (with_reducible exact Ext.refl _) | (with_reducible assumption) | (with_reducible refine Ext.alloc ?_ _) | (with_reducible refine Ext.drew ?_) | (with_reducible refine Ext.drewN ?_ _) | (with_reducible refine Ext.setCell ?_ (by first | exact Nat.le_refl _ | (simp; done) | (simp; omega) | omega) _) | (with_reducible refine Ext.trans ?_ (by assumption)))))).grown2 hg1)
        have hP := Lib.hid ((hW.out.ext (w' := w'.alloc _) ((by repeat' (first | (with_reducible exact Ext.refl _) | (with_reducible assumption) | (with_reducible refine Ext.alloc ?_ _) | (with_reducible refine Ext.drew ?_) | (with_reducible refine Ext.drewN ?_ _) | (with_reducible refine Ext.setCell ?_ (by first | exact Nat.le_refl _ | (simp; done) | (simp; omega) | omega) _) | (with_reducible refine Ext.trans ?_ (by assumption)))))).put2 ((s, t), (k, d)) hown1 hg1 hat1)
        clear hown1 hg1 hat1 q3 qf
        go_wp2_with fail
        go_ret
        exact ⟨_, _, rfl, hP.out.1, (hM.out.trans (Moved.of_ext ((by repeat' (first | (with_reducible exact Ext.refl _) | (with_reducible assumption) | (with_reducible refine Ext.alloc ?_ _) | (with_reducible refine Ext.drew ?_) | (with_reducible refine Ext.drewN ?_ _) | (with_reducible refine Ext.setCell ?_ (by first | exact Nat.le_refl _ | (simp; done) | (simp; omega) | omega) _) | (with_reducible refine Ext.trans ?_ (by assumption))))) p _ _)).trans hP.out.2⟩

end Go.Proofs.Ytgjjngkmbplijaa

/- Both worlds side by side: the code's and the document's; a step in one leaves the other as it is. -/
namespace Go.Proofs.Ytgjjngkmbplijaa
open Go.RowKit
set_option linter.unusedSimpArgs false
set_option linter.unusedVariables false

/-- The code's world at p, f, c; the document's at q; both the law's own, apart. -/
structure Two (w0 w : World) (p f c : Nat) (F : FixL) (C : ChL) (q : Nat) (v1 v2 : Value) (F2 : FixL) (C2 : ChL) : Prop where
  a : Own w0 w p f c F C
  b : RWld w0.heap.size w q v1 v2 F2 C2
  ap : ∀ k, k = p ∨ k = f ∨ k = c → k ≠ q ∧ v1.ownBlock ≠ some k ∧ v2.ownBlock ≠ some k
section
variable {w0 w w' : World} {p f c : Nat} {F F2 : FixL} {C C2 : ChL} {q : Nat} {v1 v2 : Value}
theorem Two.ext (h : Two w0 w p f c F C q v1 v2 F2 C2) (k : Ext w w') : Two w0 w' p f c F C q v1 v2 F2 C2 := ⟨h.a.keep k, h.b.ext k, h.ap⟩
/-- A step in the document's world. -/
theorem Two.moved (h : Two w0 w p f c F C q v1 v2 F2 C2) {v1' v2' : Value} {F3 : FixL} {C3 : ChL} (hR : RWld w0.heap.size w' q v1' v2' F3 C3) (m : Moved w w' q v1 v2 v1' v2') : Two w0 w' p f c F C q v1' v2' F3 C3 := by
  obtain ⟨l1, l2, l3⟩ := h.a.wld.lts
  refine ⟨⟨h.a.wld.moved m h.ap, h.b.mext m h.a.ext (Nat.le_refl _), h.a.p0, h.a.f0, h.a.c0⟩, hR, fun k hk => ?_⟩
  obtain ⟨a1, a2, a3⟩ := h.ap k hk
  have hkl : k < w.heap.size := by rcases hk with rfl | rfl | rfl <;> assumption
  refine ⟨a1, ?_, ?_⟩
  · rcases m.r1 with e | ⟨g, e, hg⟩ <;> rw [e]
    · exact a2
    · intro e2; injection e2 with e2; omega
  · rcases m.r2 with e | ⟨g, e, hg⟩ <;> rw [e]
    · exact a3
    · intro e2; injection e2 with e2; omega
/-- A step in the code's world. -/
theorem Two.step (h : Two w0 w p f c F C q v1 v2 F2 C2) {F' : FixL} {C' : ChL} {row : Nat} (hr : row = f ∨ row = c) (hW : Wld w' p f c F' C') (hg : w.grownBy w' (some row)) : Two w0 w' p f c F' C' q v1 v2 F2 C2 := by
  obtain ⟨a1, a2, a3⟩ := h.ap row (by rcases hr with rfl | rfl <;> simp)
  exact ⟨h.a.step hr hW hg, h.b.grown hg a1 a2 a3, h.ap⟩
def RetTwo (w0 : World) (p f c : Nat) (F : FixL) (C : ChL) (q : Nat) (F2 : FixL) (C2 : ChL) (r : Int) (e : Ending) (w' : World) : Prop :=
  ∃ v1 v2, e = .returned (.int .i64 r) ∧ Two w0 w' p f c F C q v1 v2 F2 C2
theorem two_fix (s : ByteArray) (d v : Int) (h : Two w0 w p f c F C q v1 v2 F2 C2) :
    Calls Try.prog 35 #[.pointer (some ⟨p, 0, none⟩), .string s, .int .i64 d, .int .i64 v] w (RetTwo w0 p f c (fixNew F s d v) C q F2 C2 (fixRes F s d v)) :=
  (fix_calls p f c F C s d v w h.a.wld).mono fun e w' ⟨he, hW, hg⟩ => ⟨v1, v2, he, h.step (.inl rfl) hW hg⟩
theorem two_choose (s t : ByteArray) (k d : Int) (h : Two w0 w p f c F C q v1 v2 F2 C2) :
    Calls Try.prog 36 #[.pointer (some ⟨p, 0, none⟩), .string s, .string t, .int .i64 k, .int .i64 d] w (RetTwo w0 p f c F (chNew C s t k d) q F2 C2 (chRes C s t k d)) :=
  (choose_calls p f c F C s t k d w h.a.wld).mono fun e w' ⟨he, hW, hg⟩ => ⟨v1, v2, he, h.step (.inr rfl) hW hg⟩
theorem two_rfix (s : ByteArray) (d v : Int) (h : Two w0 w p f c F C q v1 v2 F2 C2) (hs : s.size ≤ 1000) (hl : F2.length ≤ 1000) :
    Calls Try.prog 96 #[.pointer (some ⟨q, 0, none⟩), .string s, .int .i64 d, .int .i64 v] w (RetTwo w0 p f c F C q (fixNew F2 s d v) C2 (fixRes F2 s d v)) :=
  (rfix_calls _ w q v1 v2 F2 C2 s d v h.b h.a.ext.le hs hl).mono fun e w' ⟨u1, u2, he, hR, hM⟩ => ⟨u1, u2, he, h.moved hR hM⟩
theorem two_rchoose (s t : ByteArray) (k d : Int) (h : Two w0 w p f c F C q v1 v2 F2 C2) (hs : s.size ≤ 1000) (ht : t.size ≤ 1000) (hl : C2.length ≤ 1000) :
    Calls Try.prog 95 #[.pointer (some ⟨q, 0, none⟩), .string s, .string t, .int .i64 k, .int .i64 d] w (RetTwo w0 p f c F C q F2 (chNew C2 s t k d) (chRes C2 s t k d)) :=
  (rchoose_calls _ w q v1 v2 F2 C2 s t k d h.b h.a.ext.le hs ht hl).mono fun e w' ⟨u1, u2, he, hR, hM⟩ => ⟨u1, u2, he, h.moved hR hM⟩
/-- The document's world is made beside the code's. -/
theorem Own.two (h : Own w0 w p f c F C) : Two w0 (w.alloc (.cells #[.slice none 0 0, .slice none 0 0] 44)) p f c F C w.heap.size (.slice none 0 0) (.slice none 0 0) [] [] := by
  obtain ⟨l1, l2, l3⟩ := h.wld.lts
  refine ⟨h.keep ((Ext.refl _).alloc _), RWld.new w _ h.ext.le, fun k hk => ⟨by rcases hk with rfl | rfl | rfl <;> omega, by simp [Value.ownBlock], by simp [Value.ownBlock]⟩⟩
end
theorem fixNew_len2 (F : FixL) (s : ByteArray) (d v : Int) : (fixNew F s d v).length ≤ F.length + 1 := by
  unfold fixNew
  repeat' split
  all_goals simp
theorem chNew_len (C : ChL) (s t : ByteArray) (k d : Int) : (chNew C s t k d).length ≤ C.length + 1 := by
  unfold chNew
  repeat' split
  all_goals simp


end Go.Proofs.Ytgjjngkmbplijaa
