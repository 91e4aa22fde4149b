/- Texts put together: RWk, RWait, RWalk1, RWalk2, RWalk3. -/
import Derived.Test.YtgjjngkmbplijaaZC1
import Derived.Deep.RegionLaw
import Derived.Test.YtgjjngkmbplijaaYCash4
import Derived.Test.YtgjjngkmbplijaaZRf
import Derived.Test.YtgjjngkmbplijaaZFa
import Derived.Deep.RegionHeld3
import Derived.Deep.CutRange
import Derived.Test.YtgjjngkmbplijaaZRw
import Derived.Test.YtgjjngkmbplijaaZKb
import Derived.Test.YtgjjngkmbplijaaZRn
/- The document's walker (ref04.walker): its memory. Printed by wip/src/mkrwk.py from XCash1. -/
namespace Go.Proofs.Ytgjjngkmbplijaa
open Go.RowKit
set_option linter.unusedSimpArgs false
set_option linter.unusedVariables false

/-- The walker's memory at block b: the world's place q, the flows and the waits so far in rows of its own, an error's number; what lay in the world a, all of it below base, is as it was. -/
structure RWk (a : World) (base : Nat) (w : World) (b q : Nat) (id : ByteArray) (v1 v2 : Value) (st : CSt) (er : Int) : Prop where
  blk : w.heap[b]? = some (.cells #[.string id, .pointer (some ⟨q, 0, none⟩), v1, v2, .int .i64 er] 225 (0, 0))
  fl : w.ownsRow base 144 3 v1 st.1.length (flCells st.1)
  wa : w.ownsRow base 152 5 v2 st.2.length (waCells st.2)
  ea : Ext a w
  ab : a.heap.size ≤ base
  bb : base ≤ b
  n1 : v1.ownBlock ≠ some b
  n2 : v2.ownBlock ≠ some b
  n12 : v1.ownBlock = none ∨ v1.ownBlock ≠ v2.ownBlock
section
variable {a : World} {base : Nat} {w w' w1 : World} {b q : Nat} {id : ByteArray} {v1 v2 v1' v2' : Value} {st : CSt} {er : Int}
theorem RWk.ext (h : RWk a base w b q id v1 v2 st er) (k : Ext w w') : RWk a base w' b q id v1 v2 st er :=
  ⟨k.obj h.blk, k.own h.fl, k.own h.wa, h.ea.trans k, h.ab, h.bb, h.n1, h.n2, h.n12⟩
theorem RWk.cells (h : RWk a base w b q id v1 v2 st er) : w.cell? ⟨b, 0, none⟩ = some (.string id) ∧ w.cell? ⟨b, 1, none⟩ = some (.pointer (some ⟨q, 0, none⟩)) ∧ w.cell? ⟨b, 2, none⟩ = some v1 ∧ w.cell? ⟨b, 3, none⟩ = some v2 ∧ w.cell? ⟨b, 4, none⟩ = some (.int .i64 er) ∧ (∀ o, w.frozen? ⟨b, o, none⟩ = false) ∧ b < w.heap.size := by
  obtain ⟨h1, h2, h3⟩ := obj_cells h.blk
  exact ⟨h1 0 _ rfl, h1 1 _ rfl, h1 2 _ rfl, h1 3 _ rfl, h1 4 _ rfl, h2, h3⟩
theorem RWk.other (h : RWk a base w b q id v1 v2 st er) (m : Moved w w' b v1 v2 v1' v2') {k : Nat} {o : Obj} (hk : w.heap[k]? = some o) (h1 : k ≠ b) (h2 : v1.ownBlock ≠ some k) (h3 : v2.ownBlock ≠ some k) : w'.heap[k]? = some o := by
  rw [m.block k (Array.getElem?_eq_some_iff.1 hk).1 h1 h2 h3]; exact hk
theorem RWk.grown1 (h : RWk a base w b q id v1 v2 st er) (hg : w.grownBy w1 v1.ownBlock) : w1.cell? ⟨b, 2, none⟩ = some v1 ∧ ∀ o, w1.frozen? ⟨b, o, none⟩ = false := by
  have hb1 : w1.heap[b]? = some (.cells #[.string id, .pointer (some ⟨q, 0, none⟩), v1, v2, .int .i64 er] 225 (0, 0)) := by rw [hg.block b (Array.getElem?_eq_some_iff.1 h.blk).1 (fun e => h.n1 e.symm)]; exact h.blk
  obtain ⟨h1, h2, _⟩ := obj_cells hb1
  exact ⟨h1 2 _ rfl, h2⟩
theorem RWk.grown2 (h : RWk a base w b q id v1 v2 st er) (hg : w.grownBy w1 v2.ownBlock) : w1.cell? ⟨b, 3, none⟩ = some v2 ∧ ∀ o, w1.frozen? ⟨b, o, none⟩ = false := by
  have hb1 : w1.heap[b]? = some (.cells #[.string id, .pointer (some ⟨q, 0, none⟩), v1, v2, .int .i64 er] 225 (0, 0)) := by rw [hg.block b (Array.getElem?_eq_some_iff.1 h.blk).1 (fun e => h.n2 e.symm)]; exact h.blk
  obtain ⟨h1, h2, _⟩ := obj_cells hb1
  exact ⟨h1 3 _ rfl, h2⟩
/-- A flow more: appended and stored. -/
theorem RWk.put1 (h : RWk a base w b q id v1 v2 st er) {A' : Option Addr} {C' : Nat} (x : Fl) (hown : w1.ownsRow base 144 3 (.slice A' (st.1.length + 1) C') (st.1.length + 1) (flCells st.1 ++ x.cells)) (hg : w.grownBy w1 v1.ownBlock)
    (hat : (Value.slice A' (st.1.length + 1) C').ownBlock = v1.ownBlock ∨ (Value.slice A' (st.1.length + 1) C').ownBlock = some w.heap.size) :
    RWk a base (w1.setCell ⟨b, 2, none⟩ (.slice A' (st.1.length + 1) C')) b q id (.slice A' (st.1.length + 1) C') v2 (st.1 ++ [x], st.2) er ∧ Moved w (w1.setCell ⟨b, 2, none⟩ (.slice A' (st.1.length + 1) C')) b v1 v2 (.slice A' (st.1.length + 1) C') v2 := by
  have hbl := (Array.getElem?_eq_some_iff.1 h.blk).1
  have hb1 : w1.heap[b]? = some (.cells #[.string id, .pointer (some ⟨q, 0, none⟩), v1, v2, .int .i64 er] 225 (0, 0)) := by rw [hg.block b hbl (fun e => h.n1 e.symm)]; exact h.blk
  have hset := setC_grown w1 b 2 (.slice A' (st.1.length + 1) C')
  have hne1 : (Value.slice A' (st.1.length + 1) C').ownBlock ≠ some b := by
    rcases hat with e | e <;> rw [e]
    · exact h.n1
    · intro e'; injection e' with e'; omega
  have hbb := h.bb
  have hab := h.ab
  have hold : ∀ k, k < base → v1.ownBlock ≠ some k := fun k hk e => by have := (h.fl.lt k e).1; omega
  refine ⟨⟨?_, ?_, ?_, ?_, h.ab, h.bb, hne1, h.n2, ?_⟩, ⟨?_, ?_, ?_, ?_, ?_, ?_, .inl rfl⟩⟩
  · rw [setC_block w1 b 2 _ hb1]; rfl
  · have := hown.kept hset (.inr hne1)
    rw [flCells_app, List.length_append]
    simpa [flCells] using this
  · refine (h.wa.kept hg ?_).kept hset (.inr h.n2)
    cases hv : v2.ownBlock with
    | none => exact .inl rfl
    | some k =>
      right
      rcases h.n12 with e | e
      · rw [e]; simp
      · rw [hv] at e; exact fun e' => e e'.symm
  · exact (h.ea.grown hg (fun k hk => by have := Nat.lt_or_ge k base; rcases this with hlt | hge; exact absurd hk (hold k hlt); omega)).setCell (p := ⟨b, _, none⟩) (show a.heap.size ≤ b by omega) _
  · rcases hat with e | e <;> rw [e]
    · exact h.n12
    · right
      intro e'
      have := (h.wa.lt _ e'.symm).2
      omega
  · exact hset.os.trans hg.os
  · exact hset.tape.trans hg.tape
  · exact hset.output.trans hg.output
  · exact Nat.le_trans hg.size hset.size
  · intro k hk h1 h2 h3
    rw [hset.block k (Nat.lt_of_lt_of_le hk hg.size) (by intro e; injection e with e; exact h1 e), hg.block k hk (fun e => h2 e.symm)]
  · rcases hat with e | e
    · exact .inl e
    · exact .inr ⟨_, e, Nat.le_refl _⟩
/-- A wait more. -/
theorem RWk.put2 (h : RWk a base w b q id v1 v2 st er) {A' : Option Addr} {C' : Nat} (x : Wa) (hown : w1.ownsRow base 152 5 (.slice A' (st.2.length + 1) C') (st.2.length + 1) (waCells st.2 ++ x.cells)) (hg : w.grownBy w1 v2.ownBlock)
    (hat : (Value.slice A' (st.2.length + 1) C').ownBlock = v2.ownBlock ∨ (Value.slice A' (st.2.length + 1) C').ownBlock = some w.heap.size) :
    RWk a base (w1.setCell ⟨b, 3, none⟩ (.slice A' (st.2.length + 1) C')) b q id v1 (.slice A' (st.2.length + 1) C') (st.1, st.2 ++ [x]) er ∧ Moved w (w1.setCell ⟨b, 3, none⟩ (.slice A' (st.2.length + 1) C')) b v1 v2 v1 (.slice A' (st.2.length + 1) C') := by
  have hbl := (Array.getElem?_eq_some_iff.1 h.blk).1
  have hb1 : w1.heap[b]? = some (.cells #[.string id, .pointer (some ⟨q, 0, none⟩), v1, v2, .int .i64 er] 225 (0, 0)) := by rw [hg.block b hbl (fun e => h.n2 e.symm)]; exact h.blk
  have hset := setC_grown w1 b 3 (.slice A' (st.2.length + 1) C')
  have hne1 : (Value.slice A' (st.2.length + 1) C').ownBlock ≠ some b := by
    rcases hat with e | e <;> rw [e]
    · exact h.n2
    · intro e'; injection e' with e'; omega
  have hbb := h.bb
  have hab := h.ab
  have hold : ∀ k, k < base → v2.ownBlock ≠ some k := fun k hk e => by have := (h.wa.lt k e).1; omega
  refine ⟨⟨?_, ?_, ?_, ?_, h.ab, h.bb, h.n1, hne1, ?_⟩, ⟨?_, ?_, ?_, ?_, ?_, .inl rfl, ?_⟩⟩
  · rw [setC_block w1 b 3 _ hb1]; rfl
  · refine (h.fl.kept hg ?_).kept hset (.inr h.n1)
    exact h.n12
  · have := hown.kept hset (.inr hne1)
    rw [waCells_app, List.length_append]
    simpa [waCells] using this
  · exact (h.ea.grown hg (fun k hk => by have := Nat.lt_or_ge k base; rcases this with hlt | hge; exact absurd hk (hold k hlt); omega)).setCell (p := ⟨b, _, none⟩) (show a.heap.size ≤ b by omega) _
  · rcases hat with e | e <;> rw [e]
    · exact h.n12
    · cases hv : v1.ownBlock with
      | none => exact .inl rfl
      | some k =>
        right
        intro e'
        injection e' with e'
        have := (h.fl.lt _ hv).2
        omega
  · exact hset.os.trans hg.os
  · exact hset.tape.trans hg.tape
  · exact hset.output.trans hg.output
  · exact Nat.le_trans hg.size hset.size
  · intro k hk h1 h2 h3
    rw [hset.block k (Nat.lt_of_lt_of_le hk hg.size) (by intro e; injection e with e; exact h1 e), hg.block k hk (fun e => h3 e.symm)]
  · rcases hat with e | e
    · exact .inl e
    · exact .inr ⟨_, e, Nat.le_refl _⟩
/-- An error's number is stored. -/
theorem RWk.err (h : RWk a base w b q id v1 v2 st er) (e : Int) : RWk a base (w.setCell ⟨b, 4, none⟩ (.int .i64 e)) b q id v1 v2 st e ∧ Moved w (w.setCell ⟨b, 4, none⟩ (.int .i64 e)) b v1 v2 v1 v2 := by
  have hset := setC_grown w b 4 (.int .i64 e)
  have hab := h.ab
  have hbb := h.bb
  refine ⟨⟨?_, h.fl.kept hset (.inr h.n1), h.wa.kept hset (.inr h.n2), h.ea.setCell (p := ⟨b, 4, none⟩) (show a.heap.size ≤ b by omega) _, h.ab, h.bb, h.n1, h.n2, h.n12⟩, ⟨hset.os, hset.tape, hset.output, hset.size, fun k hk h1 h2 h3 => hset.block k hk (by intro e; injection e with e; exact h1 e), .inl rfl, .inl rfl⟩⟩
  rw [setC_block w b 4 _ h.blk]; rfl
end

end Go.Proofs.Ytgjjngkmbplijaa

/- The document's walker: what is waited for (ref04.walker.wait). -/
namespace Go.Proofs.Ytgjjngkmbplijaa
open Go.RowKit
set_option linter.unusedSimpArgs false
set_option linter.unusedVariables false

/-- Nothing comes back; the walker's memory holds what it holds then. -/
def RetRW (a : World) (base : Nat) (w : World) (b q : Nat) (id : ByteArray) (v1 v2 : Value) (st : CSt) (er : Int) (en : Ending) (w' : World) : Prop :=
  ∃ v1' v2', en = .returned (.tuple #[]) ∧ RWk a base w' b q id v1' v2' st er ∧ Moved w w' b v1 v2 v1' v2'
theorem Wa.same_comm (x y : Wa) : x.same y = y.same x := by
  obtain ⟨a1, a2, a3, a4, a5⟩ := x
  obtain ⟨b1, b2, b3, b4, b5⟩ := y
  have hb : ∀ s t : ByteArray, (s == t) = (t == s) := fun s t => by
    by_cases h : s = t
    · subst h; rfl
    · rw [show (s == t) = false by simpa using h, show (t == s) = false by simpa using fun e => h e.symm]
  have hi : ∀ s t : Int, (s == t) = (t == s) := fun s t => by
    by_cases h : s = t
    · subst h; rfl
    · rw [show (s == t) = false by simpa using h, show (t == s) = false by simpa using fun e => h e.symm]
  have hc : ∀ s t : Bool, (s == t) = (t == s) := by decide
  simp only [Wa.same]
  rw [hb a2, hb a3, hi a4, hi a5, hc a1]
/-- What is waited for then: a choice always, a fixing once. -/
def waitSt (st : CSt) (y : Wa) : CSt := (st.1, if y.ch = true then st.2 ++ [y] else addW st.2 y)

set_option maxRecDepth 100000 in
set_option maxHeartbeats 6400000 in
theorem rwait_calls (a : World) (base : Nat) (w : World) (b q : Nat) (id : ByteArray) (v1 v2 : Value) (st : CSt) (er : Int) (y : Wa) (h : RWk a base w b q id v1 v2 st er) (hl : st.2.length ≤ 2 ^ 33) :
    Calls Try.prog 147 #[.pointer (some ⟨b, 0, none⟩), y.val] w (RetRW a base w b q id v1 v2 (waitSt st y) er) := by
  obtain ⟨fl, wa⟩ := st
  simp only at hl
  have H0 := Lib.hid h
  have hE := fun x W => eql_wait x y W
  have f2 := held_wait.2
  obtain ⟨k0, k1, k2, k3, k4, kf, kb⟩ := h.cells
  obtain ⟨A2, C2, rfl, hA1, hA2⟩ := own_form h.wa
  simp only at hA1 k3
  unfold maxLen at hA2
  have hX0 : Ext w (w.alloc (.cells #[.bool y.ch, .string y.name, .string y.label, .int .i64 y.day, .int .i64 y.side] 152)) := (Ext.refl w).alloc _
  have hY0 : (w.alloc (.cells #[.bool y.ch, .string y.name, .string y.label, .int .i64 y.day, .int .i64 y.side] 152)).heap[w.heap.size]? = some (.cells #[.bool y.ch, .string y.name, .string y.label, .int .i64 y.day, .int .i64 y.side] 152 (0, 0)) := heap_alloc_new _ _
  have HX := Lib.hid (And.intro hX0 hY0)
  have hSt := Lib.hid (show waitSt (fl, wa) y = (fl, if y.ch = true then wa ++ [y] else addW wa y) from rfl)
  generalize waitSt (fl, wa) y = st' at *
  clear h hX0 hY0
  unfold Wa.val at *
  go_enter Try.func147, Try.ntmps147
  go_wp2_with fail
  generalize (w.alloc (.cells #[.bool y.ch, .string y.name, .string y.label, .int .i64 y.day, .int .i64 y.side] 152)) = X at *
  go_loopw [10] (fun i wr => ∃ j : Nat, j ≤ wa.length ∧ i = .int .i64 j ∧ (y.ch = false → ((wa.take j).any fun x => y.same x) = false) ∧ Ext X wr) (fun i _ => wa.length - (intOf i).toNat)
  case atStart => exact ⟨0, by omega, rfl, fun _ => rfl, Ext.refl _⟩
  case round =>
    obtain ⟨j, hj, rfl, hno, hx⟩ := hrel
    have hW := H0.out.ext (HX.out.1.trans hx)
    obtain ⟨k0, k1, k2, k3, k4, kf, kb⟩ := hW.cells
    obtain ⟨qq, hfz, hlt0⟩ := obj_cells (hx.obj HX.out.2)
    have s0 := qq 0 _ rfl
    have s1 := qq 1 _ rfl
    have s2 := qq 2 _ rfl
    have s3 := qq 3 _ rfl
    have s4 := qq 4 _ rfl
    by_cases hlt : j < wa.length
    · have e1 : wa[j]? = some wa[j] := List.getElem?_eq_getElem hlt
      generalize wa[j] = k at e1
      obtain ⟨g, rfl, c0, c1, c2, c3, c4⟩ := wa_at hW.wa e1 hlt
      have hs := any_take_succ (p := fun x => y.same x) e1
      have hEk := fun W => hE k W
      rw [Wa.same_comm k y] at hEk
      have hj0 := Lib.hid (show j + 1 ≤ wa.length from hlt)
      have hx0 := Lib.hid hx
      have e0 := Lib.hid e1
      have hno0 := Lib.hid hno
      have hs0 := Lib.hid hs
      have hji : (j : Int) < (wa.length : Int) := by omega
      have hji0 : (0 : Int) ≤ (j : Int) := by omega
      clear e1 hs hno qq hE hW hx
      generalize hp : y.same k = pb at *
      have hp0 := Lib.hid hp
      clear hp
      generalize hch : y.ch = ch at *
      have hch0 := Lib.hid hch
      clear hch
      cases pb with
      | true =>
        cases ch with
        | true =>
          go_wp2_with fail
          go_quiet (fail)
          go_wp2_with fail
          go_roundw
          case rel => exact ⟨j + 1, hj0.out, by go_num, (fun h => by cases h), (by first | exact hx0.out | exact hx0.out.drewN _)⟩
          case measure => simp [intOf]; omega
        | false =>
          have hR := Lib.hid (show st' = (fl, wa) by
            rw [hSt.out, if_neg (by decide)]
            unfold addW
            rw [if_pos (any_hit (p := fun x => y.same x) e0.out hp0.out)])
          go_wp2_with fail
          go_quiet (fail)
          go_wp2_with fail
          go_end0
          exact ⟨v1, _, rfl, by rw [hR.out]; exact H0.out.ext (HX.out.1.trans (by first | exact hx0.out | exact hx0.out.drewN _)), Moved.of_ext (HX.out.1.trans (by first | exact hx0.out | exact hx0.out.drewN _)) b _ _⟩
      | false =>
        cases ch with
        | true =>
          go_wp2_with fail
          go_quiet (fail)
          go_wp2_with fail
          go_roundw
          case rel => exact ⟨j + 1, hj0.out, by go_num, (fun h => by cases h), (by first | exact hx0.out | exact hx0.out.drewN _)⟩
          case measure => simp [intOf]; omega
        | false =>
          go_wp2_with fail
          go_quiet (fail)
          go_wp2_with fail
          go_roundw
          case rel => exact ⟨j + 1, hj0.out, by go_num, (fun _ => by rw [hs0.out, hno0.out trivial]; rfl), (by first | exact hx0.out | exact hx0.out.drewN _)⟩
          case measure => simp [intOf]; omega
    · obtain rfl : j = wa.length := by omega
      rw [List.take_length] at hno
      have hR := Lib.hid (show st' = (fl, wa ++ [y]) by
        rw [hSt.out]
        cases hch : y.ch with
        | true => rw [if_pos rfl]
        | false => rw [if_neg (by decide)]; unfold addW; rw [if_neg (by rw [hno hch]; decide)])
      have h63 : wa.length + 1 ≤ maxLen := by unfold maxLen; omega
      have hby : (wa.length + 1) * 56 ≤ 140737488355328 := by omega
      have hW3 := Lib.hid hW
      have hM3 := Lib.hid (HX.out.1.trans hx)
      clear hW hno qq hx
      go_wp2_with fail
      go_region_law (refine step_app elemWa (by rfl) _ _ (by rfl) base (.slice A2 wa.length C2) wa.length (waCells wa) (by rfl) ((hW3.out.wa.alloc _).drew) (some ⟨wr.heap.size, 0, none⟩) 1 1 y.cells (by rfl) (by exact Rd.ext (Rd.newAt (by simp) rfl rfl) ((Ext.refl _).drew)) (by simp [Wa.cells, Value.oneCell']) h63 hby (by have := hW3.out.bb; simp; omega) ?_; intro A' C' w1 hown1 hg1 hat1; obtain ⟨q3, qf⟩ := (hW3.out.ext (w' := (wr.alloc _).drew) ((by repeat' (first | (with_reducible exact Ext.refl _) | (with_reducible assumption) | (with_reducible refine Ext.alloc ?_ _) | (with_reducible refine Ext.drew ?_) | (with_reducible refine Ext.drewN ?_ _) | (with_reducible refine Ext.setCell ?_ (by first | exact Nat.le_refl _ | (simp; done) | (simp; omega) | omega) _) | (with_reducible refine Ext.trans ?_ (by assumption)))))).grown2 hg1)
      all_goals
        have hP := Lib.hid ((hW3.out.ext (w' := (wr.alloc _).drew) ((by repeat' (first | (with_reducible exact Ext.refl _) | (with_reducible assumption) | (with_reducible refine Ext.alloc ?_ _) | (with_reducible refine Ext.drew ?_) | (with_reducible refine Ext.drewN ?_ _) | (with_reducible refine Ext.setCell ?_ (by first | exact Nat.le_refl _ | (simp; done) | (simp; omega) | omega) _) | (with_reducible refine Ext.trans ?_ (by assumption)))))).put2 y hown1 hg1 hat1)
        clear hown1 hg1 hat1 q3 qf
        go_wp2_with fail
        go_end0
        exact ⟨v1, _, rfl, by rw [hR.out]; exact hP.out.1, (Moved.of_ext (hM3.out.trans ((by repeat' (first | (with_reducible exact Ext.refl _) | (with_reducible assumption) | (with_reducible refine Ext.alloc ?_ _) | (with_reducible refine Ext.drew ?_) | (with_reducible refine Ext.drewN ?_ _) | (with_reducible refine Ext.setCell ?_ (by first | exact Nat.le_refl _ | (simp; done) | (simp; omega) | omega) _) | (with_reducible refine Ext.trans ?_ (by assumption)))))) b _ _).trans hP.out.2⟩

end Go.Proofs.Ytgjjngkmbplijaa

/- The document's walker on a contract's tree (ref04.walker.walk): nothing, a payment, a contract given, one from a day on, two together. -/
namespace Go.Proofs.Ytgjjngkmbplijaa
open Go.RowKit
set_option linter.unusedSimpArgs false
set_option linter.unusedVariables false

section
variable {a : World} {base b q : Nat} {id : ByteArray} {F : FixL} {C : ChL}
/-- What the walker does with a contract's tree is what is told of the contract. -/
def RwH (a : World) (base b q : Nat) (id : ByteArray) (F : FixL) (C : ChL) (t : Te) : Prop :=
  ∀ (h : HT) (qq : Nat → Prop) (w : World) (v1 v2 : Value) (st : CSt) (d k : Int), h.tr = t.tr → h.In qq a → RWk a base w b q id v1 v2 st 0 → Vd k = true → k ≠ 0 → Room st t.nodes →
    Calls Try.prog 122 #[.pointer (some ⟨b, 0, none⟩), h.val, .int .i64 d, .int .i64 k] w (RetRW a base w b q id v1 v2 (t.walk F C id d k st).2 (t.walk F C id d k st).1)
set_option maxRecDepth 100000 in
set_option maxHeartbeats 1600000 in
theorem rw_err (h : HT) (w : World) (v1 v2 : Value) (st : CSt) (d k er : Int) (hW : RWk a base w b q id v1 v2 st er) (he : er ≠ 0) :
    Calls Try.prog 122 #[.pointer (some ⟨b, 0, none⟩), h.val, .int .i64 d, .int .i64 k] w (RetRW a base w b q id v1 v2 st er) := by
  obtain ⟨k0, k1, k2, k3, k4, kf, kb⟩ := hW.cells
  have hne : (er != 0) = true := by simpa using he
  have H0 := Lib.hid hW
  unfold HT.val
  clear hW he
  go_enter Try.func122, Try.ntmps122
  go_wp2_with fail
  go_end0
  exact ⟨v1, v2, rfl, H0.out.ext ((by repeat' (first | (with_reducible exact Ext.refl _) | (with_reducible assumption) | (with_reducible refine Ext.alloc ?_ _) | (with_reducible refine Ext.drew ?_) | (with_reducible refine Ext.drewN ?_ _) | (with_reducible refine Ext.setCell ?_ (by first | exact Nat.le_refl _ | (simp; done) | (simp; omega) | omega) _) | (with_reducible refine Ext.trans ?_ (by assumption))))), Moved.of_ext ((by repeat' (first | (with_reducible exact Ext.refl _) | (with_reducible assumption) | (with_reducible refine Ext.alloc ?_ _) | (with_reducible refine Ext.drew ?_) | (with_reducible refine Ext.drewN ?_ _) | (with_reducible refine Ext.setCell ?_ (by first | exact Nat.le_refl _ | (simp; done) | (simp; omega) | omega) _) | (with_reducible refine Ext.trans ?_ (by assumption))))) b _ _⟩
set_option maxRecDepth 100000 in
set_option maxHeartbeats 1600000 in
theorem rw_zero : RwH a base b q id F C .zero := by
  intro h qq w v1 v2 st d k ht hin hW hk hk0 hR
  obtain ⟨h1, h2, h3, h4⟩ := HT.tr_inv ht
  obtain ⟨k0, k1, k2, k3, k4, kf, kb⟩ := hW.cells
  have H0 := Lib.hid hW
  unfold HT.val
  rw [h1]
  simp only [Te.walk]
  clear hW ht h1 h2 h3 h4 hin hk hk0 hR
  go_enter Try.func122, Try.ntmps122
  go_wp2_with fail
  go_end0
  exact ⟨v1, v2, rfl, H0.out.ext ((by repeat' (first | (with_reducible exact Ext.refl _) | (with_reducible assumption) | (with_reducible refine Ext.alloc ?_ _) | (with_reducible refine Ext.drew ?_) | (with_reducible refine Ext.drewN ?_ _) | (with_reducible refine Ext.setCell ?_ (by first | exact Nat.le_refl _ | (simp; done) | (simp; omega) | omega) _) | (with_reducible refine Ext.trans ?_ (by assumption))))), Moved.of_ext ((by repeat' (first | (with_reducible exact Ext.refl _) | (with_reducible assumption) | (with_reducible refine Ext.alloc ?_ _) | (with_reducible refine Ext.drew ?_) | (with_reducible refine Ext.drewN ?_ _) | (with_reducible refine Ext.setCell ?_ (by first | exact Nat.le_refl _ | (simp; done) | (simp; omega) | omega) _) | (with_reducible refine Ext.trans ?_ (by assumption))))) b _ _⟩
set_option maxRecDepth 100000 in
set_option maxHeartbeats 1600000 in
theorem rw_one (s : ByteArray) : RwH a base b q id F C (.one s) := by
  intro h qq w v1 v2 st d k ht hin hW hk hk0 hR
  obtain ⟨h1, h2, h3, h4⟩ := HT.tr_inv ht
  obtain ⟨R1, R2⟩ := hR
  simp only [Te.nodes] at R1 R2
  obtain ⟨k0, k1, k2, k3, k4, kf, kb⟩ := hW.cells
  have h63 : st.1.length + 1 ≤ maxLen := by unfold maxLen; omega
  have hby : (st.1.length + 1) * 32 ≤ 140737488355328 := by omega
  obtain ⟨A2, C2, rfl, hA1, hA2⟩ := own_form hW.fl
  have h0 := Lib.hid hW
  unfold maxLen at hA2
  unfold HT.val
  rw [h1, h2]
  simp only [Te.walk]
  clear hW ht h1 h2 h3 h4 hin hk hk0
  go_enter Try.func122, Try.ntmps122
  go_wp2_with fail
  go_region_law (refine step_app elemFl (by rfl) _ _ (by rfl) base (.slice A2 st.1.length C2) st.1.length (flCells st.1) (by rfl) (((h0.out.fl.alloc _).alloc _).drew) (some ⟨w.heap.size + 1, 0, none⟩) 1 1 (Fl.mk d s k).cells (by rfl) (by exact Rd.ext (Rd.newAt (by simp) rfl rfl) ((Ext.refl _).drew)) (by simp [Fl.cells, Value.oneCell']) h63 hby (by have := h0.out.bb; simp; omega) ?_; intro A' C' w1 hown1 hg1 hat1; obtain ⟨q3, qf⟩ := (h0.out.ext (w' := ((w.alloc _).alloc _).drew) ((by repeat' (first | (with_reducible exact Ext.refl _) | (with_reducible assumption) | (with_reducible refine Ext.alloc ?_ _) | (with_reducible refine Ext.drew ?_) | (with_reducible refine Ext.drewN ?_ _) | (with_reducible refine Ext.setCell ?_ (by first | exact Nat.le_refl _ | (simp; done) | (simp; omega) | omega) _) | (with_reducible refine Ext.trans ?_ (by assumption)))))).grown1 hg1)
  all_goals
    have hP := Lib.hid ((h0.out.ext (w' := ((w.alloc _).alloc _).drew) ((by repeat' (first | (with_reducible exact Ext.refl _) | (with_reducible assumption) | (with_reducible refine Ext.alloc ?_ _) | (with_reducible refine Ext.drew ?_) | (with_reducible refine Ext.drewN ?_ _) | (with_reducible refine Ext.setCell ?_ (by first | exact Nat.le_refl _ | (simp; done) | (simp; omega) | omega) _) | (with_reducible refine Ext.trans ?_ (by assumption)))))).put1 (Fl.mk d s k) hown1 hg1 hat1)
    clear hown1 hg1 hat1 q3 qf
    go_wp2_with fail
    go_end0
    exact ⟨_, v2, rfl, hP.out.1, (Moved.of_ext ((by repeat' (first | (with_reducible exact Ext.refl _) | (with_reducible assumption) | (with_reducible refine Ext.alloc ?_ _) | (with_reducible refine Ext.drew ?_) | (with_reducible refine Ext.drewN ?_ _) | (with_reducible refine Ext.setCell ?_ (by first | exact Nat.le_refl _ | (simp; done) | (simp; omega) | omega) _) | (with_reducible refine Ext.trans ?_ (by assumption))))) b _ _).trans hP.out.2⟩

set_option maxRecDepth 100000 in
set_option maxHeartbeats 1600000 in
theorem rw_give (t : Te) (H : RwH a base b q id F C t) : RwH a base b q id F C (.give t) := by
  intro h qq w v1 v2 st d k ht hin hW hk hk0 hR
  obtain ⟨h1, h2, h3, h4⟩ := HT.tr_inv ht
  obtain ⟨x, hkk, hx⟩ := map_one h4
  obtain ⟨g, x', ha, hg, hx', hin1, c0, c1, c2, c3⟩ := hin.at (i := 0) (by rw [hkk]; simp)
  rw [hkk] at hx'
  obtain rfl : x = x' := by simpa using hx'
  obtain ⟨R1, R2⟩ := hR
  simp only [Te.nodes] at R1 R2
  have hkb := (Vd_iff k).1 hk
  have kl := hkb.1
  have kh := hkb.2
  have HA := fun W (hE : Ext w W) => H x qq W v1 v2 st d (-k) hx hin1 (hW.ext hE) (Vd_neg2 hk) (by omega) ⟨by omega, by omega⟩
  obtain ⟨k0, k1, k2, k3, k4, kf, kb⟩ := hW.cells
  replace c0 := hW.ea.cell c0
  replace c1 := hW.ea.cell c1
  replace c2 := hW.ea.cell c2
  replace c3 := hW.ea.cell c3
  have hgw := World.block_lt_of_cell? w _ c0
  unfold HT.val at *
  rw [h1, h2, h3, ha, hkk]
  simp only [List.length_cons, List.length_nil, Te.walk]
  generalize t.walk F C id d (-k) st = r at *
  clear h1 h2 h3 h4 hin ht hkk hx hx' hin1 ha hg hW H hk hkb
  generalize x.kd = x0 at *
  generalize x.s = x1 at *
  generalize x.n = x2 at *
  generalize x.a = x3 at *
  generalize x.k.length = x4 at *
  generalize x.c = x5 at *
  simp only [Nat.zero_mul, Nat.zero_add] at c0 c1 c2 c3 hgw
  go_enter Try.func122, Try.ntmps122
  (go_wp2_with fail; (with_reducible refine (HA _ ((by repeat' (first | (with_reducible exact Ext.refl _) | (with_reducible assumption) | (with_reducible refine Ext.alloc ?_ _) | (with_reducible refine Ext.drew ?_) | (with_reducible refine Ext.drewN ?_ _) | (with_reducible refine Ext.setCell ?_ (by first | exact Nat.le_refl _ | (simp; done) | (simp; omega) | omega) _) | (with_reducible refine Ext.trans ?_ (by assumption)))))).mono ?_); rintro e w' ⟨y1, y2, rfl, hw3, hm3⟩)
  go_wp2_with fail
  go_end0
  exact ⟨y1, y2, rfl, hw3, (Moved.of_ext ((by repeat' (first | (with_reducible exact Ext.refl _) | (with_reducible assumption) | (with_reducible refine Ext.alloc ?_ _) | (with_reducible refine Ext.drew ?_) | (with_reducible refine Ext.drewN ?_ _) | (with_reducible refine Ext.setCell ?_ (by first | exact Nat.le_refl _ | (simp; done) | (simp; omega) | omega) _) | (with_reducible refine Ext.trans ?_ (by assumption))))) b _ _).trans hm3⟩
/-- The walker's own block, and the box of the tree, behind a call. -/
theorem RWk.box {w w3 X : World} {v1 v2 y1 y2 : Value} {st : CSt} {er : Int} {cs : Array Value} (hW : RWk a base w b q id v1 v2 st er) (hX : X = w.alloc (.cells cs 76)) {X2 : World} (hx : Ext X X2) (hm : Moved X2 w3 b v1 v2 y1 y2) :
    w3.heap[w.heap.size]? = some (.cells cs 76 (0, 0)) := by
  obtain ⟨k0, k1, k2, k3, k4, kf, kb⟩ := hW.cells
  have h1 : X2.heap[w.heap.size]? = some (.cells cs 76 (0, 0)) := hx.obj (by rw [hX]; exact heap_alloc_new _ _)
  rw [hm.block _ (lt_of_obj h1) (by omega) (fun e => by have := (hW.fl.lt _ e).2; omega) (fun e => by have := (hW.wa.lt _ e).2; omega)]
  exact h1
set_option maxRecDepth 100000 in
set_option maxHeartbeats 3200000 in
theorem rw_and (l r : Te) (H1 : RwH a base b q id F C l) (H2 : RwH a base b q id F C r) : RwH a base b q id F C (.and l r) := by
  intro h qq w v1 v2 st d k ht hin hW hk hk0 hR
  obtain ⟨h1, h2, h3, h4⟩ := HT.tr_inv ht
  obtain ⟨x, y, hkk, hx, hy⟩ := map_two h4
  obtain ⟨g, x', ha, hg, hx', hin1, c0, c1, c2, c3⟩ := hin.at (i := 0) (by rw [hkk]; simp)
  obtain ⟨g', y', ha', _, hy', hin2, c4, c5, c6, c7⟩ := hin.at (i := 1) (by rw [hkk]; simp)
  rw [hkk] at hx' hy'
  obtain rfl : x = x' := by simpa using hx'
  obtain rfl : y = y' := by simpa using hy'
  obtain rfl : g = g' := by rw [ha] at ha'; injection ha' with e; injection e
  obtain ⟨R1, R2⟩ := hR
  simp only [Te.nodes] at R1 R2
  have HA := fun W (hE : Ext w W) => H1 x qq W v1 v2 st d k hx hin1 (hW.ext hE) hk hk0 ⟨by omega, by omega⟩
  have hlen := l.walk_len (F := F) (C := C) (id := id) d k st
  have HB := fun W y1 y2 (hW : RWk a base W b q id y1 y2 (l.walk F C id d k st).2 0) => H2 y qq W y1 y2 (l.walk F C id d k st).2 d k hy hin2 hW hk hk0 ⟨by omega, by omega⟩
  have HE := fun W y1 y2 (er : Int) (he : er ≠ 0) (hW : RWk a base W b q id y1 y2 (l.walk F C id d k st).2 er) => rw_err y W y1 y2 (l.walk F C id d k st).2 d k er hW he
  obtain ⟨k0, k1, k2, k3, k4, kf, kb⟩ := hW.cells
  have HC := Lib.hid (And.intro c4 (And.intro c5 (And.intro c6 c7)))
  replace c0 := hW.ea.cell c0
  replace c1 := hW.ea.cell c1
  replace c2 := hW.ea.cell c2
  replace c3 := hW.ea.cell c3
  have hgw := World.block_lt_of_cell? w _ c0
  have hS := Lib.hid (show (Te.and l r).walk F C id d k st = if (l.walk F C id d k st).1 = 0 then r.walk F C id d k (l.walk F C id d k st).2 else l.walk F C id d k st from rfl)
  unfold HT.val at *
  rw [h1, h2, h3, ha, hkk]
  simp only [List.length_cons, List.length_nil]
  generalize (Te.and l r).walk F C id d k st = R at *
  generalize l.walk F C id d k st = L at *
  have HW0 := Lib.hid hW
  clear h1 h2 h3 h4 hin ht hkk hx hx' hin1 ha hg hW H1 H2 hk hy hy' hin2 ha' c4 c5 c6 c7 hlen
  generalize x.kd = x0 at *
  generalize x.s = x1 at *
  generalize x.n = x2 at *
  generalize x.a = x3 at *
  generalize x.k.length = x4 at *
  generalize x.c = x5 at *
  generalize y.kd = m0 at *
  generalize y.s = m1 at *
  generalize y.n = m2 at *
  generalize y.a = m3 at *
  generalize y.k.length = m4 at *
  generalize y.c = m5 at *
  generalize h.c = hc at *
  simp only [Nat.zero_mul, Nat.zero_add] at c0 c1 c2 c3 hgw
  go_enter Try.func122, Try.ntmps122
  (go_wp2_with fail; (with_reducible refine (HA _ ((by repeat' (first | (with_reducible exact Ext.refl _) | (with_reducible assumption) | (with_reducible refine Ext.alloc ?_ _) | (with_reducible refine Ext.drew ?_) | (with_reducible refine Ext.drewN ?_ _) | (with_reducible refine Ext.setCell ?_ (by first | exact Nat.le_refl _ | (simp; done) | (simp; omega) | omega) _) | (with_reducible refine Ext.trans ?_ (by assumption)))))).mono ?_); rintro e w' ⟨y1, y2, rfl, hw3, hm3⟩)
  have hbx := HW0.out.box (w3 := w') rfl (Ext.refl _) hm3
  obtain ⟨e0, ef, el⟩ := obj_cells hbx
  have z3 := e0 3 _ rfl
  obtain ⟨c4, c5, c6, c7⟩ := HC.out
  replace c4 := hw3.ea.cell c4
  replace c5 := hw3.ea.cell c5
  replace c6 := hw3.ea.cell c6
  replace c7 := hw3.ea.cell c7
  simp only [Nat.one_mul, Nat.reduceAdd] at c4 c5 c6 c7
  have hw3h := Lib.hid hw3
  have hm3h := Lib.hid hm3
  by_cases he : L.1 = 0
  · rw [he] at hw3 hw3h
    have HB' := HB w' y1 y2 hw3
    have hR := Lib.hid (show R = r.walk F C id d k L.2 by rw [hS.out, if_pos he])
    clear HA HB HE hw3 hm3 hbx e0 c0 c1 c2 c3
    (go_wp2_with fail; (with_reducible refine HB'.mono ?_); rintro e w5 ⟨y3, y4, rfl, hw5, hm5⟩)
    go_wp2_with fail
    go_end0
    exact ⟨y3, y4, rfl, by rw [hR.out]; exact hw5, ((Moved.of_ext ((by repeat' (first | (with_reducible exact Ext.refl _) | (with_reducible assumption) | (with_reducible refine Ext.alloc ?_ _) | (with_reducible refine Ext.drew ?_) | (with_reducible refine Ext.drewN ?_ _) | (with_reducible refine Ext.setCell ?_ (by first | exact Nat.le_refl _ | (simp; done) | (simp; omega) | omega) _) | (with_reducible refine Ext.trans ?_ (by assumption))))) b _ _).trans hm3h.out).trans hm5⟩
  · have HE' := HE w' y1 y2 L.1 he hw3
    have hR := Lib.hid (show R = L by rw [hS.out, if_neg he])
    clear HA HB HE hw3 hm3 hbx e0 c0 c1 c2 c3
    (go_wp2_with fail; (with_reducible refine HE'.mono ?_); rintro e w5 ⟨y3, y4, rfl, hw5, hm5⟩)
    go_wp2_with fail
    go_end0
    exact ⟨y3, y4, rfl, by rw [hR.out]; exact hw5, ((Moved.of_ext ((by repeat' (first | (with_reducible exact Ext.refl _) | (with_reducible assumption) | (with_reducible refine Ext.alloc ?_ _) | (with_reducible refine Ext.drew ?_) | (with_reducible refine Ext.drewN ?_ _) | (with_reducible refine Ext.setCell ?_ (by first | exact Nat.le_refl _ | (simp; done) | (simp; omega) | omega) _) | (with_reducible refine Ext.trans ?_ (by assumption))))) b _ _).trans hm3h.out).trans hm5⟩
set_option maxRecDepth 100000 in
set_option maxHeartbeats 3200000 in
theorem rw_whn (n : Int) (t : Te) (H : RwH a base b q id F C t) : RwH a base b q id F C (.whn n t) := by
  intro h qq w v1 v2 st d k ht hin hW hk hk0 hR
  obtain ⟨h1, h2, h3, h4⟩ := HT.tr_inv ht
  obtain ⟨x, hkk, hx⟩ := map_one h4
  obtain ⟨g, x', ha, hg, hx', hin1, c0, c1, c2, c3⟩ := hin.at (i := 0) (by rw [hkk]; simp)
  rw [hkk] at hx'
  obtain rfl : x = x' := by simpa using hx'
  obtain ⟨R1, R2⟩ := hR
  simp only [Te.nodes] at R1 R2
  have HA := fun W (hE : Ext w W) => H x qq W v1 v2 st (Max.max d n) k hx hin1 (hW.ext hE) hk hk0 ⟨by omega, by omega⟩
  obtain ⟨k0, k1, k2, k3, k4, kf, kb⟩ := hW.cells
  simp only [Nat.zero_mul, Nat.zero_add] at c0 c1 c2 c3
  have HC := Lib.hid (And.intro c0 (And.intro c1 (And.intro c2 c3)))
  replace c0 := hW.ea.cell c0
  replace c1 := hW.ea.cell c1
  replace c2 := hW.ea.cell c2
  replace c3 := hW.ea.cell c3
  have hgw : g < w.heap.size := World.block_lt_of_cell? w _ c0
  have HW0 := Lib.hid hW
  unfold HT.val at *
  rw [h1, h2, h3, ha, hkk]
  simp only [List.length_cons, List.length_nil, Te.walk]
  generalize t.walk F C id (Max.max d n) k st = r at *
  clear h1 h2 h3 h4 hin ht hkk hx hx' hin1 ha hg hW H hk
  generalize x.kd = x0 at *
  generalize x.s = x1 at *
  generalize x.n = x2 at *
  generalize x.a = x3 at *
  generalize x.k.length = x4 at *
  generalize x.c = x5 at *
  generalize h.c = hc at *
  have hgw2 : g < w.heap.size + 1 := by omega
  have hmx : (d < n ∧ Max.max d n = n) ∨ (¬ d < n ∧ Max.max d n = d) := by omega
  rcases hmx with ⟨g1, g2⟩ | ⟨g1, g2⟩
  all_goals
    rw [g2] at HA
    clear g2
    go_enter Try.func122, Try.ntmps122
    go_upto_region 11 with fail
    go_region_held3 (fun W => W.cell? ⟨w.heap.size, 2, none⟩ = some (.int .i64 n) ∧ W.cell? ⟨w.heap.size, 3, none⟩ = some (.slice (some ⟨g, 0, none⟩) 1 hc) ∧ W.cell? ⟨g, 0, none⟩ = some (.int .i64 x0) ∧ W.cell? ⟨g, 1, none⟩ = some (.string x1) ∧ W.cell? ⟨g, 2, none⟩ = some (.int .i64 x2) ∧ W.cell? ⟨g, 3, none⟩ = some (.slice x3 x4 x5)) (go_keep)
      (first | (go_at_call 122; (with_reducible refine (HA _ ((by repeat' (first | (with_reducible exact Ext.refl _) | (with_reducible assumption) | (with_reducible refine Ext.alloc ?_ _) | (with_reducible refine Ext.drew ?_) | (with_reducible refine Ext.drewN ?_ _) | (with_reducible refine Ext.setCell ?_ (by first | exact Nat.le_refl _ | (simp; done) | (simp; omega) | omega) _) | (with_reducible refine Ext.trans ?_ (by assumption)))))).mono ?_); rintro e w3 ⟨y1, y2, rfl, hw3, hm3⟩; obtain ⟨e0, ef, el⟩ := obj_cells (HW0.out.box (w3 := w3) rfl ((by repeat' (first | (with_reducible exact Ext.refl _) | (with_reducible assumption) | (with_reducible refine Ext.alloc ?_ _) | (with_reducible refine Ext.drew ?_) | (with_reducible refine Ext.drewN ?_ _) | (with_reducible refine Ext.setCell ?_ (by first | exact Nat.le_refl _ | (simp; done) | (simp; omega) | omega) _) | (with_reducible refine Ext.trans ?_ (by assumption))))) hm3); have z2 := e0 2 _ rfl; have z3 := e0 3 _ rfl; have u0 := hw3.ea.cell HC.out.1; have u1 := hw3.ea.cell HC.out.2.1; have u2 := hw3.ea.cell HC.out.2.2.1; have u3 := hw3.ea.cell HC.out.2.2.2))
    go_wp2_with fail
    go_end0
    exact ⟨y1, y2, rfl, hw3, (Moved.of_ext ((by repeat' (first | (with_reducible exact Ext.refl _) | (with_reducible assumption) | (with_reducible refine Ext.alloc ?_ _) | (with_reducible refine Ext.drew ?_) | (with_reducible refine Ext.drewN ?_ _) | (with_reducible refine Ext.setCell ?_ (by first | exact Nat.le_refl _ | (simp; done) | (simp; omega) | omega) _) | (with_reducible refine Ext.trans ?_ (by assumption))))) b _ _).trans hm3⟩
end

end Go.Proofs.Ytgjjngkmbplijaa

/- The document's walker on a contract's tree (ref04.walker.walk): a choice. Printed by wip/src/mkrwalk2.py. -/
namespace Go.Proofs.Ytgjjngkmbplijaa
open Go.RowKit
set_option linter.unusedSimpArgs false
set_option linter.unusedVariables false

section
variable {a : World} {base b q : Nat} {id : ByteArray} {F : FixL} {C : ChL}
theorem choicesOk.pick {C : ChL} (h : choicesOk C) {k : ByteArray × ByteArray} {p e : Int} (hl : C.lookup k = some (p, e)) : p = 0 ∨ p = 1 := (h _ (lookup_mem hl)).2
set_option maxRecDepth 100000 in
set_option maxHeartbeats 6400000 in
theorem rw_or (ba : Nat) (u1 u2 : Value) (hRw : RWld ba a q u1 u2 F C) (hl : C.length ≤ 2 ^ 33) (hC : choicesOk C) (s : ByteArray) (l r : Te) (H1 : RwH a base b q id F C l) (H2 : RwH a base b q id F C r) : RwH a base b q id F C (.or s l r) := by
  intro h qq w v1 v2 st d k ht hin hW hk hk0 hRm
  obtain ⟨h1, h2, h3, h4⟩ := HT.tr_inv ht
  obtain ⟨x, y, hkk, hx, hy⟩ := map_two h4
  obtain ⟨g, x', ha, hg, hx', hin1, c0, c1, c2, c3⟩ := hin.at (i := 0) (by rw [hkk]; simp)
  obtain ⟨g', y', ha', _, hy', hin2, c4, c5, c6, c7⟩ := hin.at (i := 1) (by rw [hkk]; simp)
  rw [hkk] at hx' hy'
  obtain rfl : x = x' := by simpa using hx'
  obtain rfl : y = y' := by simpa using hy'
  obtain rfl : g = g' := by rw [ha] at ha'; injection ha' with e; injection e
  obtain ⟨R1, R2⟩ := hRm
  simp only [Te.nodes] at R1 R2
  simp only [Nat.zero_mul, Nat.one_mul, Nat.zero_add, Nat.reduceAdd] at c0 c1 c2 c3 c4 c5 c6 c7
  obtain ⟨k0, k1, k2, k3, k4, kf, kb⟩ := hW.cells
  have hgw : g < w.heap.size := World.block_lt_of_cell? w _ (hW.ea.cell c0)
  have HA := fun W d' (hW : RWk a base W b q id v1 v2 st 0) => H1 x qq W v1 v2 st d' k hx hin1 hW hk hk0 ⟨by omega, by omega⟩
  have HB := fun W d' (hW : RWk a base W b q id v1 v2 st 0) => H2 y qq W v1 v2 st d' k hy hin2 hW hk hk0 ⟨by omega, by omega⟩
  have HQ := fun W (z : Wa) (hW : RWk a base W b q id v1 v2 st 0) => rwait_calls a base W b q id v1 v2 st 0 z hW (by omega)
  have HCh := fun W (hE : Ext w W) => rchosen_calls ba W q u1 u2 F C id s (hRw.ext (hW.ea.trans hE)) hl
  have hcp := fun p e (hq : C.lookup (id, s) = some (p, e)) => hC.pick hq
  have HCa := Lib.hid (And.intro c0 (And.intro c1 (And.intro c2 (And.intro c3 (And.intro c4 (And.intro c5 (And.intro c6 c7)))))))
  have HW0 := Lib.hid hW
  simp only [Te.walk]
  unfold HT.val at *
  unfold Wa.val at HQ
  rw [h1, h2, h3, ha, hkk]
  simp only [List.length_cons, List.length_nil]
  clear h1 h2 h3 h4 hin ht hkk hx hx' hin1 ha hg hW H1 H2 hk hy hy' hin2 ha' c0 c1 c2 c3 c4 c5 c6 c7 hRw hC
  generalize x.kd = x0 at *
  generalize x.s = x1 at *
  generalize x.n = x2 at *
  generalize x.a = x3 at *
  generalize x.k.length = x4 at *
  generalize x.c = x5 at *
  generalize y.kd = m0 at *
  generalize y.s = m1 at *
  generalize y.n = m2 at *
  generalize y.a = m3 at *
  generalize y.k.length = m4 at *
  generalize y.c = m5 at *
  generalize h.c = hc at *
  generalize C.lookup (id, s) = lk at *
  unfold Ret3 at HCh
  have hgw2 : g < w.heap.size + 1 := by omega
  have hbw2 : b < w.heap.size + 1 := by omega
  rcases lk with _ | ⟨p, e⟩
  · simp only [Option.getD_none, Option.isSome_none] at HCh
    clear hcp
    rcases (by omega : 0 < k ∨ k < 0) with hsg | hsg
    · have hs1 : 0 < k := by omega
      have hs2 : ¬ k < 0 := by omega
      rw [if_pos hs1]
      go_enter Try.func122, Try.ntmps122
      go_upto_region 13 with fail
      go_region_held3 (fun W => W.cell? ⟨b, 0, none⟩ = some (.string id) ∧ W.cell? ⟨b, 1, none⟩ = some (.pointer (some ⟨q, 0, none⟩)) ∧ W.cell? ⟨w.heap.size, 1, none⟩ = some (.string s)) (go_keep)
        (first | (go_at_call 45; (with_reducible refine (HCh _ ((by repeat' (first | (with_reducible exact Ext.refl _) | (with_reducible assumption) | (with_reducible refine Ext.alloc ?_ _) | (with_reducible refine Ext.drew ?_) | (with_reducible refine Ext.drewN ?_ _) | (with_reducible refine Ext.setCell ?_ (by first | exact Nat.le_refl _ | (simp; done) | (simp; omega) | omega) _) | (with_reducible refine Ext.trans ?_ (by assumption)))))).mono ?_); rintro e0 w5 ⟨rfl, hx5⟩; have hE5 : Ext (w.alloc (.cells #[.int .i64 5, .string s, .int .i64 0, .slice (some ⟨g, 0, none⟩) 2 hc] 76)) w5 := ((by repeat' (first | (with_reducible exact Ext.refl _) | (with_reducible assumption) | (with_reducible refine Ext.alloc ?_ _) | (with_reducible refine Ext.drew ?_) | (with_reducible refine Ext.drewN ?_ _) | (with_reducible refine Ext.setCell ?_ (by first | exact Nat.le_refl _ | (simp; done) | (simp; omega) | omega) _) | (with_reducible refine Ext.trans ?_ (by assumption))))); have hE6 : Ext w w5 := ((Ext.refl w).alloc _).trans hE5; obtain ⟨k0, k1, k2, k3, k4, kf, kb⟩ := (HW0.out.ext hE6).cells; obtain ⟨e0, ef, el⟩ := obj_cells (hE5.obj (heap_alloc_new _ _)); have z1 := e0 1 _ rfl; have z3 := e0 3 _ rfl))
      have hE6h := Lib.hid hE6
      have hW6 := HW0.out.ext hE6
      obtain ⟨c0, c1, c2, c3, c4, c5, c6, c7⟩ := HCa.out
      replace c0 := hW6.ea.cell c0
      replace c1 := hW6.ea.cell c1
      replace c2 := hW6.ea.cell c2
      replace c3 := hW6.ea.cell c3
      replace c4 := hW6.ea.cell c4
      replace c5 := hW6.ea.cell c5
      replace c6 := hW6.ea.cell c6
      replace c7 := hW6.ea.cell c7
      have HQ' := HQ w5 ⟨true, ⟨#[]⟩, s, d, 0⟩ hW6
      clear hW6 hE6 hx5 hE5 e0 HA HB HCh
      (go_wp2_with fail; (with_reducible refine (HQ').mono ?_); rintro e1 w7 ⟨y1, y2, rfl, hw7, hm7⟩)
      go_wp2_with fail
      go_end0
      exact ⟨y1, y2, rfl, by simpa [waitSt] using hw7, (Moved.of_ext hE6h.out b _ _).trans hm7⟩
    · have hs1 : ¬ 0 < k := by omega
      have hs2 : k < 0 := by omega
      rw [if_neg hs1]
      go_enter Try.func122, Try.ntmps122
      go_upto_region 13 with fail
      go_region_held3 (fun W => W.cell? ⟨b, 0, none⟩ = some (.string id) ∧ W.cell? ⟨b, 1, none⟩ = some (.pointer (some ⟨q, 0, none⟩)) ∧ W.cell? ⟨w.heap.size, 1, none⟩ = some (.string s)) (go_keep)
        (first | (go_at_call 45; (with_reducible refine (HCh _ ((by repeat' (first | (with_reducible exact Ext.refl _) | (with_reducible assumption) | (with_reducible refine Ext.alloc ?_ _) | (with_reducible refine Ext.drew ?_) | (with_reducible refine Ext.drewN ?_ _) | (with_reducible refine Ext.setCell ?_ (by first | exact Nat.le_refl _ | (simp; done) | (simp; omega) | omega) _) | (with_reducible refine Ext.trans ?_ (by assumption)))))).mono ?_); rintro e0 w5 ⟨rfl, hx5⟩; have hE5 : Ext (w.alloc (.cells #[.int .i64 5, .string s, .int .i64 0, .slice (some ⟨g, 0, none⟩) 2 hc] 76)) w5 := ((by repeat' (first | (with_reducible exact Ext.refl _) | (with_reducible assumption) | (with_reducible refine Ext.alloc ?_ _) | (with_reducible refine Ext.drew ?_) | (with_reducible refine Ext.drewN ?_ _) | (with_reducible refine Ext.setCell ?_ (by first | exact Nat.le_refl _ | (simp; done) | (simp; omega) | omega) _) | (with_reducible refine Ext.trans ?_ (by assumption))))); have hE6 : Ext w w5 := ((Ext.refl w).alloc _).trans hE5; obtain ⟨k0, k1, k2, k3, k4, kf, kb⟩ := (HW0.out.ext hE6).cells; obtain ⟨e0, ef, el⟩ := obj_cells (hE5.obj (heap_alloc_new _ _)); have z1 := e0 1 _ rfl; have z3 := e0 3 _ rfl))
      have hE6h := Lib.hid hE6
      have hW6 := HW0.out.ext hE6
      obtain ⟨c0, c1, c2, c3, c4, c5, c6, c7⟩ := HCa.out
      replace c0 := hW6.ea.cell c0
      replace c1 := hW6.ea.cell c1
      replace c2 := hW6.ea.cell c2
      replace c3 := hW6.ea.cell c3
      replace c4 := hW6.ea.cell c4
      replace c5 := hW6.ea.cell c5
      replace c6 := hW6.ea.cell c6
      replace c7 := hW6.ea.cell c7
      have HQ' := HQ w5 ⟨true, ⟨#[]⟩, s, d, 1⟩ hW6
      clear hW6 hE6 hx5 hE5 e0 HA HB HCh
      (go_wp2_with fail; (with_reducible refine (HQ').mono ?_); rintro e1 w7 ⟨y1, y2, rfl, hw7, hm7⟩)
      go_wp2_with fail
      go_end0
      exact ⟨y1, y2, rfl, by simpa [waitSt] using hw7, (Moved.of_ext hE6h.out b _ _).trans hm7⟩
  · have hp := hcp p e rfl
    clear hcp
    simp only [Option.getD_some, Option.isSome_some] at HCh
    simp only
    rcases hp with rfl | rfl
    · rcases (by omega : (d < e ∧ Max.max d e = e) ∨ (¬ d < e ∧ Max.max d e = d)) with ⟨g1, g2⟩ | ⟨g1, g2⟩
      all_goals
        rw [if_pos rfl]
        rw [g2]
        clear g2
        go_enter Try.func122, Try.ntmps122
        go_upto_region 13 with fail
        go_region_held3 (fun W => W.cell? ⟨b, 0, none⟩ = some (.string id) ∧ W.cell? ⟨b, 1, none⟩ = some (.pointer (some ⟨q, 0, none⟩)) ∧ W.cell? ⟨w.heap.size, 1, none⟩ = some (.string s)) (go_keep)
          (first | (go_at_call 45; (with_reducible refine (HCh _ ((by repeat' (first | (with_reducible exact Ext.refl _) | (with_reducible assumption) | (with_reducible refine Ext.alloc ?_ _) | (with_reducible refine Ext.drew ?_) | (with_reducible refine Ext.drewN ?_ _) | (with_reducible refine Ext.setCell ?_ (by first | exact Nat.le_refl _ | (simp; done) | (simp; omega) | omega) _) | (with_reducible refine Ext.trans ?_ (by assumption)))))).mono ?_); rintro e0 w5 ⟨rfl, hx5⟩; have hE5 : Ext (w.alloc (.cells #[.int .i64 5, .string s, .int .i64 0, .slice (some ⟨g, 0, none⟩) 2 hc] 76)) w5 := ((by repeat' (first | (with_reducible exact Ext.refl _) | (with_reducible assumption) | (with_reducible refine Ext.alloc ?_ _) | (with_reducible refine Ext.drew ?_) | (with_reducible refine Ext.drewN ?_ _) | (with_reducible refine Ext.setCell ?_ (by first | exact Nat.le_refl _ | (simp; done) | (simp; omega) | omega) _) | (with_reducible refine Ext.trans ?_ (by assumption))))); have hE6 : Ext w w5 := ((Ext.refl w).alloc _).trans hE5; obtain ⟨k0, k1, k2, k3, k4, kf, kb⟩ := (HW0.out.ext hE6).cells; obtain ⟨e0, ef, el⟩ := obj_cells (hE5.obj (heap_alloc_new _ _)); have z1 := e0 1 _ rfl; have z3 := e0 3 _ rfl))
        have hE6h := Lib.hid hE6
        have hW6 := HW0.out.ext hE6
        obtain ⟨c0, c1, c2, c3, c4, c5, c6, c7⟩ := HCa.out
        replace c0 := hW6.ea.cell c0
        replace c1 := hW6.ea.cell c1
        replace c2 := hW6.ea.cell c2
        replace c3 := hW6.ea.cell c3
        replace c4 := hW6.ea.cell c4
        replace c5 := hW6.ea.cell c5
        replace c6 := hW6.ea.cell c6
        replace c7 := hW6.ea.cell c7
        have HQ' := fun d' => HA w5 d' hW6
        clear hW6 hE6 hx5 hE5 e0 HA HB HCh HQ
        (go_wp2_with fail; (with_reducible refine (HQ' _).mono ?_); rintro e1 w7 ⟨y1, y2, rfl, hw7, hm7⟩)
        go_wp2_with fail
        go_end0
        exact ⟨y1, y2, rfl, hw7, (Moved.of_ext hE6h.out b _ _).trans hm7⟩
    · rcases (by omega : (d < e ∧ Max.max d e = e) ∨ (¬ d < e ∧ Max.max d e = d)) with ⟨g1, g2⟩ | ⟨g1, g2⟩
      all_goals
        rw [if_neg (by decide)]
        rw [g2]
        clear g2
        go_enter Try.func122, Try.ntmps122
        go_upto_region 13 with fail
        go_region_held3 (fun W => W.cell? ⟨b, 0, none⟩ = some (.string id) ∧ W.cell? ⟨b, 1, none⟩ = some (.pointer (some ⟨q, 0, none⟩)) ∧ W.cell? ⟨w.heap.size, 1, none⟩ = some (.string s)) (go_keep)
          (first | (go_at_call 45; (with_reducible refine (HCh _ ((by repeat' (first | (with_reducible exact Ext.refl _) | (with_reducible assumption) | (with_reducible refine Ext.alloc ?_ _) | (with_reducible refine Ext.drew ?_) | (with_reducible refine Ext.drewN ?_ _) | (with_reducible refine Ext.setCell ?_ (by first | exact Nat.le_refl _ | (simp; done) | (simp; omega) | omega) _) | (with_reducible refine Ext.trans ?_ (by assumption)))))).mono ?_); rintro e0 w5 ⟨rfl, hx5⟩; have hE5 : Ext (w.alloc (.cells #[.int .i64 5, .string s, .int .i64 0, .slice (some ⟨g, 0, none⟩) 2 hc] 76)) w5 := ((by repeat' (first | (with_reducible exact Ext.refl _) | (with_reducible assumption) | (with_reducible refine Ext.alloc ?_ _) | (with_reducible refine Ext.drew ?_) | (with_reducible refine Ext.drewN ?_ _) | (with_reducible refine Ext.setCell ?_ (by first | exact Nat.le_refl _ | (simp; done) | (simp; omega) | omega) _) | (with_reducible refine Ext.trans ?_ (by assumption))))); have hE6 : Ext w w5 := ((Ext.refl w).alloc _).trans hE5; obtain ⟨k0, k1, k2, k3, k4, kf, kb⟩ := (HW0.out.ext hE6).cells; obtain ⟨e0, ef, el⟩ := obj_cells (hE5.obj (heap_alloc_new _ _)); have z1 := e0 1 _ rfl; have z3 := e0 3 _ rfl))
        have hE6h := Lib.hid hE6
        have hW6 := HW0.out.ext hE6
        obtain ⟨c0, c1, c2, c3, c4, c5, c6, c7⟩ := HCa.out
        replace c0 := hW6.ea.cell c0
        replace c1 := hW6.ea.cell c1
        replace c2 := hW6.ea.cell c2
        replace c3 := hW6.ea.cell c3
        replace c4 := hW6.ea.cell c4
        replace c5 := hW6.ea.cell c5
        replace c6 := hW6.ea.cell c6
        replace c7 := hW6.ea.cell c7
        have HQ' := fun d' => HB w5 d' hW6
        clear hW6 hE6 hx5 hE5 e0 HA HB HCh HQ
        (go_wp2_with fail; (with_reducible refine (HQ' _).mono ?_); rintro e1 w7 ⟨y1, y2, rfl, hw7, hm7⟩)
        go_wp2_with fail
        go_end0
        exact ⟨y1, y2, rfl, hw7, (Moved.of_ext hE6h.out b _ _).trans hm7⟩
end

end Go.Proofs.Ytgjjngkmbplijaa

/- The document's walker on a contract's tree (ref04.walker.walk): so many times, a test. Printed by wip/src/mkrwalk3.py. -/
namespace Go.Proofs.Ytgjjngkmbplijaa
open Go.RowKit
set_option linter.unusedSimpArgs false
set_option linter.unusedVariables false

theorem Ob.checked_small {o : Ob} (h : o.checked = 0) : o.nodes ≤ 60 := by
  unfold Ob.checked at h
  split at h
  · split at h
    · omega
    · omega
  · omega
theorem waitSt_fix (st : CSt) (d : Int) (s : ByteArray) : waitSt st (waitFix d s) = (st.1, addW st.2 (waitFix d s)) := by simp [waitSt, waitFix]
section
variable {a : World} {base b q : Nat} {id : ByteArray} {F : FixL} {C : ChL}
theorem map_three3 {k : List HT} {l r t : Tr} (h : k.map HT.tr = [l, r, t]) : ∃ x y z, k = [x, y, z] ∧ x.tr = l ∧ y.tr = r ∧ z.tr = t := by
  match k, h with
  | [x, y, z], h => simp at h; exact ⟨x, y, z, rfl, h.1, h.2.1, h.2.2⟩
set_option maxRecDepth 100000 in
set_option maxHeartbeats 6400000 in
theorem rw_scale (ba : Nat) (u1 u2 : Value) (hRw : RWld ba a q u1 u2 F C) (hlF : F.length ≤ 2 ^ 33) (hF : ∀ x ∈ F, Vd x.2 = true) (o : Ob) (hck : o.checked = 0) (t : Te) (H1 : RwH a base b q id F C t) : RwH a base b q id F C (.scale o t) := by
  intro h qq w v1 v2 st d k ht hin hW hk hk0 hRm
  obtain ⟨h1, h2, h3, h4⟩ := HT.tr_inv ht
  obtain ⟨x, y, hkk, hx, hy⟩ := map_two h4
  obtain ⟨g0, x', ha0, _, hx', hin0, c0, c1, c2, c3⟩ := hin.at (i := 0) (by rw [hkk]; simp)
  rw [hkk] at hx'
  obtain rfl : x = x' := by simpa using hx'
  obtain ⟨g1, y', ha1, _, hy', hin1, c4, c5, c6, c7⟩ := hin.at (i := 1) (by rw [hkk]; simp)
  rw [hkk] at hy'
  obtain rfl : y = y' := by simpa using hy'
  obtain rfl : g0 = g1 := by rw [ha0] at ha1; injection ha1 with e; injection e
  obtain ⟨R1, R2⟩ := hRm
  simp only [Te.nodes] at R1 R2
  simp only [Nat.zero_mul, Nat.one_mul, Nat.zero_add, Nat.reduceMul, Nat.reduceAdd] at c0 c1 c2 c3 c4 c5 c6 c7
  obtain ⟨k0, k1, k2, k3, k4, kf, kb⟩ := hW.cells
  have hgw : g0 < w.heap.size := World.block_lt_of_cell? w _ (hW.ea.cell c0)
  have hsm := Ob.checked_small hck
  have HV := fun W (hE : Ext w W) => rval_calls (base := ba) (p := q) (v1 := u1) (v2 := u2) (C := C) (d := d) hlF hF o (Ob.checked_form hck) x qq W hx (hin0.ext (hW.ea.trans hE)) (hRw.ext (hW.ea.trans hE))
  have HN := fun W (hE : Ext w W) => rneeds_calls ba q u1 u2 F C d o x qq W hx (hin0.ext (hW.ea.trans hE)) (by omega) hck hlF (hRw.ext (hW.ea.trans hE))
  have hnl := Nat.le_trans (o.needs_len F d) hsm
  have hnl2 := o.needs_len F d
  have tri := o.value_tri (F := F) (d := d)
  have HA1 := fun W k' (hk : Vd k' = true) (hk0 : k' ≠ 0) (hW : RWk a base W b q id v1 v2 st 0) => H1 y qq W v1 v2 st d k' hy hin1 hW hk hk0 ⟨by omega, by omega⟩
  have HQ := fun W (y1 y2 : Value) (L : List Wa) (s : ByteArray) (hL : L.length ≤ 2 ^ 33) (hW : RWk a base W b q id y1 y2 (st.1, L) 0) => rwait_calls a base W b q id y1 y2 (st.1, L) 0 (waitFix d s) hW hL
  have HCa := Lib.hid (And.intro c0 (And.intro c1 (And.intro c2 (And.intro c3 (And.intro c4 (And.intro c5 (And.intro c6 c7)))))))
  have HW0 := Lib.hid hW
  simp only [Te.walk]
  rw [Ob.ofV_yes hck]
  simp only [waitSt_fix, Wa.val, waitFix] at HQ
  unfold HT.val at *
  rw [h1, h2, h3, ha0, hkk]
  simp only [List.length_cons, List.length_nil]
  clear h1 h2 h3 h4 hin ht hkk hx hx' hin0 hin1 ha0 ha1 hW H1  hy hy'  c0 c1 c2 c3 c4 c5 c6 c7 hRw hck hF
  generalize x.kd = x0 at *
  generalize x.s = x1 at *
  generalize x.n = x2 at *
  generalize x.a = x3 at *
  generalize x.k.length = x4 at *
  generalize x.c = x5 at *
  generalize y.kd = m0 at *
  generalize y.s = m1 at *
  generalize y.n = m2 at *
  generalize y.a = m3 at *
  generalize y.k.length = m4 at *
  generalize y.c = m5 at *
  generalize h.c = hc at *
  generalize o.needs F d = N at *
  generalize o.value F d = kn at *
  have hgw2 : g0 < w.heap.size + 1 := by omega
  have hbw2 : b < w.heap.size + 1 := by omega
  rcases tri with ⟨v, rfl⟩ | rfl | rfl
  · simp only
    rw [if_neg (by decide), if_neg (by decide)]
    obtain ⟨z, ok, hz⟩ : ∃ z ok, mulS k v = (z, ok) := ⟨_, _, rfl⟩
    have HM := fun W => rmul_calls k v W
    have hvz := mulS_vd k v
    rw [hz] at HM hvz
    simp only [hz]
    unfold retIB at HM
    cases ok with
    | false =>
      rw [if_pos rfl]
      have hc0 := HCa.out
      replace hc0 := And.intro (HW0.out.ea.cell hc0.1) (And.intro (HW0.out.ea.cell hc0.2.1) (And.intro (HW0.out.ea.cell hc0.2.2.1) (HW0.out.ea.cell hc0.2.2.2.1)))
      obtain ⟨c0, c1, c2, c3⟩ := hc0
      go_enter Try.func122, Try.ntmps122
      go_upto_region 22 with fail
      go_region_held3 (fun W => W.cell? ⟨b, 1, none⟩ = some (.pointer (some ⟨q, 0, none⟩)) ∧ W.cell? ⟨w.heap.size, 3, none⟩ = some (.slice (some ⟨g0, 0, none⟩) 2 hc) ∧ W.cell? ⟨g0, 0, none⟩ = some (.int .i64 x0) ∧ W.cell? ⟨g0, 1, none⟩ = some (.string x1) ∧ W.cell? ⟨g0, 2, none⟩ = some (.int .i64 x2) ∧ W.cell? ⟨g0, 3, none⟩ = some (.slice x3 x4 x5)) (go_keep)
        (first | (go_at_call 70; (with_reducible refine (HV _ ((by repeat' (first | (with_reducible exact Ext.refl _) | (with_reducible assumption) | (with_reducible refine Ext.alloc ?_ _) | (with_reducible refine Ext.drew ?_) | (with_reducible refine Ext.drewN ?_ _) | (with_reducible refine Ext.setCell ?_ (by first | exact Nat.le_refl _ | (simp; done) | (simp; omega) | omega) _) | (with_reducible refine Ext.trans ?_ (by assumption)))))).mono ?_); rintro e0 w5 ⟨rfl, hx5⟩; have hE5 : Ext (w.alloc (.cells #[.int .i64 6, .string ⟨#[]⟩, .int .i64 0, .slice (some ⟨g0, 0, none⟩) 2 hc] 76)) w5 := ((by repeat' (first | (with_reducible exact Ext.refl _) | (with_reducible assumption) | (with_reducible refine Ext.alloc ?_ _) | (with_reducible refine Ext.drew ?_) | (with_reducible refine Ext.drewN ?_ _) | (with_reducible refine Ext.setCell ?_ (by first | exact Nat.le_refl _ | (simp; done) | (simp; omega) | omega) _) | (with_reducible refine Ext.trans ?_ (by assumption))))); have hE6 : Ext w w5 := ((Ext.refl w).alloc _).trans hE5; obtain ⟨k0, k1, k2, k3, k4, kf, kb⟩ := (HW0.out.ext hE6).cells; obtain ⟨e0, ef, el⟩ := obj_cells (hE5.obj (heap_alloc_new _ _)); have z0 := e0 0 _ rfl; have z3 := e0 3 _ rfl; have hWe := HW0.out.ext hE6; obtain ⟨c0, c1, c2, c3, c4, c5, c6, c7⟩ := HCa.out; replace c0 := hWe.ea.cell c0; replace c1 := hWe.ea.cell c1; replace c2 := hWe.ea.cell c2; replace c3 := hWe.ea.cell c3; replace c4 := hWe.ea.cell c4; replace c5 := hWe.ea.cell c5; replace c6 := hWe.ea.cell c6; replace c7 := hWe.ea.cell c7))
      have hE6h := Lib.hid hE6
      have hW6 := HW0.out.ext hE6
      have hW6h := Lib.hid hW6
      clear hx5 hE5 hE6 e0 hWe HV
      (go_wp2_with fail; (with_reducible refine (HM _).mono ?_); rintro e1 w7 ⟨rfl, rfl⟩)
      go_wp2_with fail
      go_end0
      exact ⟨v1, v2, rfl, (hW6h.out.err 6).1, (Moved.of_ext hE6h.out b _ _).trans (hW6h.out.err 6).2⟩
    | true =>
      rw [if_neg (by decide)]
      by_cases hz0 : z = 0
      · subst hz0
        rw [if_pos rfl]
        have hc0 := HCa.out
        replace hc0 := And.intro (HW0.out.ea.cell hc0.1) (And.intro (HW0.out.ea.cell hc0.2.1) (And.intro (HW0.out.ea.cell hc0.2.2.1) (HW0.out.ea.cell hc0.2.2.2.1)))
        obtain ⟨c0, c1, c2, c3⟩ := hc0
        go_enter Try.func122, Try.ntmps122
        go_upto_region 22 with fail
        go_region_held3 (fun W => W.cell? ⟨b, 1, none⟩ = some (.pointer (some ⟨q, 0, none⟩)) ∧ W.cell? ⟨w.heap.size, 3, none⟩ = some (.slice (some ⟨g0, 0, none⟩) 2 hc) ∧ W.cell? ⟨g0, 0, none⟩ = some (.int .i64 x0) ∧ W.cell? ⟨g0, 1, none⟩ = some (.string x1) ∧ W.cell? ⟨g0, 2, none⟩ = some (.int .i64 x2) ∧ W.cell? ⟨g0, 3, none⟩ = some (.slice x3 x4 x5)) (go_keep)
          (first | (go_at_call 70; (with_reducible refine (HV _ ((by repeat' (first | (with_reducible exact Ext.refl _) | (with_reducible assumption) | (with_reducible refine Ext.alloc ?_ _) | (with_reducible refine Ext.drew ?_) | (with_reducible refine Ext.drewN ?_ _) | (with_reducible refine Ext.setCell ?_ (by first | exact Nat.le_refl _ | (simp; done) | (simp; omega) | omega) _) | (with_reducible refine Ext.trans ?_ (by assumption)))))).mono ?_); rintro e0 w5 ⟨rfl, hx5⟩; have hE5 : Ext (w.alloc (.cells #[.int .i64 6, .string ⟨#[]⟩, .int .i64 0, .slice (some ⟨g0, 0, none⟩) 2 hc] 76)) w5 := ((by repeat' (first | (with_reducible exact Ext.refl _) | (with_reducible assumption) | (with_reducible refine Ext.alloc ?_ _) | (with_reducible refine Ext.drew ?_) | (with_reducible refine Ext.drewN ?_ _) | (with_reducible refine Ext.setCell ?_ (by first | exact Nat.le_refl _ | (simp; done) | (simp; omega) | omega) _) | (with_reducible refine Ext.trans ?_ (by assumption))))); have hE6 : Ext w w5 := ((Ext.refl w).alloc _).trans hE5; obtain ⟨k0, k1, k2, k3, k4, kf, kb⟩ := (HW0.out.ext hE6).cells; obtain ⟨e0, ef, el⟩ := obj_cells (hE5.obj (heap_alloc_new _ _)); have z0 := e0 0 _ rfl; have z3 := e0 3 _ rfl; have hWe := HW0.out.ext hE6; obtain ⟨c0, c1, c2, c3, c4, c5, c6, c7⟩ := HCa.out; replace c0 := hWe.ea.cell c0; replace c1 := hWe.ea.cell c1; replace c2 := hWe.ea.cell c2; replace c3 := hWe.ea.cell c3; replace c4 := hWe.ea.cell c4; replace c5 := hWe.ea.cell c5; replace c6 := hWe.ea.cell c6; replace c7 := hWe.ea.cell c7))
        have hE6h := Lib.hid hE6
        have hW6 := HW0.out.ext hE6
        have hW6h := Lib.hid hW6
        clear hx5 hE5 hE6 e0 hWe HV
        (go_wp2_with fail; (with_reducible refine (HM _).mono ?_); rintro e1 w7 ⟨rfl, rfl⟩)
        go_wp2_with fail
        go_end0
        exact ⟨v1, v2, rfl, hW6h.out, Moved.of_ext hE6h.out b _ _⟩
      · rw [if_neg hz0]
        have hzb : (z != 0) = true := by simpa using hz0
        have hc0 := HCa.out
        replace hc0 := And.intro (HW0.out.ea.cell hc0.1) (And.intro (HW0.out.ea.cell hc0.2.1) (And.intro (HW0.out.ea.cell hc0.2.2.1) (HW0.out.ea.cell hc0.2.2.2.1)))
        obtain ⟨c0, c1, c2, c3⟩ := hc0
        go_enter Try.func122, Try.ntmps122
        go_upto_region 22 with fail
        go_region_held3 (fun W => W.cell? ⟨b, 1, none⟩ = some (.pointer (some ⟨q, 0, none⟩)) ∧ W.cell? ⟨w.heap.size, 3, none⟩ = some (.slice (some ⟨g0, 0, none⟩) 2 hc) ∧ W.cell? ⟨g0, 0, none⟩ = some (.int .i64 x0) ∧ W.cell? ⟨g0, 1, none⟩ = some (.string x1) ∧ W.cell? ⟨g0, 2, none⟩ = some (.int .i64 x2) ∧ W.cell? ⟨g0, 3, none⟩ = some (.slice x3 x4 x5)) (go_keep)
          (first | (go_at_call 70; (with_reducible refine (HV _ ((by repeat' (first | (with_reducible exact Ext.refl _) | (with_reducible assumption) | (with_reducible refine Ext.alloc ?_ _) | (with_reducible refine Ext.drew ?_) | (with_reducible refine Ext.drewN ?_ _) | (with_reducible refine Ext.setCell ?_ (by first | exact Nat.le_refl _ | (simp; done) | (simp; omega) | omega) _) | (with_reducible refine Ext.trans ?_ (by assumption)))))).mono ?_); rintro e0 w5 ⟨rfl, hx5⟩; have hE5 : Ext (w.alloc (.cells #[.int .i64 6, .string ⟨#[]⟩, .int .i64 0, .slice (some ⟨g0, 0, none⟩) 2 hc] 76)) w5 := ((by repeat' (first | (with_reducible exact Ext.refl _) | (with_reducible assumption) | (with_reducible refine Ext.alloc ?_ _) | (with_reducible refine Ext.drew ?_) | (with_reducible refine Ext.drewN ?_ _) | (with_reducible refine Ext.setCell ?_ (by first | exact Nat.le_refl _ | (simp; done) | (simp; omega) | omega) _) | (with_reducible refine Ext.trans ?_ (by assumption))))); have hE6 : Ext w w5 := ((Ext.refl w).alloc _).trans hE5; obtain ⟨k0, k1, k2, k3, k4, kf, kb⟩ := (HW0.out.ext hE6).cells; obtain ⟨e0, ef, el⟩ := obj_cells (hE5.obj (heap_alloc_new _ _)); have z0 := e0 0 _ rfl; have z3 := e0 3 _ rfl; have hWe := HW0.out.ext hE6; obtain ⟨c0, c1, c2, c3, c4, c5, c6, c7⟩ := HCa.out; replace c0 := hWe.ea.cell c0; replace c1 := hWe.ea.cell c1; replace c2 := hWe.ea.cell c2; replace c3 := hWe.ea.cell c3; replace c4 := hWe.ea.cell c4; replace c5 := hWe.ea.cell c5; replace c6 := hWe.ea.cell c6; replace c7 := hWe.ea.cell c7))
        have hE6h := Lib.hid hE6
        have hW6 := HW0.out.ext hE6
        have hW6h := Lib.hid hW6
        have HA' := HA1 w5 z hvz hz0 hW6
        clear hx5 hE5 hE6 e0 hWe HV
        (go_wp2_with fail; (with_reducible refine (HM _).mono ?_); rintro e1 w7 ⟨rfl, rfl⟩)
        (go_wp2_with fail; (with_reducible refine (HA').mono ?_); rintro e1 w7 ⟨y1, y2, rfl, hw7, hm7⟩)
        go_wp2_with fail
        go_end0
        exact ⟨y1, y2, rfl, hw7, (Moved.of_ext hE6h.out b _ _).trans hm7⟩
  · simp only
    rw [if_neg (by decide), if_pos (by trivial)]
    have hc0 := HCa.out
    replace hc0 := And.intro (HW0.out.ea.cell hc0.1) (And.intro (HW0.out.ea.cell hc0.2.1) (And.intro (HW0.out.ea.cell hc0.2.2.1) (HW0.out.ea.cell hc0.2.2.2.1)))
    obtain ⟨c0, c1, c2, c3⟩ := hc0
    go_enter Try.func122, Try.ntmps122
    go_upto_region 22 with fail
    go_region_held3 (fun W => W.cell? ⟨b, 1, none⟩ = some (.pointer (some ⟨q, 0, none⟩)) ∧ W.cell? ⟨w.heap.size, 3, none⟩ = some (.slice (some ⟨g0, 0, none⟩) 2 hc) ∧ W.cell? ⟨g0, 0, none⟩ = some (.int .i64 x0) ∧ W.cell? ⟨g0, 1, none⟩ = some (.string x1) ∧ W.cell? ⟨g0, 2, none⟩ = some (.int .i64 x2) ∧ W.cell? ⟨g0, 3, none⟩ = some (.slice x3 x4 x5)) (go_keep)
      (first | (go_at_call 70; (with_reducible refine (HV _ ((by repeat' (first | (with_reducible exact Ext.refl _) | (with_reducible assumption) | (with_reducible refine Ext.alloc ?_ _) | (with_reducible refine Ext.drew ?_) | (with_reducible refine Ext.drewN ?_ _) | (with_reducible refine Ext.setCell ?_ (by first | exact Nat.le_refl _ | (simp; done) | (simp; omega) | omega) _) | (with_reducible refine Ext.trans ?_ (by assumption)))))).mono ?_); rintro e0 w5 ⟨rfl, hx5⟩; have hE5 : Ext (w.alloc (.cells #[.int .i64 6, .string ⟨#[]⟩, .int .i64 0, .slice (some ⟨g0, 0, none⟩) 2 hc] 76)) w5 := ((by repeat' (first | (with_reducible exact Ext.refl _) | (with_reducible assumption) | (with_reducible refine Ext.alloc ?_ _) | (with_reducible refine Ext.drew ?_) | (with_reducible refine Ext.drewN ?_ _) | (with_reducible refine Ext.setCell ?_ (by first | exact Nat.le_refl _ | (simp; done) | (simp; omega) | omega) _) | (with_reducible refine Ext.trans ?_ (by assumption))))); have hE6 : Ext w w5 := ((Ext.refl w).alloc _).trans hE5; obtain ⟨k0, k1, k2, k3, k4, kf, kb⟩ := (HW0.out.ext hE6).cells; obtain ⟨e0, ef, el⟩ := obj_cells (hE5.obj (heap_alloc_new _ _)); have z0 := e0 0 _ rfl; have z3 := e0 3 _ rfl; have hWe := HW0.out.ext hE6; obtain ⟨c0, c1, c2, c3, c4, c5, c6, c7⟩ := HCa.out; replace c0 := hWe.ea.cell c0; replace c1 := hWe.ea.cell c1; replace c2 := hWe.ea.cell c2; replace c3 := hWe.ea.cell c3; replace c4 := hWe.ea.cell c4; replace c5 := hWe.ea.cell c5; replace c6 := hWe.ea.cell c6; replace c7 := hWe.ea.cell c7))
    have hE6h := Lib.hid hE6
    have hW6 := HW0.out.ext hE6
    have hW6h := Lib.hid hW6
    go_upto_region 26 with fail
    have hgl6 : g0 < w5.heap.size := World.block_lt_of_cell? w5 _ c0
    go_region_held3 (fun W => W.cell? ⟨b, 1, none⟩ = some (.pointer (some ⟨q, 0, none⟩)) ∧ W.cell? ⟨w.heap.size, 3, none⟩ = some (.slice (some ⟨g0, 0, none⟩) 2 hc) ∧ W.cell? ⟨g0, 0, none⟩ = some (.int .i64 x0) ∧ W.cell? ⟨g0, 1, none⟩ = some (.string x1) ∧ W.cell? ⟨g0, 2, none⟩ = some (.int .i64 x2) ∧ W.cell? ⟨g0, 3, none⟩ = some (.slice x3 x4 x5)) (go_keep)
      (first | (go_at_call 71; (with_reducible refine (HN _ (Ext.trans hE6h.out ((by repeat' (first | (with_reducible exact Ext.refl _) | (with_reducible assumption) | (with_reducible refine Ext.alloc ?_ _) | (with_reducible refine Ext.drew ?_) | (with_reducible refine Ext.drewN ?_ _) | (with_reducible refine Ext.setCell ?_ (by first | exact Nat.le_refl _ | (simp; done) | (simp; omega) | omega) _) | (with_reducible refine Ext.trans ?_ (by assumption))))))).mono ?_); rintro e1 w6 ⟨nv, rfl, hno, hx6⟩; have hE7 : Ext w5 w6 := ((by repeat' (first | (with_reducible exact Ext.refl _) | (with_reducible assumption) | (with_reducible refine Ext.alloc ?_ _) | (with_reducible refine Ext.drew ?_) | (with_reducible refine Ext.drewN ?_ _) | (with_reducible refine Ext.setCell ?_ (by first | exact Nat.le_refl _ | (simp; done) | (simp; omega) | omega) _) | (with_reducible refine Ext.trans ?_ (by assumption))))); obtain ⟨k0, k1, k2, k3, k4, kf, kb⟩ := (hW6h.out.ext hE7).cells; replace z3 := hE7.cell z3; replace c0 := hE7.cell c0; replace c1 := hE7.cell c1; replace c2 := hE7.cell c2; replace c3 := hE7.cell c3; obtain ⟨A, Cn, rfl, hn1, hn2⟩ := own_form hno))
    have hW7 := hW6h.out.ext hE7
    have hEw := hE6h.out.trans hE7
    have hN0 := Lib.hid (Rd.of_own hno)
    have hq0 := Lib.hid (show ∀ ad, A = some ad → ad.block ≠ b ∧ v1.ownBlock ≠ some ad.block ∧ v2.ownBlock ≠ some ad.block from fun ad e => by
      have hb := hW6h.out.cells.2.2.2.2.2.2
      have hge : w5.heap.size ≤ ad.block := (hno.lt ad.block (by rw [e]; rfl)).1
      exact ⟨by omega, fun e2 => by have := (hW6h.out.fl.lt _ e2).2; omega, fun e2 => by have := (hW6h.out.wa.lt _ e2).2; omega⟩)
    have hW70 := Lib.hid hW7
    have hEw0 := Lib.hid hEw
    unfold maxLen at hn2
    clear hx5 hE5 hE6 e0 hWe HV HN hno hW7 hEw hE7 hx6 hW6
    go_wp2_with fail
    (try go_simp)
    go_wp2_with fail
    go_loopw [158] (fun i wr => ∃ (j : Nat) (y1 y2 : Value), j ≤ N.length ∧ i = .int .i64 j ∧ RWk a base wr b q id y1 y2 (st.1, waitsFor st.2 d (N.take j)) 0 ∧ Moved w6 wr b v1 v2 y1 y2) (fun i _ => N.length - (intOf i).toNat)
    case atStart => exact ⟨0, v1, v2, by omega, rfl, hW70.out, Moved.of_ext (Ext.refl w6) b v1 v2⟩
    case round =>
      obtain ⟨j, y1, y2, hj, rfl, hWr, hM⟩ := hrel
      by_cases hlt : j < N.length
      · obtain ⟨s, e1, hv⟩ := strVals_at hlt
        obtain ⟨ad, u, rfl, hu, hcs⟩ := (hN0.out.moved hM hq0.out).at1 hlt
        obtain rfl : Value.string s = u := by rw [hv] at hu; injection hu
        have hwl := waitsFor_len st.2 d (N.take j)
        rw [List.length_take] at hwl
        have hS := Lib.hid (waitsFor_take (L := st.2) (d := d) e1)
        have hj0 := Lib.hid (show j + 1 ≤ N.length from hlt)
        have HQ' := HQ wr y1 y2 (waitsFor st.2 d (N.take j)) s (by omega) hWr
        have hM0 := Lib.hid hM
        have hji : (j : Int) < (N.length : Int) := by omega
        have hji0 : (0 : Int) ≤ (j : Int) := by omega
        clear hv hu e1 hWr hM hwl HQ
        (go_wp2_with fail; (with_reducible refine HQ'.mono ?_); rintro e1 w8 ⟨y3, y4, rfl, hw8, hm8⟩)
        have hw8h := Lib.hid hw8
        clear hw8 HQ'
        go_wp2_with fail
        go_roundw
        case rel => exact ⟨j + 1, y3, y4, hj0.out, by go_num, by rw [hS.out]; exact hw8h.out, hM0.out.trans hm8⟩
        case measure => simp [intOf]; omega
      · obtain rfl : j = N.length := by omega
        rw [List.take_length] at hWr
        have hWr0 := Lib.hid hWr
        clear hWr HQ
        go_wp2_with fail
        go_end0
        exact ⟨y1, y2, rfl, hWr0.out, (Moved.of_ext hEw0.out b _ _).trans hM⟩
  · simp only
    rw [if_pos (by decide)]
    have hc0 := HCa.out
    replace hc0 := And.intro (HW0.out.ea.cell hc0.1) (And.intro (HW0.out.ea.cell hc0.2.1) (And.intro (HW0.out.ea.cell hc0.2.2.1) (HW0.out.ea.cell hc0.2.2.2.1)))
    obtain ⟨c0, c1, c2, c3⟩ := hc0
    go_enter Try.func122, Try.ntmps122
    go_upto_region 22 with fail
    go_region_held3 (fun W => W.cell? ⟨b, 1, none⟩ = some (.pointer (some ⟨q, 0, none⟩)) ∧ W.cell? ⟨w.heap.size, 3, none⟩ = some (.slice (some ⟨g0, 0, none⟩) 2 hc) ∧ W.cell? ⟨g0, 0, none⟩ = some (.int .i64 x0) ∧ W.cell? ⟨g0, 1, none⟩ = some (.string x1) ∧ W.cell? ⟨g0, 2, none⟩ = some (.int .i64 x2) ∧ W.cell? ⟨g0, 3, none⟩ = some (.slice x3 x4 x5)) (go_keep)
      (first | (go_at_call 70; (with_reducible refine (HV _ ((by repeat' (first | (with_reducible exact Ext.refl _) | (with_reducible assumption) | (with_reducible refine Ext.alloc ?_ _) | (with_reducible refine Ext.drew ?_) | (with_reducible refine Ext.drewN ?_ _) | (with_reducible refine Ext.setCell ?_ (by first | exact Nat.le_refl _ | (simp; done) | (simp; omega) | omega) _) | (with_reducible refine Ext.trans ?_ (by assumption)))))).mono ?_); rintro e0 w5 ⟨rfl, hx5⟩; have hE5 : Ext (w.alloc (.cells #[.int .i64 6, .string ⟨#[]⟩, .int .i64 0, .slice (some ⟨g0, 0, none⟩) 2 hc] 76)) w5 := ((by repeat' (first | (with_reducible exact Ext.refl _) | (with_reducible assumption) | (with_reducible refine Ext.alloc ?_ _) | (with_reducible refine Ext.drew ?_) | (with_reducible refine Ext.drewN ?_ _) | (with_reducible refine Ext.setCell ?_ (by first | exact Nat.le_refl _ | (simp; done) | (simp; omega) | omega) _) | (with_reducible refine Ext.trans ?_ (by assumption))))); have hE6 : Ext w w5 := ((Ext.refl w).alloc _).trans hE5; obtain ⟨k0, k1, k2, k3, k4, kf, kb⟩ := (HW0.out.ext hE6).cells; obtain ⟨e0, ef, el⟩ := obj_cells (hE5.obj (heap_alloc_new _ _)); have z0 := e0 0 _ rfl; have z3 := e0 3 _ rfl; have hWe := HW0.out.ext hE6; obtain ⟨c0, c1, c2, c3, c4, c5, c6, c7⟩ := HCa.out; replace c0 := hWe.ea.cell c0; replace c1 := hWe.ea.cell c1; replace c2 := hWe.ea.cell c2; replace c3 := hWe.ea.cell c3; replace c4 := hWe.ea.cell c4; replace c5 := hWe.ea.cell c5; replace c6 := hWe.ea.cell c6; replace c7 := hWe.ea.cell c7))
    have hE6h := Lib.hid hE6
    have hW6 := HW0.out.ext hE6
    have hW6h := Lib.hid hW6
    clear hx5 hE5 hE6 e0 hWe HV
    go_wp2_with fail
    go_end0
    exact ⟨v1, v2, rfl, (hW6h.out.err 6).1, (Moved.of_ext hE6h.out b _ _).trans (hW6h.out.err 6).2⟩
set_option maxRecDepth 100000 in
set_option maxHeartbeats 6400000 in
theorem rw_cond (ba : Nat) (u1 u2 : Value) (hRw : RWld ba a q u1 u2 F C) (hlF : F.length ≤ 2 ^ 33) (hF : ∀ x ∈ F, Vd x.2 = true) (o : Ob) (hck : o.checked = 0) (l r : Te) (H1 : RwH a base b q id F C l) (H2 : RwH a base b q id F C r) : RwH a base b q id F C (.cond o l r) := by
  intro h qq w v1 v2 st d k ht hin hW hk hk0 hRm
  obtain ⟨h1, h2, h3, h4⟩ := HT.tr_inv ht
  obtain ⟨x, y, z, hkk, hx, hy, hz⟩ := map_three3 h4
  obtain ⟨g0, x', ha0, _, hx', hin0, c0, c1, c2, c3⟩ := hin.at (i := 0) (by rw [hkk]; simp)
  rw [hkk] at hx'
  obtain rfl : x = x' := by simpa using hx'
  obtain ⟨g1, y', ha1, _, hy', hin1, c4, c5, c6, c7⟩ := hin.at (i := 1) (by rw [hkk]; simp)
  rw [hkk] at hy'
  obtain rfl : y = y' := by simpa using hy'
  obtain ⟨g2, z', ha2, _, hz', hin2, c8, c9, c10, c11⟩ := hin.at (i := 2) (by rw [hkk]; simp)
  rw [hkk] at hz'
  obtain rfl : z = z' := by simpa using hz'
  obtain rfl : g0 = g1 := by rw [ha0] at ha1; injection ha1 with e; injection e
  obtain rfl : g0 = g2 := by rw [ha0] at ha2; injection ha2 with e; injection e
  obtain ⟨R1, R2⟩ := hRm
  simp only [Te.nodes] at R1 R2
  simp only [Nat.zero_mul, Nat.one_mul, Nat.zero_add, Nat.reduceMul, Nat.reduceAdd] at c0 c1 c2 c3 c4 c5 c6 c7 c8 c9 c10 c11
  obtain ⟨k0, k1, k2, k3, k4, kf, kb⟩ := hW.cells
  have hgw : g0 < w.heap.size := World.block_lt_of_cell? w _ (hW.ea.cell c0)
  have hsm := Ob.checked_small hck
  have HV := fun W (hE : Ext w W) => rval_calls (base := ba) (p := q) (v1 := u1) (v2 := u2) (C := C) (d := d) hlF hF o (Ob.checked_form hck) x qq W hx (hin0.ext (hW.ea.trans hE)) (hRw.ext (hW.ea.trans hE))
  have HN := fun W (hE : Ext w W) => rneeds_calls ba q u1 u2 F C d o x qq W hx (hin0.ext (hW.ea.trans hE)) (by omega) hck hlF (hRw.ext (hW.ea.trans hE))
  have hnl := Nat.le_trans (o.needs_len F d) hsm
  have hnl2 := o.needs_len F d
  have tri := o.value_tri (F := F) (d := d)
  have HA1 := fun W k' (hk : Vd k' = true) (hk0 : k' ≠ 0) (hW : RWk a base W b q id v1 v2 st 0) => H1 y qq W v1 v2 st d k' hy hin1 hW hk hk0 ⟨by omega, by omega⟩
  have HA2 := fun W k' (hk : Vd k' = true) (hk0 : k' ≠ 0) (hW : RWk a base W b q id v1 v2 st 0) => H2 z qq W v1 v2 st d k' hz hin2 hW hk hk0 ⟨by omega, by omega⟩
  have HQ := fun W (y1 y2 : Value) (L : List Wa) (s : ByteArray) (hL : L.length ≤ 2 ^ 33) (hW : RWk a base W b q id y1 y2 (st.1, L) 0) => rwait_calls a base W b q id y1 y2 (st.1, L) 0 (waitFix d s) hW hL
  have HCa := Lib.hid (And.intro c0 (And.intro c1 (And.intro c2 (And.intro c3 (And.intro c4 (And.intro c5 (And.intro c6 (And.intro c7 (And.intro c8 (And.intro c9 (And.intro c10 c11)))))))))))
  have HW0 := Lib.hid hW
  simp only [Te.walk]
  rw [Ob.ofV_yes hck]
  simp only [waitSt_fix, Wa.val, waitFix] at HQ
  unfold HT.val at *
  rw [h1, h2, h3, ha0, hkk]
  simp only [List.length_cons, List.length_nil]
  clear h1 h2 h3 h4 hin ht hkk hx hx' hin0 hin1 hin2 ha0 ha1 ha2 hW H1 H2 hy hy' hz hz' c0 c1 c2 c3 c4 c5 c6 c7 c8 c9 c10 c11 hRw hck hF
  generalize x.kd = x0 at *
  generalize x.s = x1 at *
  generalize x.n = x2 at *
  generalize x.a = x3 at *
  generalize x.k.length = x4 at *
  generalize x.c = x5 at *
  generalize y.kd = m0 at *
  generalize y.s = m1 at *
  generalize y.n = m2 at *
  generalize y.a = m3 at *
  generalize y.k.length = m4 at *
  generalize y.c = m5 at *
  generalize z.kd = r0 at *
  generalize z.s = r1 at *
  generalize z.n = r2 at *
  generalize z.a = r3 at *
  generalize z.k.length = r4 at *
  generalize z.c = r5 at *
  generalize h.c = hc at *
  generalize o.needs F d = N at *
  generalize o.value F d = kn at *
  have hgw2 : g0 < w.heap.size + 1 := by omega
  have hbw2 : b < w.heap.size + 1 := by omega
  rcases tri with ⟨v, rfl⟩ | rfl | rfl
  · simp only
    rw [if_neg (by decide), if_neg (by decide)]
    by_cases hv0 : 0 < v
    · rw [if_pos hv0]
      have hc0 := HCa.out
      replace hc0 := And.intro (HW0.out.ea.cell hc0.1) (And.intro (HW0.out.ea.cell hc0.2.1) (And.intro (HW0.out.ea.cell hc0.2.2.1) (HW0.out.ea.cell hc0.2.2.2.1)))
      obtain ⟨c0, c1, c2, c3⟩ := hc0
      go_enter Try.func122, Try.ntmps122
      go_upto_region 22 with fail
      go_region_held3 (fun W => W.cell? ⟨b, 1, none⟩ = some (.pointer (some ⟨q, 0, none⟩)) ∧ W.cell? ⟨w.heap.size, 3, none⟩ = some (.slice (some ⟨g0, 0, none⟩) 3 hc) ∧ W.cell? ⟨g0, 0, none⟩ = some (.int .i64 x0) ∧ W.cell? ⟨g0, 1, none⟩ = some (.string x1) ∧ W.cell? ⟨g0, 2, none⟩ = some (.int .i64 x2) ∧ W.cell? ⟨g0, 3, none⟩ = some (.slice x3 x4 x5)) (go_keep)
        (first | (go_at_call 70; (with_reducible refine (HV _ ((by repeat' (first | (with_reducible exact Ext.refl _) | (with_reducible assumption) | (with_reducible refine Ext.alloc ?_ _) | (with_reducible refine Ext.drew ?_) | (with_reducible refine Ext.drewN ?_ _) | (with_reducible refine Ext.setCell ?_ (by first | exact Nat.le_refl _ | (simp; done) | (simp; omega) | omega) _) | (with_reducible refine Ext.trans ?_ (by assumption)))))).mono ?_); rintro e0 w5 ⟨rfl, hx5⟩; have hE5 : Ext (w.alloc (.cells #[.int .i64 8, .string ⟨#[]⟩, .int .i64 0, .slice (some ⟨g0, 0, none⟩) 3 hc] 76)) w5 := ((by repeat' (first | (with_reducible exact Ext.refl _) | (with_reducible assumption) | (with_reducible refine Ext.alloc ?_ _) | (with_reducible refine Ext.drew ?_) | (with_reducible refine Ext.drewN ?_ _) | (with_reducible refine Ext.setCell ?_ (by first | exact Nat.le_refl _ | (simp; done) | (simp; omega) | omega) _) | (with_reducible refine Ext.trans ?_ (by assumption))))); have hE6 : Ext w w5 := ((Ext.refl w).alloc _).trans hE5; obtain ⟨k0, k1, k2, k3, k4, kf, kb⟩ := (HW0.out.ext hE6).cells; obtain ⟨e0, ef, el⟩ := obj_cells (hE5.obj (heap_alloc_new _ _)); have z0 := e0 0 _ rfl; have z3 := e0 3 _ rfl; have hWe := HW0.out.ext hE6; obtain ⟨c0, c1, c2, c3, c4, c5, c6, c7, c8, c9, c10, c11⟩ := HCa.out; replace c0 := hWe.ea.cell c0; replace c1 := hWe.ea.cell c1; replace c2 := hWe.ea.cell c2; replace c3 := hWe.ea.cell c3; replace c4 := hWe.ea.cell c4; replace c5 := hWe.ea.cell c5; replace c6 := hWe.ea.cell c6; replace c7 := hWe.ea.cell c7; replace c8 := hWe.ea.cell c8; replace c9 := hWe.ea.cell c9; replace c10 := hWe.ea.cell c10; replace c11 := hWe.ea.cell c11))
      have hE6h := Lib.hid hE6
      have hW6 := HW0.out.ext hE6
      have hW6h := Lib.hid hW6
      have HA' := HA1 w5 k hk hk0 hW6
      clear hx5 hE5 hE6 e0 hWe HV
      (go_wp2_with fail; (with_reducible refine (HA').mono ?_); rintro e1 w7 ⟨y1, y2, rfl, hw7, hm7⟩)
      go_wp2_with fail
      go_end0
      exact ⟨y1, y2, rfl, hw7, (Moved.of_ext hE6h.out b _ _).trans hm7⟩
    · rw [if_neg hv0]
      have hc0 := HCa.out
      replace hc0 := And.intro (HW0.out.ea.cell hc0.1) (And.intro (HW0.out.ea.cell hc0.2.1) (And.intro (HW0.out.ea.cell hc0.2.2.1) (HW0.out.ea.cell hc0.2.2.2.1)))
      obtain ⟨c0, c1, c2, c3⟩ := hc0
      go_enter Try.func122, Try.ntmps122
      go_upto_region 22 with fail
      go_region_held3 (fun W => W.cell? ⟨b, 1, none⟩ = some (.pointer (some ⟨q, 0, none⟩)) ∧ W.cell? ⟨w.heap.size, 3, none⟩ = some (.slice (some ⟨g0, 0, none⟩) 3 hc) ∧ W.cell? ⟨g0, 0, none⟩ = some (.int .i64 x0) ∧ W.cell? ⟨g0, 1, none⟩ = some (.string x1) ∧ W.cell? ⟨g0, 2, none⟩ = some (.int .i64 x2) ∧ W.cell? ⟨g0, 3, none⟩ = some (.slice x3 x4 x5)) (go_keep)
        (first | (go_at_call 70; (with_reducible refine (HV _ ((by repeat' (first | (with_reducible exact Ext.refl _) | (with_reducible assumption) | (with_reducible refine Ext.alloc ?_ _) | (with_reducible refine Ext.drew ?_) | (with_reducible refine Ext.drewN ?_ _) | (with_reducible refine Ext.setCell ?_ (by first | exact Nat.le_refl _ | (simp; done) | (simp; omega) | omega) _) | (with_reducible refine Ext.trans ?_ (by assumption)))))).mono ?_); rintro e0 w5 ⟨rfl, hx5⟩; have hE5 : Ext (w.alloc (.cells #[.int .i64 8, .string ⟨#[]⟩, .int .i64 0, .slice (some ⟨g0, 0, none⟩) 3 hc] 76)) w5 := ((by repeat' (first | (with_reducible exact Ext.refl _) | (with_reducible assumption) | (with_reducible refine Ext.alloc ?_ _) | (with_reducible refine Ext.drew ?_) | (with_reducible refine Ext.drewN ?_ _) | (with_reducible refine Ext.setCell ?_ (by first | exact Nat.le_refl _ | (simp; done) | (simp; omega) | omega) _) | (with_reducible refine Ext.trans ?_ (by assumption))))); have hE6 : Ext w w5 := ((Ext.refl w).alloc _).trans hE5; obtain ⟨k0, k1, k2, k3, k4, kf, kb⟩ := (HW0.out.ext hE6).cells; obtain ⟨e0, ef, el⟩ := obj_cells (hE5.obj (heap_alloc_new _ _)); have z0 := e0 0 _ rfl; have z3 := e0 3 _ rfl; have hWe := HW0.out.ext hE6; obtain ⟨c0, c1, c2, c3, c4, c5, c6, c7, c8, c9, c10, c11⟩ := HCa.out; replace c0 := hWe.ea.cell c0; replace c1 := hWe.ea.cell c1; replace c2 := hWe.ea.cell c2; replace c3 := hWe.ea.cell c3; replace c4 := hWe.ea.cell c4; replace c5 := hWe.ea.cell c5; replace c6 := hWe.ea.cell c6; replace c7 := hWe.ea.cell c7; replace c8 := hWe.ea.cell c8; replace c9 := hWe.ea.cell c9; replace c10 := hWe.ea.cell c10; replace c11 := hWe.ea.cell c11))
      have hE6h := Lib.hid hE6
      have hW6 := HW0.out.ext hE6
      have hW6h := Lib.hid hW6
      have HA' := HA2 w5 k hk hk0 hW6
      clear hx5 hE5 hE6 e0 hWe HV
      (go_wp2_with fail; (with_reducible refine (HA').mono ?_); rintro e1 w7 ⟨y1, y2, rfl, hw7, hm7⟩)
      go_wp2_with fail
      go_end0
      exact ⟨y1, y2, rfl, hw7, (Moved.of_ext hE6h.out b _ _).trans hm7⟩
  · simp only
    rw [if_neg (by decide), if_pos (by trivial)]
    have hc0 := HCa.out
    replace hc0 := And.intro (HW0.out.ea.cell hc0.1) (And.intro (HW0.out.ea.cell hc0.2.1) (And.intro (HW0.out.ea.cell hc0.2.2.1) (HW0.out.ea.cell hc0.2.2.2.1)))
    obtain ⟨c0, c1, c2, c3⟩ := hc0
    go_enter Try.func122, Try.ntmps122
    go_upto_region 22 with fail
    go_region_held3 (fun W => W.cell? ⟨b, 1, none⟩ = some (.pointer (some ⟨q, 0, none⟩)) ∧ W.cell? ⟨w.heap.size, 3, none⟩ = some (.slice (some ⟨g0, 0, none⟩) 3 hc) ∧ W.cell? ⟨g0, 0, none⟩ = some (.int .i64 x0) ∧ W.cell? ⟨g0, 1, none⟩ = some (.string x1) ∧ W.cell? ⟨g0, 2, none⟩ = some (.int .i64 x2) ∧ W.cell? ⟨g0, 3, none⟩ = some (.slice x3 x4 x5)) (go_keep)
      (first | (go_at_call 70; (with_reducible refine (HV _ ((by repeat' (first | (with_reducible exact Ext.refl _) | (with_reducible assumption) | (with_reducible refine Ext.alloc ?_ _) | (with_reducible refine Ext.drew ?_) | (with_reducible refine Ext.drewN ?_ _) | (with_reducible refine Ext.setCell ?_ (by first | exact Nat.le_refl _ | (simp; done) | (simp; omega) | omega) _) | (with_reducible refine Ext.trans ?_ (by assumption)))))).mono ?_); rintro e0 w5 ⟨rfl, hx5⟩; have hE5 : Ext (w.alloc (.cells #[.int .i64 8, .string ⟨#[]⟩, .int .i64 0, .slice (some ⟨g0, 0, none⟩) 3 hc] 76)) w5 := ((by repeat' (first | (with_reducible exact Ext.refl _) | (with_reducible assumption) | (with_reducible refine Ext.alloc ?_ _) | (with_reducible refine Ext.drew ?_) | (with_reducible refine Ext.drewN ?_ _) | (with_reducible refine Ext.setCell ?_ (by first | exact Nat.le_refl _ | (simp; done) | (simp; omega) | omega) _) | (with_reducible refine Ext.trans ?_ (by assumption))))); have hE6 : Ext w w5 := ((Ext.refl w).alloc _).trans hE5; obtain ⟨k0, k1, k2, k3, k4, kf, kb⟩ := (HW0.out.ext hE6).cells; obtain ⟨e0, ef, el⟩ := obj_cells (hE5.obj (heap_alloc_new _ _)); have z0 := e0 0 _ rfl; have z3 := e0 3 _ rfl; have hWe := HW0.out.ext hE6; obtain ⟨c0, c1, c2, c3, c4, c5, c6, c7, c8, c9, c10, c11⟩ := HCa.out; replace c0 := hWe.ea.cell c0; replace c1 := hWe.ea.cell c1; replace c2 := hWe.ea.cell c2; replace c3 := hWe.ea.cell c3; replace c4 := hWe.ea.cell c4; replace c5 := hWe.ea.cell c5; replace c6 := hWe.ea.cell c6; replace c7 := hWe.ea.cell c7; replace c8 := hWe.ea.cell c8; replace c9 := hWe.ea.cell c9; replace c10 := hWe.ea.cell c10; replace c11 := hWe.ea.cell c11))
    have hE6h := Lib.hid hE6
    have hW6 := HW0.out.ext hE6
    have hW6h := Lib.hid hW6
    go_upto_region 26 with fail
    have hgl6 : g0 < w5.heap.size := World.block_lt_of_cell? w5 _ c0
    go_region_held3 (fun W => W.cell? ⟨b, 1, none⟩ = some (.pointer (some ⟨q, 0, none⟩)) ∧ W.cell? ⟨w.heap.size, 3, none⟩ = some (.slice (some ⟨g0, 0, none⟩) 3 hc) ∧ W.cell? ⟨g0, 0, none⟩ = some (.int .i64 x0) ∧ W.cell? ⟨g0, 1, none⟩ = some (.string x1) ∧ W.cell? ⟨g0, 2, none⟩ = some (.int .i64 x2) ∧ W.cell? ⟨g0, 3, none⟩ = some (.slice x3 x4 x5)) (go_keep)
      (first | (go_at_call 71; (with_reducible refine (HN _ (Ext.trans hE6h.out ((by repeat' (first | (with_reducible exact Ext.refl _) | (with_reducible assumption) | (with_reducible refine Ext.alloc ?_ _) | (with_reducible refine Ext.drew ?_) | (with_reducible refine Ext.drewN ?_ _) | (with_reducible refine Ext.setCell ?_ (by first | exact Nat.le_refl _ | (simp; done) | (simp; omega) | omega) _) | (with_reducible refine Ext.trans ?_ (by assumption))))))).mono ?_); rintro e1 w6 ⟨nv, rfl, hno, hx6⟩; have hE7 : Ext w5 w6 := ((by repeat' (first | (with_reducible exact Ext.refl _) | (with_reducible assumption) | (with_reducible refine Ext.alloc ?_ _) | (with_reducible refine Ext.drew ?_) | (with_reducible refine Ext.drewN ?_ _) | (with_reducible refine Ext.setCell ?_ (by first | exact Nat.le_refl _ | (simp; done) | (simp; omega) | omega) _) | (with_reducible refine Ext.trans ?_ (by assumption))))); obtain ⟨k0, k1, k2, k3, k4, kf, kb⟩ := (hW6h.out.ext hE7).cells; replace z3 := hE7.cell z3; replace c0 := hE7.cell c0; replace c1 := hE7.cell c1; replace c2 := hE7.cell c2; replace c3 := hE7.cell c3; obtain ⟨A, Cn, rfl, hn1, hn2⟩ := own_form hno))
    have hW7 := hW6h.out.ext hE7
    have hEw := hE6h.out.trans hE7
    have hN0 := Lib.hid (Rd.of_own hno)
    have hq0 := Lib.hid (show ∀ ad, A = some ad → ad.block ≠ b ∧ v1.ownBlock ≠ some ad.block ∧ v2.ownBlock ≠ some ad.block from fun ad e => by
      have hb := hW6h.out.cells.2.2.2.2.2.2
      have hge : w5.heap.size ≤ ad.block := (hno.lt ad.block (by rw [e]; rfl)).1
      exact ⟨by omega, fun e2 => by have := (hW6h.out.fl.lt _ e2).2; omega, fun e2 => by have := (hW6h.out.wa.lt _ e2).2; omega⟩)
    have hW70 := Lib.hid hW7
    have hEw0 := Lib.hid hEw
    unfold maxLen at hn2
    clear hx5 hE5 hE6 e0 hWe HV HN hno hW7 hEw hE7 hx6 hW6
    go_wp2_with fail
    (try go_simp)
    go_wp2_with fail
    go_loopw [158] (fun i wr => ∃ (j : Nat) (y1 y2 : Value), j ≤ N.length ∧ i = .int .i64 j ∧ RWk a base wr b q id y1 y2 (st.1, waitsFor st.2 d (N.take j)) 0 ∧ Moved w6 wr b v1 v2 y1 y2) (fun i _ => N.length - (intOf i).toNat)
    case atStart => exact ⟨0, v1, v2, by omega, rfl, hW70.out, Moved.of_ext (Ext.refl w6) b v1 v2⟩
    case round =>
      obtain ⟨j, y1, y2, hj, rfl, hWr, hM⟩ := hrel
      by_cases hlt : j < N.length
      · obtain ⟨s, e1, hv⟩ := strVals_at hlt
        obtain ⟨ad, u, rfl, hu, hcs⟩ := (hN0.out.moved hM hq0.out).at1 hlt
        obtain rfl : Value.string s = u := by rw [hv] at hu; injection hu
        have hwl := waitsFor_len st.2 d (N.take j)
        rw [List.length_take] at hwl
        have hS := Lib.hid (waitsFor_take (L := st.2) (d := d) e1)
        have hj0 := Lib.hid (show j + 1 ≤ N.length from hlt)
        have HQ' := HQ wr y1 y2 (waitsFor st.2 d (N.take j)) s (by omega) hWr
        have hM0 := Lib.hid hM
        have hji : (j : Int) < (N.length : Int) := by omega
        have hji0 : (0 : Int) ≤ (j : Int) := by omega
        clear hv hu e1 hWr hM hwl HQ
        (go_wp2_with fail; (with_reducible refine HQ'.mono ?_); rintro e1 w8 ⟨y3, y4, rfl, hw8, hm8⟩)
        have hw8h := Lib.hid hw8
        clear hw8 HQ'
        go_wp2_with fail
        go_roundw
        case rel => exact ⟨j + 1, y3, y4, hj0.out, by go_num, by rw [hS.out]; exact hw8h.out, hM0.out.trans hm8⟩
        case measure => simp [intOf]; omega
      · obtain rfl : j = N.length := by omega
        rw [List.take_length] at hWr
        have hWr0 := Lib.hid hWr
        clear hWr HQ
        go_wp2_with fail
        go_end0
        exact ⟨y1, y2, rfl, hWr0.out, (Moved.of_ext hEw0.out b _ _).trans hM⟩
  · simp only
    rw [if_pos (by decide)]
    have hc0 := HCa.out
    replace hc0 := And.intro (HW0.out.ea.cell hc0.1) (And.intro (HW0.out.ea.cell hc0.2.1) (And.intro (HW0.out.ea.cell hc0.2.2.1) (HW0.out.ea.cell hc0.2.2.2.1)))
    obtain ⟨c0, c1, c2, c3⟩ := hc0
    go_enter Try.func122, Try.ntmps122
    go_upto_region 22 with fail
    go_region_held3 (fun W => W.cell? ⟨b, 1, none⟩ = some (.pointer (some ⟨q, 0, none⟩)) ∧ W.cell? ⟨w.heap.size, 3, none⟩ = some (.slice (some ⟨g0, 0, none⟩) 3 hc) ∧ W.cell? ⟨g0, 0, none⟩ = some (.int .i64 x0) ∧ W.cell? ⟨g0, 1, none⟩ = some (.string x1) ∧ W.cell? ⟨g0, 2, none⟩ = some (.int .i64 x2) ∧ W.cell? ⟨g0, 3, none⟩ = some (.slice x3 x4 x5)) (go_keep)
      (first | (go_at_call 70; (with_reducible refine (HV _ ((by repeat' (first | (with_reducible exact Ext.refl _) | (with_reducible assumption) | (with_reducible refine Ext.alloc ?_ _) | (with_reducible refine Ext.drew ?_) | (with_reducible refine Ext.drewN ?_ _) | (with_reducible refine Ext.setCell ?_ (by first | exact Nat.le_refl _ | (simp; done) | (simp; omega) | omega) _) | (with_reducible refine Ext.trans ?_ (by assumption)))))).mono ?_); rintro e0 w5 ⟨rfl, hx5⟩; have hE5 : Ext (w.alloc (.cells #[.int .i64 8, .string ⟨#[]⟩, .int .i64 0, .slice (some ⟨g0, 0, none⟩) 3 hc] 76)) w5 := ((by repeat' (first | (with_reducible exact Ext.refl _) | (with_reducible assumption) | (with_reducible refine Ext.alloc ?_ _) | (with_reducible refine Ext.drew ?_) | (with_reducible refine Ext.drewN ?_ _) | (with_reducible refine Ext.setCell ?_ (by first | exact Nat.le_refl _ | (simp; done) | (simp; omega) | omega) _) | (with_reducible refine Ext.trans ?_ (by assumption))))); have hE6 : Ext w w5 := ((Ext.refl w).alloc _).trans hE5; obtain ⟨k0, k1, k2, k3, k4, kf, kb⟩ := (HW0.out.ext hE6).cells; obtain ⟨e0, ef, el⟩ := obj_cells (hE5.obj (heap_alloc_new _ _)); have z0 := e0 0 _ rfl; have z3 := e0 3 _ rfl; have hWe := HW0.out.ext hE6; obtain ⟨c0, c1, c2, c3, c4, c5, c6, c7, c8, c9, c10, c11⟩ := HCa.out; replace c0 := hWe.ea.cell c0; replace c1 := hWe.ea.cell c1; replace c2 := hWe.ea.cell c2; replace c3 := hWe.ea.cell c3; replace c4 := hWe.ea.cell c4; replace c5 := hWe.ea.cell c5; replace c6 := hWe.ea.cell c6; replace c7 := hWe.ea.cell c7; replace c8 := hWe.ea.cell c8; replace c9 := hWe.ea.cell c9; replace c10 := hWe.ea.cell c10; replace c11 := hWe.ea.cell c11))
    have hE6h := Lib.hid hE6
    have hW6 := HW0.out.ext hE6
    have hW6h := Lib.hid hW6
    clear hx5 hE5 hE6 e0 hWe HV
    go_wp2_with fail
    go_end0
    exact ⟨v1, v2, rfl, (hW6h.out.err 6).1, (Moved.of_ext hE6h.out b _ _).trans (hW6h.out.err 6).2⟩
end

end Go.Proofs.Ytgjjngkmbplijaa
