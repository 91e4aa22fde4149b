/- The maker of package play: a number of a plan. -/
import Derived.Test.YtgjjngkmbplijaaZPl
import Derived.Test.YtgjjngkmbplijaaZMk
import Derived.Laws.Rows

namespace Go.Proofs.Ytgjjngkmbplijaa
open Go.RowKit
set_option linter.unusedSimpArgs false
set_option linter.unusedVariables false

/-- A tree comes back; the maker is where it is then; nothing else that was there has turned. -/
def RetTr (w : World) (m : Nat) (p : Pl) (r : Tr × Nat × Int) (label : Int) (e : Ending) (w' : World) : Prop :=
  ∃ t : HT, e = .returned t.val ∧ t.tr = r.1 ∧ t.In (w.heap.size ≤ ·) w' ∧ Mk w' m p r.2.1 r.2.2 label ∧ w.grownBy w' (some m)
/-- A tree's four cells lie in a block of their own. -/
def Four (w : World) (b : Nat) : Prop := ∃ x0 x1 x2 x3, w.heap[b]? = some (.cells #[x0, x1, x2, x3] 76 (0, 0))
theorem Four.cells {w : World} {b : Nat} (h : Four w b) : (∃ x, w.cell? ⟨b, 0, none⟩ = some x) ∧ (∃ x, w.cell? ⟨b, 1, none⟩ = some x) ∧ (∃ x, w.cell? ⟨b, 2, none⟩ = some x) ∧ (∃ x, w.cell? ⟨b, 3, none⟩ = some x) ∧ ∀ o, w.frozen? ⟨b, o, none⟩ = false := by
  obtain ⟨x0, x1, x2, x3, hb⟩ := h
  refine ⟨⟨x0, ?_⟩, ⟨x1, ?_⟩, ⟨x2, ?_⟩, ⟨x3, ?_⟩, fun o => ?_⟩
  all_goals simp [World.cell?, World.frozen?, hb]
theorem Four.grown {w w' : World} {b m : Nat} (h : Four w b) (hg : w.grownBy w' (some m)) (hne : b ≠ m) : Four w' b := by
  obtain ⟨x0, x1, x2, x3, hb⟩ := h
  exact ⟨x0, x1, x2, x3, by rw [hg.block b (Array.getElem?_eq_some_iff.1 hb).1 (fun e => hne (by injection e))]; exact hb⟩
theorem Four.ext {w w' : World} {b : Nat} (h : Four w b) (hx : Ext w w') : Four w' b := by
  obtain ⟨x0, x1, x2, x3, hb⟩ := h
  exact ⟨x0, x1, x2, x3, hx.obj hb⟩
/-- The world in which a tree was stored in its four cells. -/
def put4 (w : World) (b : Nat) (kd : Int) (s : ByteArray) (n : Int) (sl : Value) : World := (((w.setCell ⟨b, 0, none⟩ (.int .i64 kd)).setCell ⟨b, 1, none⟩ (.string s)).setCell ⟨b, 2, none⟩ (.int .i64 n)).setCell ⟨b, 3, none⟩ sl
theorem Four.put {w : World} {b : Nat} (h : Four w b) (kd : Int) (s : ByteArray) (n : Int) (sl : Value) : (put4 w b kd s n sl).heap[b]? = some (.cells #[.int .i64 kd, .string s, .int .i64 n, sl] 76 (0, 0)) := by
  obtain ⟨x0, x1, x2, x3, hb⟩ := h
  unfold put4
  rw [setCell_block _ b 3 _ (setCell_block _ b 2 _ (setCell_block _ b 1 _ (setCell_block _ b 0 _ hb)))]
  rfl
theorem put4_grown (w : World) (b : Nat) (kd : Int) (s : ByteArray) (n : Int) (sl : Value) : w.grownBy (put4 w b kd s n sl) (some b) :=
  grown_trans (grown_trans (grown_trans (setCell_grown _ _ _ _) (setCell_grown _ _ _ _)) (setCell_grown _ _ _ _)) (setCell_grown _ _ _ _)
/-- What was there at first is as it was, but for m, where a block made since is written. -/
theorem grown_new {w w' w'' : World} {b m : Nat} (h : w.grownBy w' (some m)) (hb : w.heap.size ≤ b) (hg : w'.grownBy w'' (some b)) : w.grownBy w'' (some m) :=
  ⟨hg.os.trans h.os, hg.tape.trans h.tape, hg.output.trans h.output, Nat.le_trans h.size hg.size, fun i hi hne => (hg.block i (Nat.lt_of_lt_of_le hi h.size) (fun e => by injection e with e; omega)).trans (h.block i hi hne)⟩
theorem Mk.grownB {w w' : World} {m b : Nat} {p : Pl} {i : Nat} {left label : Int} (h : Mk w m p i left label) (hg : w.grownBy w' (some b)) (hne : m < b) : Mk w' m p i left label :=
  ⟨by rw [hg.block m (Array.getElem?_eq_some_iff.1 h.blk).1 (fun e => by injection e with e; omega)]; exact h.blk, h.pl.grown (fun x hx => by omega) hg⟩

abbrev fourZ : Obj := .cells #[.int .i64 0, .string ⟨#[]⟩, .int .i64 0, .slice none 0 0] 76 (0, 0)
theorem four_new (w : World) (m : Nat) (x : Int) : Four ((w.setCell ⟨m, 3, none⟩ (.int .i64 x)).alloc fourZ) w.heap.size ∧ w.grownBy ((w.setCell ⟨m, 3, none⟩ (.int .i64 x)).alloc fourZ) (some m) := by
  refine ⟨⟨.int .i64 0, .string ⟨#[]⟩, .int .i64 0, .slice none 0 0, ?_⟩, grown_trans (setCell_grown w m 3 _) (grown_ext ((Ext.refl _).alloc _) _)⟩
  have h := heap_alloc_new (w.setCell ⟨m, 3, none⟩ (.int .i64 x)) fourZ
  have e : (w.setCell ⟨m, 3, none⟩ (.int .i64 x)).heap.size = w.heap.size := by simp [World.setCell]
  rwa [e] at h

theorem obs_end {w w2 : World} {m b : Nat} {p : Pl} {i : Nat} {left label : Int} (hM : Mk w2 m p i left label) (hg : w.grownBy w2 (some m)) (hb : w.heap.size = b) (hm : m < b) (t : HT) (ht : t.In (b < ·) w2) :
    RetTr w m p (t.tr, i, left) label (.returned t.val) (put4 w2 b t.kd t.s t.n (.slice t.a t.k.length t.c)) :=
  ⟨t, rfl, rfl, (ht.grown (fun x hx => by omega) (put4_grown w2 b _ _ _ _)).weak (fun x hx => by omega), hM.grownB (put4_grown w2 b _ _ _ _) hm, grown_new hg (by omega) (put4_grown w2 b _ _ _ _)⟩
theorem obs_res {w2 : World} {b : Nat} (hF : Four w2 b) (t : HT) (tmps : Array Value) (ht : tmps.getD 4 undef = .pointer (some ⟨b, 0, none⟩)) :
    (results Try.f101 tmps).run Try.prog (put4 w2 b t.kd t.s t.n (.slice t.a t.k.length t.c)) = .ok t.val (put4 w2 b t.kd t.s t.n (.slice t.a t.k.length t.c)) :=
  results_cell_row rfl tmps _ b _ _ _ _ ht (hF.put _ _ _ _) Try.underlying76 rfl (by kernel_rfl)
theorem amt_cell {w' w2 : World} {m : Nat} {e : TypeId} {cs : Array Value} (hg : (w'.alloc (.cells cs e)).grownBy w2 (some m)) (hm : m < w'.heap.size) {j : Nat} {v : Value} (h : cs[j]? = some v) : w2.cell? ⟨w'.heap.size, j, none⟩ = some v :=
  hg.cell (by rw [World.cell?_alloc_new]; exact h) (by intro e; injection e with e; simp at e; omega)
theorem amts_at (q : Int) (h : 0 ≤ q ∧ q < 10) : ∃ (j : Nat) (x : Int), q = j ∧ j < 10 ∧ amts[q.toNat]?.getD 0 = x ∧ (#[.int .i64 0, .int .i64 1, .int .i64 (-1), .int .i64 2, .int .i64 100, .int .i64 (-7), .int .i64 1000000, .int .i64 1000000000000, .int .i64 (-1000000000000), .int .i64 3] : Array Value)[j]? = some (.int .i64 x) ∧ -1000000000000 ≤ x ∧ x ≤ 1000000000000 := by
  obtain ⟨j, rfl⟩ : ∃ j : Nat, q = j := ⟨q.toNat, by omega⟩
  refine ⟨j, _, rfl, by omega, rfl, ?_⟩
  have : j < 10 := by omega
  rcases (by omega : j = 0 ∨ j = 1 ∨ j = 2 ∨ j = 3 ∨ j = 4 ∨ j = 5 ∨ j = 6 ∨ j = 7 ∨ j = 8 ∨ j = 9) with rfl | rfl | rfl | rfl | rfl | rfl | rfl | rfl | rfl | rfl <;> exact ⟨rfl, by decide, by decide⟩

theorem word3 {w' : World} {m : Nat} {p : Pl} {i : Nat} {left label : Int} (hM : Mk w' m p i left label) (hi : i < 2 ^ 40) :
    Calls Try.prog 133 #[.pointer (some ⟨m, 0, none⟩), .slice (some ⟨w'.heap.size, 0, none⟩) 3 3] (w'.alloc (.cells #[.string ⟨#[108, 105, 98, 111, 114]⟩, .string ⟨#[114, 97, 105, 110]⟩, .string ⟨#[195, 182, 108]⟩] 9)) fun e w2 =>
      RetMk (w'.alloc (.cells #[.string ⟨#[108, 105, 98, 111, 114]⟩, .string ⟨#[114, 97, 105, 110]⟩, .string ⟨#[195, 182, 108]⟩] 9)) m p (i + 1) left label (.string (wordB p i names3)) e w2 :=
  mword_calls _ m p i left label names3 (some ⟨w'.heap.size, 0, none⟩) 3 (hM.ext ((Ext.refl _).alloc _)) hi (Rd.newAt rfl rfl rfl) (by decide) (by unfold maxLen; omega) (fun ad h => by
    injection h with h
    subst h
    have := (Array.getElem?_eq_some_iff.1 hM.blk).1
    exact fun e => by simp only at e; omega) (by decide)

theorem cellsL_one (t : HT) : cellsL [t] = t.cells := by simp [cellsL]
theorem cellsL_two (t u : HT) : cellsL [t, u] = t.cells ++ u.cells := by simp [cellsL]
/-- A tree with parts: the row of the parts in a new block, the tree in its cells. -/
theorem obs_end2 {w w2 : World} {m b : Nat} {p : Pl} {i : Nat} {left label : Int} (hM : Mk w2 m p i left label) (hg : w.grownBy w2 (some m)) (hb : w.heap.size = b) (hm : m < b) (hF : Four w2 b) (kd : Int) (s : ByteArray) (n : Int) (k : List HT) (hk : ∀ x ∈ k, x.In (b < ·) w2)
    (cs : Array Value) (hcs : cs.toList = cellsL k) (hlen : k.length ≤ 10) (sz : Nat) (hsz : sz = w2.heap.size) :
    ∃ t : HT, t.val = .agg #[.int .i64 kd, .string s, .int .i64 n, .slice (some ⟨sz, 0, none⟩) k.length k.length] ∧ t.tr = .mk kd s n (HT.trL k) ∧
      RetTr w m p (t.tr, i, left) label (.returned t.val) ((put4 w2 b kd s n (.slice (some ⟨sz, 0, none⟩) k.length k.length)).alloc (.cells cs 76)) ∧
      ∀ tmps : Array Value, tmps.getD 4 undef = .pointer (some ⟨b, 0, none⟩) → (results Try.f101 tmps).run Try.prog ((put4 w2 b kd s n (.slice (some ⟨sz, 0, none⟩) k.length k.length)).alloc (.cells cs 76)) = .ok t.val ((put4 w2 b kd s n (.slice (some ⟨sz, 0, none⟩) k.length k.length)).alloc (.cells cs 76)) := by
  subst hsz
  refine ⟨.mk kd s n (some ⟨w2.heap.size, 0, none⟩) k.length k, rfl, rfl, ?_, fun tmps ht => ?_⟩
  · have hsz : (put4 w2 b kd s n (.slice (some ⟨w2.heap.size, 0, none⟩) k.length k.length)).heap.size = w2.heap.size := by simp [put4, World.setCell]
    have hX : Ext (put4 w2 b kd s n (.slice (some ⟨w2.heap.size, 0, none⟩) k.length k.length)) ((put4 w2 b kd s n (.slice (some ⟨w2.heap.size, 0, none⟩) k.length k.length)).alloc (.cells cs 76)) := (Ext.refl _).alloc _
    have hbw : b < w2.heap.size := by obtain ⟨x0, x1, x2, x3, h⟩ := hF; exact (Array.getElem?_eq_some_iff.1 h).1
    refine ⟨_, rfl, rfl, ?_, (hM.grownB (put4_grown w2 b _ _ _ _) hm).ext hX, grown_trans (grown_new hg (by omega) (put4_grown w2 b _ _ _ _)) (grown_ext hX _)⟩
    refine .mk _ _ _ _ _ _ (Rd.newAt hsz.symm hcs ?_) (Nat.le_refl _) (by unfold maxLen; omega) (fun ad e => by injection e with e; subst e; exact ⟨by show w.heap.size ≤ w2.heap.size; omega, rfl⟩) (fun x hx => (((hk x hx).grown (fun y hy => by omega) (put4_grown w2 b _ _ _ _)).ext hX).weak (fun y hy => by omega))
    have := cellsL_len k
    rw [← hcs] at this
    simpa using this
  · exact results_cell_row rfl tmps _ b _ _ _ _ ht (((Ext.refl _).alloc _).obj (hF.put _ _ _ _)) Try.underlying76 rfl (by kernel_rfl)
/-- The same, where the row lies in a block already made. -/
theorem obs_end3 {w w2 W : World} {m b : Nat} {p : Pl} {i : Nat} {left label : Int} (hM : Mk w2 m p i left label) (hg : w.grownBy w2 (some m)) (hb : w.heap.size = b) (hm : m < b) (hF : Four w2 b) (kd : Int) (s : ByteArray) (n : Int) (k : List HT) (hk : ∀ x ∈ k, x.In (b < ·) w2)
    (cs : Array Value) (hcs : cs.toList = cellsL k) (hlen : k.length ≤ 10) (sz : Nat) (hsz : b < sz) (hX : Ext (put4 w2 b kd s n (.slice (some ⟨sz, 0, none⟩) k.length k.length)) W) (hrow : W.heap[sz]? = some (.cells cs 76 (0, 0))) :
    ∃ t : HT, t.val = .agg #[.int .i64 kd, .string s, .int .i64 n, .slice (some ⟨sz, 0, none⟩) k.length k.length] ∧ t.tr = .mk kd s n (HT.trL k) ∧
      RetTr w m p (t.tr, i, left) label (.returned t.val) W ∧ ∀ tmps : Array Value, tmps.getD 4 undef = .pointer (some ⟨b, 0, none⟩) → (results Try.f101 tmps).run Try.prog W = .ok t.val W := by
  refine ⟨.mk kd s n (some ⟨sz, 0, none⟩) k.length k, rfl, rfl, ?_, fun tmps ht => ?_⟩
  · refine ⟨_, rfl, rfl, ?_, (hM.grownB (put4_grown w2 b _ _ _ _) hm).ext hX, grown_trans (grown_new hg (by omega) (put4_grown w2 b _ _ _ _)) (grown_ext hX _)⟩
    refine .mk _ _ _ _ _ _ ⟨cellsL_len k, fun j u hu => ⟨_, rfl, ?_⟩⟩ (Nat.le_refl _) (by unfold maxLen; omega) (fun ad e => by injection e with e; subst e; exact ⟨by show w.heap.size ≤ sz; omega, rfl⟩) (fun x hx => (((hk x hx).grown (fun y hy => by omega) (put4_grown w2 b _ _ _ _)).ext hX).weak (fun y hy => by omega))
    have : (⟨sz, 0, none⟩ : Addr).add j = ⟨sz, j, none⟩ := by rw [Addr.add_lit]; simp
    rw [this]
    rw [← hcs] at hu
    simp only [World.cell?, hrow]
    simpa using hu
  · exact results_cell_row rfl tmps _ b _ _ _ _ ht (hX.obj (hF.put _ _ _ _)) Try.underlying76 rfl (by kernel_rfl)
theorem pick9 (k : Int) (h1 : 0 ≤ k) (h2 : k < 9) : k = 0 ∨ k = 1 ∨ k = 2 ∨ k = 3 ∨ k = 4 ∨ k = 5 ∨ k = 6 ∨ k = 7 ∨ k = 8 := by omega

/-- A block made since b. -/
def BlkAt (w : World) (b g : Nat) (cs : Array Value) (e : TypeId) : Prop := b < g ∧ w.heap[g]? = some (.cells cs e (0, 0))
section
variable {w w' : World} {b g m : Nat} {cs : Array Value} {e : TypeId}
theorem BlkAt.ext (h : BlkAt w b g cs e) (hx : Ext w w') : BlkAt w' b g cs e := ⟨h.1, hx.obj h.2⟩
theorem BlkAt.grown (h : BlkAt w b g cs e) (hg : w.grownBy w' (some m)) (hm : m < b) : BlkAt w' b g cs e :=
  ⟨h.1, by rw [hg.block g (Array.getElem?_eq_some_iff.1 h.2).1 (fun e2 => by injection e2 with e2; have := h.1; omega)]; exact h.2⟩
theorem BlkAt.new (hb : b < w.heap.size) : BlkAt (w.alloc (.cells cs e)) b w.heap.size cs e := ⟨hb, heap_alloc_new _ _⟩
theorem BlkAt.cell (h : BlkAt w b g cs e) {j : Nat} {v : Value} (hj : cs[j]? = some v) : w.cell? ⟨g, j, none⟩ = some v := by
  simp [World.cell?, h.2, hj]
theorem BlkAt.rd (h : BlkAt w b g cs e) {n size : Nat} {xs : List Value} (hx : cs.toList = xs) (hn : xs.length = n * size) : Rd w size (some ⟨g, 0, none⟩) n xs :=
  ⟨hn, fun j u hu => ⟨_, rfl, by
    have : (⟨g, 0, none⟩ : Addr).add j = ⟨g, j, none⟩ := by rw [Addr.add_lit]; simp
    rw [this]
    subst hx
    exact h.cell (by simpa using hu)⟩⟩
end
def HT.cellsA (t : HT) : Array Value := #[.int .i64 t.kd, .string t.s, .int .i64 t.n, .slice t.a t.k.length t.c]
theorem row_in {w : World} {b g : Nat} {cs : Array Value} {k : List HT} (hB : BlkAt w b g cs 76) (hcs : cs.toList = cellsL k) (hk : ∀ x ∈ k, x.In (b < ·) w) (hl : k.length ≤ 10) (kd : Int) (s : ByteArray) (n : Int) :
    (HT.mk kd s n (some ⟨g, 0, none⟩) k.length k).In (b < ·) w :=
  .mk _ _ _ _ _ _ (hB.rd hcs (cellsL_len k)) (Nat.le_refl _) (by unfold maxLen; omega) (fun ad e => by injection e with e; subst e; exact ⟨hB.1, rfl⟩) hk
/-- What holds of the world while a tree is made of its parts. -/
structure ObW (w0 : World) (m b N : Nat) (t : HT) (w : World) : Prop where
  grown : w0.grownBy w (some m)
  four : Four w b
  one : t.In (b < ·) w
  row : BlkAt w b N t.cellsA 76
theorem ObW.ext {w0 w w' : World} {m b N : Nat} {t : HT} (h : ObW w0 m b N t w) (hx : Ext w w') : ObW w0 m b N t w' := ⟨grown_trans h.grown (grown_ext hx _), h.four.ext hx, h.one.ext hx, h.row.ext hx⟩
theorem ObW.go {w0 w w' : World} {m b N : Nat} {t : HT} (h : ObW w0 m b N t w) (hg : w.grownBy w' (some m)) (hm : m < b) : ObW w0 m b N t w' :=
  ⟨grown_trans h.grown hg, h.four.grown hg (by omega), h.one.grown (fun x hx => by omega) hg, h.row.grown hg hm⟩
def kinds3 : Array Value := #[.int .i64 13, .int .i64 15, .int .i64 16]
/-- What each slot of the last region holds once it is written. -/
def obF (m b : Nat) (p : Pl) (label : Int) (t : HT) (d : Nat) (k : Int) (j : Nat) (x : Int) (B : Tr × Nat × Int) : Nat → World → Value → Prop
  | 0, w, v => ∃ g, v = .slice (some ⟨g, 0, none⟩) 3 3 ∧ BlkAt w b g kinds3 3
  | 1, _, v => v = .int .i64 k
  | 2, _, v => v = .int .i64 j
  | 3, w, v => ∃ g, v = .pointer (some ⟨g, j, none⟩) ∧ BlkAt w b g kinds3 3
  | 4, _, v => v = .int .i64 x
  | 5, _, v => v = t.val
  | 6, _, v => v = .pointer (some ⟨m, 0, none⟩)
  | 7, _, v => v = .int .i64 ((d + 1 : Nat) : Int)
  | 8, _, v => v = .int .i64 d
  | 9, w, v => ∃ t2 : HT, v = t2.val ∧ t2.tr = B.1 ∧ t2.In (b < ·) w ∧ Mk w m p B.2.1 B.2.2 label
  | 10, w, v => ∃ (g : Nat) (t2 : HT), v = .slice (some ⟨g, 0, none⟩) 2 2 ∧ t2.tr = B.1 ∧ t2.In (b < ·) w ∧ BlkAt w b g (t.cellsA ++ t2.cellsA) 76
  | 11, w, v => ∃ (g : Nat) (t2 : HT), v = .agg #[.int .i64 x, .string ⟨#[]⟩, .int .i64 0, .slice (some ⟨g, 0, none⟩) 2 2] ∧ t2.tr = B.1 ∧ t2.In (b < ·) w ∧ BlkAt w b g (t.cellsA ++ t2.cellsA) 76
  | _, _, _ => True
section
variable {m b : Nat} {p : Pl} {label : Int} {t : HT} {d : Nat} {k : Int} {j : Nat} {x : Int} {B : Tr × Nat × Int} {w w' : World}
theorem obF_ext (i : Nat) (v : Value) (hx : Ext w w') (h : obF m b p label t d k j x B i w v) : obF m b p label t d k j x B i w' v := by
  rcases i with _ | _ | _ | _ | _ | _ | _ | _ | _ | _ | _ | _ | i
  · obtain ⟨g, e, hB⟩ := h; exact ⟨g, e, hB.ext hx⟩
  · exact h
  · exact h
  · obtain ⟨g, e, hB⟩ := h; exact ⟨g, e, hB.ext hx⟩
  · exact h
  · exact h
  · exact h
  · exact h
  · exact h
  · obtain ⟨t2, e, h1, h2, h3⟩ := h; exact ⟨t2, e, h1, h2.ext hx, h3.ext hx⟩
  · obtain ⟨g, t2, e, h1, h2, h3⟩ := h; exact ⟨g, t2, e, h1, h2.ext hx, h3.ext hx⟩
  · obtain ⟨g, t2, e, h1, h2, h3⟩ := h; exact ⟨g, t2, e, h1, h2.ext hx, h3.ext hx⟩
  · exact h
theorem obF_go (i : Nat) (v : Value) (hi : i ≠ 9) (hg : w.grownBy w' (some m)) (hm : m < b) (h : obF m b p label t d k j x B i w v) : obF m b p label t d k j x B i w' v := by
  have hq : ∀ y, b < y → y ≠ m := fun y hy => by omega
  rcases i with _ | _ | _ | _ | _ | _ | _ | _ | _ | _ | _ | _ | i
  · obtain ⟨g, e, hB⟩ := h; exact ⟨g, e, hB.grown hg hm⟩
  · exact h
  · exact h
  · obtain ⟨g, e, hB⟩ := h; exact ⟨g, e, hB.grown hg hm⟩
  · exact h
  · exact h
  · exact h
  · exact h
  · exact h
  · exact absurd rfl hi
  · obtain ⟨g, t2, e, h1, h2, h3⟩ := h; exact ⟨g, t2, e, h1, h2.grown hq hg, h3.grown hg hm⟩
  · obtain ⟨g, t2, e, h1, h2, h3⟩ := h; exact ⟨g, t2, e, h1, h2.grown hq hg, h3.grown hg hm⟩
  · exact h
end
theorem kinds_at (k : Int) (h1 : 6 ≤ k) (h2 : k < 9) : ∃ (j : Nat) (x : Int), k - 6 = j ∧ (j : Int) < 3 ∧ (if k = 6 then 13 else if k = 7 then 15 else 16 : Int) = x ∧ kinds3[j]? = some (.int .i64 x) := by
  rcases (by omega : k = 6 ∨ k = 7 ∨ k = 8) with rfl | rfl | rfl
  · exact ⟨0, 13, rfl, by omega, rfl, rfl⟩
  · exact ⟨1, 15, rfl, by omega, rfl, rfl⟩
  · exact ⟨2, 16, rfl, by omega, rfl, rfl⟩
theorem pick7 (k : Int) (h1 : 0 ≤ k) (h2 : k < 9) : k = 0 ∨ k = 1 ∨ k = 2 ∨ k = 3 ∨ k = 4 ∨ k = 5 ∨ 6 ≤ k := by omega

set_option maxRecDepth 100000 in
set_option maxHeartbeats 3200000 in
theorem mobs_calls (p : Pl) (label : Int) : ∀ (d : Nat) (w : World) (m i : Nat) (left : Int), Mk w m p i left label → i + costT d ≤ 2 ^ 30 → d ≤ 10 → -(2 ^ 40) + costT d ≤ left → left ≤ 2 ^ 40 →
    Calls Try.prog 101 #[.pointer (some ⟨m, 0, none⟩), .int .i64 d] w fun e w' => RetTr w m p (obsT p d i left) label e w' := by
  intro d
  induction d with
  | zero =>
    intro w m i left h hi hd hl1 hl2
    simp only [costT] at hi hl1
    have hm : m < w.heap.size := (Array.getElem?_eq_some_iff.1 h.blk).1
    obtain ⟨c0, c1, c2, c3, c4, hf⟩ := h.cells
    have k1 := nextN_lo p i 9 (by omega)
    have k2 := nextN_hi p i 9 (by omega)
    have H1 := mn_calls _ m p i (left - 1) label 9 ((h.setLeft (left - 1)).ext ((Ext.refl _).alloc fourZ)) (by omega) (by omega) (by omega)
    have HF := four_new w m (left - 1)
    clear h c0 c1 c2 c4
    have HR := Lib.hid (show obsT p 0 i left = (obsLeaf p (nextN p i 9 % 3) (i + 1), i + 2, left - 1) from rfl)
    generalize obsT p 0 i left = r at *
    generalize hk : nextN p i 9 = k at *
    go_enter Try.func101, Try.ntmps101
    (go_wp2_with fail; (with_reducible refine (H1).mono ?_); rintro e w' ⟨rfl, hM1, hg1⟩)
    have hFb := HF.1.grown hg1 (by omega)
    have hgA := grown_trans HF.2 hg1
    clear H1 HF hg1 c3 hf
    generalize hb : w.heap.size = b at hFb hm ⊢
    obtain ⟨q, hq, hqt⟩ : ∃ q, k % 3 = q ∧ k.tmod 3 = q := ⟨k % 3, rfl, Int.tmod_eq_emod_of_nonneg (by omega)⟩
    rw [hq] at HR
    have hq2 : q = 0 ∨ q = 1 ∨ q = 2 := by omega
    clear hk
    rcases hq2 with rfl | rfl | rfl
    · have q1 := nextN_lo p (i + 1) 10 (by omega)
      have q2 := nextN_hi p (i + 1) 10 (by omega)
      obtain ⟨j, x, hj, hj1, hx, hcs, hx1, hx2⟩ := amts_at _ ⟨q1, q2⟩
      have HR2 := Lib.hid (show r = ((HT.mk 11 ⟨#[]⟩ x none 0 []).tr, i + 2, left - 1) by rw [HR.out, ← hx]; rfl)
      clear hx q1 q2
      have HF3 := Lib.hid (And.intro hFb hgA)
      clear hFb hgA
      (go_wp2_with fail; (with_reducible refine (mn_calls _ m p (i + 1) (left - 1) label 10 (hM1.ext ((Ext.refl _).alloc _)) (by omega) (by omega) (by omega)).mono ?_); rintro e w' ⟨rfl, hM2, hg2⟩)
      rw [hj]
      have hmm := (Array.getElem?_eq_some_iff.1 hM1.blk).1
      have hc := amt_cell hg2 hmm hcs
      have hF4 := (HF3.out.1.ext ((Ext.refl _).alloc _)).grown hg2 (by omega)
      have hgB := grown_trans HF3.out.2 (grown_trans (grown_ext ((Ext.refl _).alloc _) _) hg2)
      obtain ⟨⟨y0, d0⟩, ⟨y1, d1⟩, ⟨y2, d2⟩, ⟨y3, d3⟩, hfz⟩ := hF4.cells
      have HF5 := Lib.hid (And.intro hF4 (And.intro hgB hM2))
      have hji : (j : Int) < 10 := by omega
      clear hF4 hgB hM2 hg2 hcs hM1 hj
      go_wp2
      refine bodyPost_ret (v := (HT.mk 11 ⟨#[]⟩ x none 0 []).val) (obs_res HF5.out.1 (HT.mk 11 ⟨#[]⟩ x none 0 []) _ rfl) rfl ?_
      rw [HR2.out]
      exact obs_end HF5.out.2.2 HF5.out.2.1 hb hm (HT.mk 11 ⟨#[]⟩ x none 0 []) (HT.leaf_in _ _ _ _ _)
    · have q1 := nextN_lo p (i + 1) 10 (by omega)
      have q2 := nextN_hi p (i + 1) 10 (by omega)
      obtain ⟨j, x, hj, hj1, hx, hcs, hx1, hx2⟩ := amts_at _ ⟨q1, q2⟩
      have HR2 := Lib.hid (show r = ((HT.mk 11 ⟨#[]⟩ x none 0 []).tr, i + 2, left - 1) by rw [HR.out, ← hx]; rfl)
      clear hx q1 q2
      have HF3 := Lib.hid (And.intro hFb hgA)
      clear hFb hgA
      (go_wp2_with fail; (with_reducible refine (mn_calls _ m p (i + 1) (left - 1) label 10 (hM1.ext ((Ext.refl _).alloc _)) (by omega) (by omega) (by omega)).mono ?_); rintro e w' ⟨rfl, hM2, hg2⟩)
      rw [hj]
      have hmm := (Array.getElem?_eq_some_iff.1 hM1.blk).1
      have hc := amt_cell hg2 hmm hcs
      have hF4 := (HF3.out.1.ext ((Ext.refl _).alloc _)).grown hg2 (by omega)
      have hgB := grown_trans HF3.out.2 (grown_trans (grown_ext ((Ext.refl _).alloc _) _) hg2)
      obtain ⟨⟨y0, d0⟩, ⟨y1, d1⟩, ⟨y2, d2⟩, ⟨y3, d3⟩, hfz⟩ := hF4.cells
      have HF5 := Lib.hid (And.intro hF4 (And.intro hgB hM2))
      have hji : (j : Int) < 10 := by omega
      clear hF4 hgB hM2 hg2 hcs hM1 hj
      go_wp2
      refine bodyPost_ret (v := (HT.mk 11 ⟨#[]⟩ x none 0 []).val) (obs_res HF5.out.1 (HT.mk 11 ⟨#[]⟩ x none 0 []) _ rfl) rfl ?_
      rw [HR2.out]
      exact obs_end HF5.out.2.2 HF5.out.2.1 hb hm (HT.mk 11 ⟨#[]⟩ x none 0 []) (HT.leaf_in _ _ _ _ _)
    · have HF3 := Lib.hid (And.intro hFb hgA)
      have HR2 := Lib.hid (show r = ((HT.mk 12 (wordB p (i + 1) names3) 0 none 0 []).tr, i + 2, left - 1) by rw [HR.out]; rfl)
      clear hFb hgA
      have hmm := (Array.getElem?_eq_some_iff.1 hM1.blk).1
      (go_wp2_with fail; (with_reducible refine (word3 hM1 (by omega)).mono ?_); rintro e w' ⟨rfl, hM2, hg2⟩)
      have hF4 := (HF3.out.1.ext ((Ext.refl _).alloc _)).grown hg2 (by omega)
      have hgB := grown_trans HF3.out.2 (grown_trans (grown_ext ((Ext.refl _).alloc _) _) hg2)
      obtain ⟨⟨y0, d0⟩, ⟨y1, d1⟩, ⟨y2, d2⟩, ⟨y3, d3⟩, hfz⟩ := hF4.cells
      have HF5 := Lib.hid (And.intro hF4 (And.intro hgB hM2))
      clear hF4 hgB hM2 hg2 hM1
      generalize wordB p (i + 1) names3 = x at *
      go_wp2
      refine bodyPost_ret (v := (HT.mk 12 x 0 none 0 []).val) (obs_res HF5.out.1 (HT.mk 12 x 0 none 0 []) _ rfl) rfl ?_
      rw [HR2.out]
      exact obs_end HF5.out.2.2 HF5.out.2.1 hb hm (HT.mk 12 x 0 none 0 []) (HT.leaf_in _ _ _ _ _)
  | succ d ih =>
    intro w m i left h hi hd hl1 hl2
    simp only [costT] at hi hl1
    have hm : m < w.heap.size := (Array.getElem?_eq_some_iff.1 h.blk).1
    obtain ⟨c0, c1, c2, c3, c4, hf⟩ := h.cells
    have k1 := nextN_lo p i 9 (by omega)
    have k2 := nextN_hi p i 9 (by omega)
    have H1 := mn_calls _ m p i (left - 1) label 9 ((h.setLeft (left - 1)).ext ((Ext.refl _).alloc fourZ)) (by omega) (by omega) (by omega)
    have HF := four_new w m (left - 1)
    clear h c0 c1 c2 c4
    have HR := Lib.hid (show obsT p (d + 1) i left = (if left - 1 ≤ 0 then (obsLeaf p (nextN p i 9 % 3) (i + 1), i + 2, left - 1)
      else if nextN p i 9 ≤ 4 then (obsLeaf p (nextN p i 9) (i + 1), i + 2, left - 1)
      else if nextN p i 9 = 5 then
        (.mk 14 ⟨#[]⟩ 0 [(obsT p d (i + 1) (left - 1)).1], (obsT p d (i + 1) (left - 1)).2)
      else
        (.mk (if nextN p i 9 = 6 then 13 else if nextN p i 9 = 7 then 15 else 16) ⟨#[]⟩ 0 [(obsT p d (i + 1) (left - 1)).1, (obsT p d (obsT p d (i + 1) (left - 1)).2.1 (obsT p d (i + 1) (left - 1)).2.2).1], (obsT p d (obsT p d (i + 1) (left - 1)).2.1 (obsT p d (i + 1) (left - 1)).2.2).2)) from rfl)
    generalize obsT p (d + 1) i left = r at *
    generalize hk : nextN p i 9 = k at *
    have hct : 2 ≤ costT d := by cases d <;> simp only [costT] <;> omega
    go_enter Try.func101, Try.ntmps101
    (go_wp2_with fail; (with_reducible refine (H1).mono ?_); rintro e w' ⟨rfl, hM1, hg1⟩)
    have hFb := HF.1.grown hg1 (by omega)
    have hgA := grown_trans HF.2 hg1
    clear H1 HF hg1 c3 hf
    have c3 := hM1.cells.2.2.2.1
    generalize hb : w.heap.size = b at hFb hm ⊢
    clear hk
    by_cases hlow : left - 1 ≤ 0
    · obtain ⟨q, hq, hqt⟩ : ∃ q, k % 3 = q ∧ k.tmod 3 = q := ⟨k % 3, rfl, Int.tmod_eq_emod_of_nonneg (by omega)⟩
      rw [if_pos hlow, hq] at HR
      have hq2 : q = 0 ∨ q = 1 ∨ q = 2 := by omega
      clear ih
      rcases hq2 with rfl | rfl | rfl
      · have q1 := nextN_lo p (i + 1) 10 (by omega)
        have q2 := nextN_hi p (i + 1) 10 (by omega)
        obtain ⟨j, x, hj, hj1, hx, hcs, hx1, hx2⟩ := amts_at _ ⟨q1, q2⟩
        have HR2 := Lib.hid (show r = ((HT.mk 11 ⟨#[]⟩ x none 0 []).tr, i + 2, left - 1) by rw [HR.out, ← hx]; rfl)
        clear hx q1 q2
        have HF3 := Lib.hid (And.intro hFb hgA)
        clear hFb hgA
        (go_wp2_with fail; (with_reducible refine (mn_calls _ m p (i + 1) (left - 1) label 10 (hM1.ext ((Ext.refl _).alloc _)) (by omega) (by omega) (by omega)).mono ?_); rintro e w' ⟨rfl, hM2, hg2⟩)
        rw [hj]
        have hmm := (Array.getElem?_eq_some_iff.1 hM1.blk).1
        have hc := amt_cell hg2 hmm hcs
        have hF4 := (HF3.out.1.ext ((Ext.refl _).alloc _)).grown hg2 (by omega)
        have hgB := grown_trans HF3.out.2 (grown_trans (grown_ext ((Ext.refl _).alloc _) _) hg2)
        obtain ⟨⟨y0, d0⟩, ⟨y1, d1⟩, ⟨y2, d2⟩, ⟨y3, d3⟩, hfz⟩ := hF4.cells
        have HF5 := Lib.hid (And.intro hF4 (And.intro hgB hM2))
        have hji : (j : Int) < 10 := by omega
        clear hF4 hgB hM2 hg2 hcs hM1 hj
        go_wp2
        refine bodyPost_ret (v := (HT.mk 11 ⟨#[]⟩ x none 0 []).val) (obs_res HF5.out.1 (HT.mk 11 ⟨#[]⟩ x none 0 []) _ rfl) rfl ?_
        rw [HR2.out]
        exact obs_end HF5.out.2.2 HF5.out.2.1 hb hm (HT.mk 11 ⟨#[]⟩ x none 0 []) (HT.leaf_in _ _ _ _ _)
      · have q1 := nextN_lo p (i + 1) 10 (by omega)
        have q2 := nextN_hi p (i + 1) 10 (by omega)
        obtain ⟨j, x, hj, hj1, hx, hcs, hx1, hx2⟩ := amts_at _ ⟨q1, q2⟩
        have HR2 := Lib.hid (show r = ((HT.mk 11 ⟨#[]⟩ x none 0 []).tr, i + 2, left - 1) by rw [HR.out, ← hx]; rfl)
        clear hx q1 q2
        have HF3 := Lib.hid (And.intro hFb hgA)
        clear hFb hgA
        (go_wp2_with fail; (with_reducible refine (mn_calls _ m p (i + 1) (left - 1) label 10 (hM1.ext ((Ext.refl _).alloc _)) (by omega) (by omega) (by omega)).mono ?_); rintro e w' ⟨rfl, hM2, hg2⟩)
        rw [hj]
        have hmm := (Array.getElem?_eq_some_iff.1 hM1.blk).1
        have hc := amt_cell hg2 hmm hcs
        have hF4 := (HF3.out.1.ext ((Ext.refl _).alloc _)).grown hg2 (by omega)
        have hgB := grown_trans HF3.out.2 (grown_trans (grown_ext ((Ext.refl _).alloc _) _) hg2)
        obtain ⟨⟨y0, d0⟩, ⟨y1, d1⟩, ⟨y2, d2⟩, ⟨y3, d3⟩, hfz⟩ := hF4.cells
        have HF5 := Lib.hid (And.intro hF4 (And.intro hgB hM2))
        have hji : (j : Int) < 10 := by omega
        clear hF4 hgB hM2 hg2 hcs hM1 hj
        go_wp2
        refine bodyPost_ret (v := (HT.mk 11 ⟨#[]⟩ x none 0 []).val) (obs_res HF5.out.1 (HT.mk 11 ⟨#[]⟩ x none 0 []) _ rfl) rfl ?_
        rw [HR2.out]
        exact obs_end HF5.out.2.2 HF5.out.2.1 hb hm (HT.mk 11 ⟨#[]⟩ x none 0 []) (HT.leaf_in _ _ _ _ _)
      · have HF3 := Lib.hid (And.intro hFb hgA)
        have HR2 := Lib.hid (show r = ((HT.mk 12 (wordB p (i + 1) names3) 0 none 0 []).tr, i + 2, left - 1) by rw [HR.out]; rfl)
        clear hFb hgA
        have hmm := (Array.getElem?_eq_some_iff.1 hM1.blk).1
        (go_wp2_with fail; (with_reducible refine (word3 hM1 (by omega)).mono ?_); rintro e w' ⟨rfl, hM2, hg2⟩)
        have hF4 := (HF3.out.1.ext ((Ext.refl _).alloc _)).grown hg2 (by omega)
        have hgB := grown_trans HF3.out.2 (grown_trans (grown_ext ((Ext.refl _).alloc _) _) hg2)
        obtain ⟨⟨y0, d0⟩, ⟨y1, d1⟩, ⟨y2, d2⟩, ⟨y3, d3⟩, hfz⟩ := hF4.cells
        have HF5 := Lib.hid (And.intro hF4 (And.intro hgB hM2))
        clear hF4 hgB hM2 hg2 hM1
        generalize wordB p (i + 1) names3 = x at *
        go_wp2
        refine bodyPost_ret (v := (HT.mk 12 x 0 none 0 []).val) (obs_res HF5.out.1 (HT.mk 12 x 0 none 0 []) _ rfl) rfl ?_
        rw [HR2.out]
        exact obs_end HF5.out.2.2 HF5.out.2.1 hb hm (HT.mk 12 x 0 none 0 []) (HT.leaf_in _ _ _ _ _)
    · rcases pick7 k k1 k2 with rfl | rfl | rfl | rfl | rfl | rfl | hk6
      · rw [if_neg hlow, if_pos (by omega)] at HR
        clear ih
        have q1 := nextN_lo p (i + 1) 10 (by omega)
        have q2 := nextN_hi p (i + 1) 10 (by omega)
        obtain ⟨j, x, hj, hj1, hx, hcs, hx1, hx2⟩ := amts_at _ ⟨q1, q2⟩
        have HR2 := Lib.hid (show r = ((HT.mk 11 ⟨#[]⟩ x none 0 []).tr, i + 2, left - 1) by rw [HR.out, ← hx]; rfl)
        clear hx q1 q2
        have HF3 := Lib.hid (And.intro hFb hgA)
        clear hFb hgA
        (go_wp2_with fail; (with_reducible refine (mn_calls _ m p (i + 1) (left - 1) label 10 (hM1.ext ((Ext.refl _).alloc _)) (by omega) (by omega) (by omega)).mono ?_); rintro e w' ⟨rfl, hM2, hg2⟩)
        rw [hj]
        have hmm := (Array.getElem?_eq_some_iff.1 hM1.blk).1
        have hc := amt_cell hg2 hmm hcs
        have hF4 := (HF3.out.1.ext ((Ext.refl _).alloc _)).grown hg2 (by omega)
        have hgB := grown_trans HF3.out.2 (grown_trans (grown_ext ((Ext.refl _).alloc _) _) hg2)
        obtain ⟨⟨y0, d0⟩, ⟨y1, d1⟩, ⟨y2, d2⟩, ⟨y3, d3⟩, hfz⟩ := hF4.cells
        have HF5 := Lib.hid (And.intro hF4 (And.intro hgB hM2))
        have hji : (j : Int) < 10 := by omega
        clear hF4 hgB hM2 hg2 hcs hM1 hj
        go_wp2
        refine bodyPost_ret (v := (HT.mk 11 ⟨#[]⟩ x none 0 []).val) (obs_res HF5.out.1 (HT.mk 11 ⟨#[]⟩ x none 0 []) _ rfl) rfl ?_
        rw [HR2.out]
        exact obs_end HF5.out.2.2 HF5.out.2.1 hb hm (HT.mk 11 ⟨#[]⟩ x none 0 []) (HT.leaf_in _ _ _ _ _)
      · rw [if_neg hlow, if_pos (by omega)] at HR
        clear ih
        have q1 := nextN_lo p (i + 1) 10 (by omega)
        have q2 := nextN_hi p (i + 1) 10 (by omega)
        obtain ⟨j, x, hj, hj1, hx, hcs, hx1, hx2⟩ := amts_at _ ⟨q1, q2⟩
        have HR2 := Lib.hid (show r = ((HT.mk 11 ⟨#[]⟩ x none 0 []).tr, i + 2, left - 1) by rw [HR.out, ← hx]; rfl)
        clear hx q1 q2
        have HF3 := Lib.hid (And.intro hFb hgA)
        clear hFb hgA
        (go_wp2_with fail; (with_reducible refine (mn_calls _ m p (i + 1) (left - 1) label 10 (hM1.ext ((Ext.refl _).alloc _)) (by omega) (by omega) (by omega)).mono ?_); rintro e w' ⟨rfl, hM2, hg2⟩)
        rw [hj]
        have hmm := (Array.getElem?_eq_some_iff.1 hM1.blk).1
        have hc := amt_cell hg2 hmm hcs
        have hF4 := (HF3.out.1.ext ((Ext.refl _).alloc _)).grown hg2 (by omega)
        have hgB := grown_trans HF3.out.2 (grown_trans (grown_ext ((Ext.refl _).alloc _) _) hg2)
        obtain ⟨⟨y0, d0⟩, ⟨y1, d1⟩, ⟨y2, d2⟩, ⟨y3, d3⟩, hfz⟩ := hF4.cells
        have HF5 := Lib.hid (And.intro hF4 (And.intro hgB hM2))
        have hji : (j : Int) < 10 := by omega
        clear hF4 hgB hM2 hg2 hcs hM1 hj
        go_wp2
        refine bodyPost_ret (v := (HT.mk 11 ⟨#[]⟩ x none 0 []).val) (obs_res HF5.out.1 (HT.mk 11 ⟨#[]⟩ x none 0 []) _ rfl) rfl ?_
        rw [HR2.out]
        exact obs_end HF5.out.2.2 HF5.out.2.1 hb hm (HT.mk 11 ⟨#[]⟩ x none 0 []) (HT.leaf_in _ _ _ _ _)
      · rw [if_neg hlow, if_pos (by omega)] at HR
        clear ih
        have HF3 := Lib.hid (And.intro hFb hgA)
        have HR2 := Lib.hid (show r = ((HT.mk 12 (wordB p (i + 1) names3) 0 none 0 []).tr, i + 2, left - 1) by rw [HR.out]; rfl)
        clear hFb hgA
        have hmm := (Array.getElem?_eq_some_iff.1 hM1.blk).1
        (go_wp2_with fail; (with_reducible refine (word3 hM1 (by omega)).mono ?_); rintro e w' ⟨rfl, hM2, hg2⟩)
        have hF4 := (HF3.out.1.ext ((Ext.refl _).alloc _)).grown hg2 (by omega)
        have hgB := grown_trans HF3.out.2 (grown_trans (grown_ext ((Ext.refl _).alloc _) _) hg2)
        obtain ⟨⟨y0, d0⟩, ⟨y1, d1⟩, ⟨y2, d2⟩, ⟨y3, d3⟩, hfz⟩ := hF4.cells
        have HF5 := Lib.hid (And.intro hF4 (And.intro hgB hM2))
        clear hF4 hgB hM2 hg2 hM1
        generalize wordB p (i + 1) names3 = x at *
        go_wp2
        refine bodyPost_ret (v := (HT.mk 12 x 0 none 0 []).val) (obs_res HF5.out.1 (HT.mk 12 x 0 none 0 []) _ rfl) rfl ?_
        rw [HR2.out]
        exact obs_end HF5.out.2.2 HF5.out.2.1 hb hm (HT.mk 12 x 0 none 0 []) (HT.leaf_in _ _ _ _ _)
      · rw [if_neg hlow, if_pos (by omega)] at HR
        clear ih
        have HF3 := Lib.hid (And.intro hFb hgA)
        have HR2 := Lib.hid (show r = ((HT.mk 12 (wordB p (i + 1) names3) 0 none 0 []).tr, i + 2, left - 1) by rw [HR.out]; rfl)
        clear hFb hgA
        have hmm := (Array.getElem?_eq_some_iff.1 hM1.blk).1
        (go_wp2_with fail; (with_reducible refine (word3 hM1 (by omega)).mono ?_); rintro e w' ⟨rfl, hM2, hg2⟩)
        have hF4 := (HF3.out.1.ext ((Ext.refl _).alloc _)).grown hg2 (by omega)
        have hgB := grown_trans HF3.out.2 (grown_trans (grown_ext ((Ext.refl _).alloc _) _) hg2)
        obtain ⟨⟨y0, d0⟩, ⟨y1, d1⟩, ⟨y2, d2⟩, ⟨y3, d3⟩, hfz⟩ := hF4.cells
        have HF5 := Lib.hid (And.intro hF4 (And.intro hgB hM2))
        clear hF4 hgB hM2 hg2 hM1
        generalize wordB p (i + 1) names3 = x at *
        go_wp2
        refine bodyPost_ret (v := (HT.mk 12 x 0 none 0 []).val) (obs_res HF5.out.1 (HT.mk 12 x 0 none 0 []) _ rfl) rfl ?_
        rw [HR2.out]
        exact obs_end HF5.out.2.2 HF5.out.2.1 hb hm (HT.mk 12 x 0 none 0 []) (HT.leaf_in _ _ _ _ _)
      · rw [if_neg hlow, if_pos (by omega)] at HR
        clear ih
        have HF3 := Lib.hid (And.intro hFb hgA)
        have HR2 := Lib.hid (show r = ((HT.mk 12 (wordB p (i + 1) names3) 0 none 0 []).tr, i + 2, left - 1) by rw [HR.out]; rfl)
        clear hFb hgA
        have hmm := (Array.getElem?_eq_some_iff.1 hM1.blk).1
        (go_wp2_with fail; (with_reducible refine (word3 hM1 (by omega)).mono ?_); rintro e w' ⟨rfl, hM2, hg2⟩)
        have hF4 := (HF3.out.1.ext ((Ext.refl _).alloc _)).grown hg2 (by omega)
        have hgB := grown_trans HF3.out.2 (grown_trans (grown_ext ((Ext.refl _).alloc _) _) hg2)
        obtain ⟨⟨y0, d0⟩, ⟨y1, d1⟩, ⟨y2, d2⟩, ⟨y3, d3⟩, hfz⟩ := hF4.cells
        have HF5 := Lib.hid (And.intro hF4 (And.intro hgB hM2))
        clear hF4 hgB hM2 hg2 hM1
        generalize wordB p (i + 1) names3 = x at *
        go_wp2
        refine bodyPost_ret (v := (HT.mk 12 x 0 none 0 []).val) (obs_res HF5.out.1 (HT.mk 12 x 0 none 0 []) _ rfl) rfl ?_
        rw [HR2.out]
        exact obs_end HF5.out.2.2 HF5.out.2.1 hb hm (HT.mk 12 x 0 none 0 []) (HT.leaf_in _ _ _ _ _)
      · obtain ⟨ei, el1, el2⟩ := obsT_i p d (i + 1) (left - 1)
        have HR2 := Lib.hid (show r = (Tr.mk 14 ⟨#[]⟩ 0 [(obsT p d (i + 1) (left - 1)).1], (obsT p d (i + 1) (left - 1)).2) by rw [HR.out, if_neg hlow, if_neg (by omega), if_pos rfl])
        have HF3 := Lib.hid (And.intro hFb hgA)
        clear hFb hgA
        have hbw : b < w'.heap.size := by obtain ⟨x0, x1, x2, x3, h⟩ := HF3.out.1; exact (Array.getElem?_eq_some_iff.1 h).1
        (go_wp2_with fail; (with_reducible refine (ih _ m (i + 1) (left - 1) hM1 (by omega) (by omega) (by omega) (by omega)).mono ?_); rintro e w' ⟨t, rfl, ht, hin, hM2, hg2⟩)
        have hF4 := HF3.out.1.grown hg2 (by omega)
        have hgB := grown_trans HF3.out.2 hg2
        have hbw2 : b < w'.heap.size := by obtain ⟨x0, x1, x2, x3, h⟩ := hF4; exact (Array.getElem?_eq_some_iff.1 h).1
        obtain ⟨⟨y0, d0⟩, ⟨y1, d1⟩, ⟨y2, d2⟩, ⟨y3, d3⟩, hfz⟩ := hF4.cells
        have hin2 := hin.weak (q' := (b < ·)) (fun x hx => by omega)
        obtain ⟨u, hu1, hu2, hu3, hu4⟩ := obs_end2 hM2 hgB hb hm hF4 14 ⟨#[]⟩ 0 [t] (fun x hx => by rw [List.mem_singleton.1 hx]; exact hin2) #[.int .i64 t.kd, .string t.s, .int .i64 t.n, .slice t.a t.k.length t.c] (by rw [cellsL_one]; rfl) (by simp) _ rfl
        have HF5 := Lib.hid (And.intro hu1 (And.intro hu2 (And.intro hu3 hu4)))
        have HR3 := Lib.hid ht
        clear hF4 hgB hM2 hg2 hM1 hu1 hu2 hu3 hu4 ht hin hin2 ih
        unfold HT.val
        generalize t.k.length = tl at *
        generalize t.kd = tkd at *
        generalize t.s = ts at *
        generalize t.n = tn at *
        generalize t.a = ta at *
        generalize t.c = tc at *
        go_wp2
        apply bodyPost_ret (v := u.val)
        · exact HF5.out.2.2.2 _ rfl
        · rfl
        have e : r = (u.tr, (obsT p d (i + 1) (left - 1)).2.1, (obsT p d (i + 1) (left - 1)).2.2) := by rw [HR2.out, HF5.out.2.1, ← HR3.out]; rfl
        rw [e]
        exact HF5.out.2.2.1
      · obtain ⟨ei, el1, el2⟩ := obsT_i p d (i + 1) (left - 1)
        obtain ⟨j, x, hkj, hj3, hx, hxj⟩ := kinds_at k hk6 k2
        have HR2 := Lib.hid (show r = (Tr.mk x ⟨#[]⟩ 0 [(obsT p d (i + 1) (left - 1)).1, (obsT p d (obsT p d (i + 1) (left - 1)).2.1 (obsT p d (i + 1) (left - 1)).2.2).1], (obsT p d (obsT p d (i + 1) (left - 1)).2.1 (obsT p d (i + 1) (left - 1)).2.2).2) by rw [HR.out, if_neg hlow, if_neg (by omega), if_neg (by omega), hx])
        have HF3 := Lib.hid (And.intro hFb hgA)
        have hkj0 := Lib.hid hkj
        clear hFb hgA HR hx hkj
        have hbw : b < w'.heap.size := by obtain ⟨x0, x1, x2, x3, h⟩ := HF3.out.1; exact (Array.getElem?_eq_some_iff.1 h).1
        have u0 : (k == 0) = false := by simp; omega
        have u1 : (k == 1) = false := by simp; omega
        have u2 : (k == 2) = false := by simp; omega
        have u3 : (k == 3) = false := by simp; omega
        have u4 : (k == 4) = false := by simp; omega
        have u5 : (k == 5) = false := by simp; omega
        (go_wp2_with fail; (with_reducible refine (ih _ m (i + 1) (left - 1) hM1 (by omega) (by omega) (by omega) (by omega)).mono ?_); rintro e w' ⟨t, rfl, ht, hin, hM2, hg2⟩)
        clear u0 u1 u2 u3 u4 u5
        have hF4 := HF3.out.1.grown hg2 (by omega)
        have hgB := grown_trans HF3.out.2 hg2
        have hbw2 : b < w'.heap.size := by obtain ⟨x0, x1, x2, x3, h⟩ := hF4; exact (Array.getElem?_eq_some_iff.1 h).1
        have hin2 := hin.weak (q' := (b < ·)) (fun x hx => by omega)
        have ht0 := Lib.hid (And.intro ht hin2)
        clear ht hin hin2 hg2 hM1 HF3 c3
        have hsz : (w'.alloc (.cells #[.int .i64 t.kd, .string t.s, .int .i64 t.n, .slice t.a t.k.length t.c] 76)).heap.size = w'.heap.size + 1 := by simp
        have hG0 : ObW w m b w'.heap.size t (w'.alloc (.cells #[.int .i64 t.kd, .string t.s, .int .i64 t.n, .slice t.a t.k.length t.c] 76)) :=
          ⟨grown_trans hgB (grown_ext ((Ext.refl w').alloc _) _), hF4.ext ((Ext.refl w').alloc _), ht0.out.2.ext ((Ext.refl w').alloc _), BlkAt.new hbw2⟩
        have hM3 := hM2.ext ((Ext.refl w').alloc (.cells #[.int .i64 t.kd, .string t.s, .int .i64 t.n, .slice t.a t.k.length t.c] 76))
        have hGM := Lib.hid (And.intro hG0 hM3)
        clear hG0 hM3 hF4 hgB hM2 hsz
        unfold HT.val
        go_wp2_with fail
        generalize (w'.alloc (.cells #[.int .i64 t.kd, .string t.s, .int .i64 t.n, .slice t.a t.k.length t.c] 76)) = X at *
        generalize w'.heap.size = N at *
        generalize hA : obsT p d (i + 1) (left - 1) = A at *
        have hkb := Lib.hid (And.intro k1 k2)
        clear k1 k2
        refine wp_region_slots 12 [0, 1, 2, 3, 4, 5, 6, 7, 8, 9, 10, 11] _ [57, 58, 59, 60, 61, 62, 63, 64, 65, 66, 67, 68] (obF m b p label t d k j x (obsT p d A.2.1 A.2.2)) (fun l W => ObW w m b N t W ∧ (¬ Dn l 9 → Mk W m p A.2.1 A.2.2 label)) (by kernel_rfl) rfl (by kernel_rfl) (by kernel_rfl) rfl rfl rfl (by decide) rfl ?_ ?_ ?_
        · exact ⟨hGM.out.1.ext (Ext.refl _).drew, fun _ => hGM.out.2.ext (Ext.refl _).drew⟩
        · refine slots_cons rfl ?_ (slots_cons rfl ?_ (slots_cons rfl ?_ (slots_cons rfl ?_ (slots_cons rfl ?_ (slots_cons rfl ?_ (slots_cons rfl ?_ (slots_cons rfl ?_ (slots_cons rfl ?_ (slots_cons rfl ?_ (slots_cons rfl ?_ (slots_cons rfl ?_ slots_nil)))))))))))
          · intro l a W hs ho ⟨hG, hG2⟩ hd hne K hK
            have hbW : b < W.heap.size := Nat.lt_trans hG.row.1 (Array.getElem?_eq_some_iff.1 hG.row.2).1
            clear hd ho hne
            go_simp
            exact hK _ _ (⟨W.heap.size, rfl, BlkAt.new hbW⟩) ⟨hG.ext ((Ext.refl W).alloc _), fun hn => (hG2 (fun h => hn h.keep)).ext ((Ext.refl W).alloc _)⟩ (fun j' v' _ hf => obF_ext j' v' ((Ext.refl W).alloc _) hf)
          · intro l a W hs ho ⟨hG, hG2⟩ hd hne K hK
            have s5 : a.tmps[5]?.getD undef = .int .i64 k := ho.ev 5 rfl
            clear hd ho hne
            go_simp
            exact hK _ _ (rfl) ⟨hG, fun hn => hG2 (fun h => hn h.keep)⟩ (fun j' v' _ hf => hf)
          · intro l a W hs ho ⟨hG, hG2⟩ hd hne K hK
            have e1 := hd ⟨1, .data⟩ (by simp) rfl
            replace e1 : a.tmps[58]?.getD undef = .int .i64 k := e1
            have hk0 := hkb.out.1
            have hk9 := hkb.out.2
            clear hd ho hne
            go_simp
            exact hK _ _ (by show Value.int .i64 (IntKind.i64.wrap (k - 6)) = Value.int .i64 (j : Int); rw [hkj0.out, IntWalk.i64_left, IntWalk.wrap64_in (j : Int) (by omega)]) ⟨hG, fun hn => hG2 (fun h => hn h.keep)⟩ (fun j' v' _ hf => hf)
          · intro l a W hs ho ⟨hG, hG2⟩ hd hne K hK
            have d0 := hd ⟨0, .data⟩ (by simp) rfl
            obtain ⟨g, e0, hB⟩ := d0
            replace e0 : a.tmps[57]?.getD undef = .slice (some ⟨g, 0, none⟩) 3 3 := e0
            have e2 := hd ⟨2, .data⟩ (by simp) rfl
            replace e2 : a.tmps[59]?.getD undef = .int .i64 (j : Int) := e2
            have hj0 : (0 : Int) ≤ (j : Int) := by omega
            clear hd ho hne
            go_simp
            exact hK _ _ (⟨g, rfl, hB⟩) ⟨hG, fun hn => hG2 (fun h => hn h.keep)⟩ (fun j' v' _ hf => hf)
          · intro l a W hs ho ⟨hG, hG2⟩ hd hne K hK
            have d3 := hd ⟨3, .data⟩ (by simp) rfl
            obtain ⟨g, e3, hB⟩ := d3
            replace e3 : a.tmps[60]?.getD undef = .pointer (some ⟨g, j, none⟩) := e3
            have hc := hB.cell hxj
            clear hd ho hne
            go_simp
            exact hK _ _ (rfl) ⟨hG, fun hn => hG2 (fun h => hn h.keep)⟩ (fun j' v' _ hf => hf)
          · intro l a W hs ho ⟨hG, hG2⟩ hd hne K hK
            have s6 : a.tmps[6]?.getD undef = .pointer (some ⟨N, 0, none⟩) := ho.ev 6 rfl
            have n0 := hG.row.cell (j := 0) rfl
            have n1 := hG.row.cell (j := 1) rfl
            have n2 := hG.row.cell (j := 2) rfl
            have n3 := hG.row.cell (j := 3) rfl
            unfold HT.val at *
            clear hd ho hne
            go_simp
            exact hK _ _ (rfl) ⟨hG, fun hn => hG2 (fun h => hn h.keep)⟩ (fun j' v' _ hf => hf)
          · intro l a W hs ho ⟨hG, hG2⟩ hd hne K hK
            have s0 : a.tmps[0]?.getD undef = .pointer (some ⟨m, 0, none⟩) := ho.ev 0 rfl
            clear hd ho hne
            go_simp
            exact hK _ _ (rfl) ⟨hG, fun hn => hG2 (fun h => hn h.keep)⟩ (fun j' v' _ hf => hf)
          · intro l a W hs ho ⟨hG, hG2⟩ hd hne K hK
            have s1 : a.tmps[1]?.getD undef = .int .i64 ((d + 1 : Nat) : Int) := ho.ev 1 rfl
            clear hd ho hne
            go_simp
            exact hK _ _ (rfl) ⟨hG, fun hn => hG2 (fun h => hn h.keep)⟩ (fun j' v' _ hf => hf)
          · intro l a W hs ho ⟨hG, hG2⟩ hd hne K hK
            have e7 := hd ⟨7, .data⟩ (by simp) rfl
            replace e7 : a.tmps[64]?.getD undef = .int .i64 ((d + 1 : Nat) : Int) := e7
            clear hd ho hne
            go_simp
            exact hK _ _ (by show Value.int .i64 (IntKind.i64.wrap (d : Int)) = Value.int .i64 (d : Int); rw [IntWalk.i64_left, IntWalk.wrap64_in (d : Int) (by omega)]) ⟨hG, fun hn => hG2 (fun h => hn h.keep)⟩ (fun j' v' _ hf => hf)
          · intro l a W hs ho ⟨hG, hG2⟩ hd hne K hK
            have e6 := hd ⟨6, .data⟩ (by simp) rfl
            replace e6 : a.tmps[63]?.getD undef = .pointer (some ⟨m, 0, none⟩) := e6
            have e8 := hd ⟨8, .data⟩ (by simp) rfl
            replace e8 : a.tmps[65]?.getD undef = .int .i64 (d : Int) := e8
            clear hd ho
            have hM := hG2 hne
            clear hne hG2
            go_simp
            go_at_call 101
            (with_reducible refine (ih W m A.2.1 A.2.2 hM (by omega) (by omega) (by omega) (by omega)).mono ?_)
            rintro e W2 ⟨t2, rfl, h2, h3, h4, h5⟩
            go_simp
            exact hK _ _ (⟨t2, rfl, h2, h3.weak (fun y hy => Nat.lt_of_lt_of_le (Nat.lt_trans hG.row.1 (Array.getElem?_eq_some_iff.1 hG.row.2).1) hy), h4⟩) ⟨hG.go h5 hm, fun hn => absurd (Dn.of_true (by rw [hs]; decide)) hn⟩ (fun j' v' hj hf => obF_go j' v' hj h5 hm hf)
          · intro l a W hs ho ⟨hG, hG2⟩ hd hne K hK
            have hbW : b < W.heap.size := Nat.lt_trans hG.row.1 (Array.getElem?_eq_some_iff.1 hG.row.2).1
            have e5 := hd ⟨5, .data⟩ (by simp) rfl
            replace e5 : a.tmps[62]?.getD undef = t.val := e5
            have d9 := hd ⟨9, .data⟩ (by simp) rfl
            obtain ⟨t2, e9, h2, h3, h4⟩ := d9
            replace e9 : a.tmps[66]?.getD undef = t2.val := e9
            have hh := Lib.hid (And.intro h2 (And.intro h3 h4))
            clear h2 h3 h4
            unfold HT.val at e5 e9
            clear hd ho hne
            go_simp
            obtain ⟨h2, h3, h4⟩ := hh.out
            exact hK _ _ (⟨W.heap.size, t2, rfl, h2, h3.ext ((Ext.refl W).alloc _), BlkAt.new hbW⟩) ⟨hG.ext ((Ext.refl W).alloc _), fun hn => (hG2 (fun h => hn h.keep)).ext ((Ext.refl W).alloc _)⟩ (fun j' v' _ hf => obF_ext j' v' ((Ext.refl W).alloc _) hf)
          · intro l a W hs ho ⟨hG, hG2⟩ hd hne K hK
            have e4 := hd ⟨4, .data⟩ (by simp) rfl
            replace e4 : a.tmps[61]?.getD undef = .int .i64 x := e4
            have d10 := hd ⟨10, .data⟩ (by simp) rfl
            obtain ⟨g, t2, e10, h2, h3, hB⟩ := d10
            replace e10 : a.tmps[67]?.getD undef = .slice (some ⟨g, 0, none⟩) 2 2 := e10
            clear hd ho hne
            go_simp
            exact hK _ _ (⟨g, t2, rfl, h2, h3, hB⟩) ⟨hG, fun hn => hG2 (fun h => hn h.keep)⟩ (fun j' v' _ hf => hf)
        · intro l a W ho ⟨hG, _⟩ hall hF K hK
          have s4 : a.tmps[4]?.getD undef = .pointer (some ⟨b, 0, none⟩) := ho.ev 4 rfl
          obtain ⟨g, t2, e11, h2, h3, hB⟩ := hF 11 (by omega)
          replace e11 : a.tmps[68]?.getD undef = .agg #[.int .i64 x, .string ⟨#[]⟩, .int .i64 0, .slice (some ⟨g, 0, none⟩) 2 2] := e11
          obtain ⟨_, _, _, _, hM⟩ := hF 9 (by omega)
          obtain ⟨⟨y0, d0⟩, ⟨y1, d1⟩, ⟨y2, d2⟩, ⟨y3, d3⟩, hfz⟩ := hG.four.cells
          have hdf := ho.defers
          have hin := row_in hB (k := [t, t2]) (by rw [cellsL_two]; rfl) (fun y hy => by
            rcases List.mem_cons.1 hy with rfl | hy
            · exact hG.one
            · rw [List.mem_singleton.1 hy]; exact h3) (by simp) x ⟨#[]⟩ 0
          have HH := Lib.hid (And.intro hin (And.intro h2 (And.intro hM (And.intro hG.grown hG.four))))
          clear hin h2 h3 hB hM hG ho hF hall
          go_simp
          refine hK _ _ ?_
          go_wp2
          have HF5 := HH.out
          apply bodyPost_ret (v := (HT.mk x ⟨#[]⟩ 0 (some ⟨g, 0, none⟩) 2 [t, t2]).val)
          · exact obs_res HF5.2.2.2.2 (HT.mk x ⟨#[]⟩ 0 (some ⟨g, 0, none⟩) 2 [t, t2]) _ (by simpa using s4)
          · exact hdf
          have e : r = ((HT.mk x ⟨#[]⟩ 0 (some ⟨g, 0, none⟩) 2 [t, t2]).tr, (obsT p d A.2.1 A.2.2).2.1, (obsT p d A.2.1 A.2.2).2.2) := by rw [HR2.out]; show _ = (Tr.mk x ⟨#[]⟩ 0 (HT.trL [t, t2]), _, _); simp only [HT.trL, ht0.out.1, HF5.2.1]
          rw [e]
          exact obs_end HF5.2.2.1 HF5.2.2.2.1 hb hm _ HF5.1

end Go.Proofs.Ytgjjngkmbplijaa
