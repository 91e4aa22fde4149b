/- A row of trees of one's own: one of them may be stored anew. -/
import Derived.Test.YtgjjngkmbplijaaYPlain
import Derived.Test.YtgjjngkmbplijaaYPlan

namespace Go.Proofs.Ytgjjngkmbplijaa
open Go.RowKit
set_option linter.unusedSimpArgs false
set_option linter.unusedVariables false

/-- The tree's parts lie in memory, in blocks of which q holds, where there are any. -/
inductive HT.InE (q : Nat → Prop) (w : World) : HT → Prop
  | mk (kd : Int) (s : ByteArray) (n : Int) (a : Option Addr) (c : Nat) (k : List HT) : Rd w 4 a k.length (cellsL k) → k.length ≤ c → c ≤ maxLen → (∀ ad, a = some ad → (k.length ≠ 0 → q ad.block) ∧ ad = ⟨ad.block, 0, none⟩) → (∀ x ∈ k, HT.InE q w x) → HT.InE q w (.mk kd s n a c k)
section
variable {q : Nat → Prop} {w w' : World} {t : HT}
theorem HT.InE.rd (h : HT.InE q w t) : Rd w 4 t.a t.k.length (cellsL t.k) := by cases h; assumption
theorem HT.InE.cap (h : HT.InE q w t) : t.k.length ≤ t.c ∧ t.c ≤ maxLen := by cases h; exact ⟨by assumption, by assumption⟩
theorem HT.InE.kid (h : HT.InE q w t) {i : Nat} {x : HT} (hx : t.k[i]? = some x) : HT.InE q w x := by
  cases h with
  | mk kd s n a c k h1 h2 h3 h4 h5 => exact h5 x (List.mem_of_getElem? hx)
theorem HT.InE.ext (h : HT.InE q w t) (hx : Ext w w') : HT.InE q w' t := by
  induction h with
  | mk kd s n a c k h1 h2 h3 h4 _ ih => exact .mk kd s n a c k (h1.ext hx) h2 h3 h4 ih
theorem Rd.grownE {size n : Nat} {a : Option Addr} {xs : List Value} {m : Nat} (h : Rd w size a n xs) (hg : w.grownBy w' (some m)) (hne : ∀ ad, a = some ad → n ≠ 0 → ad.block ≠ m) : Rd w' size a n xs :=
  ⟨h.1, fun j u hu => by
    obtain ⟨ad, e, hc⟩ := h.2 j u hu
    have hn : n ≠ 0 := by
      intro e0
      have h1 := h.1
      rw [e0, Nat.zero_mul] at h1
      have := (List.getElem?_eq_some_iff.1 hu).1
      omega
    exact ⟨ad, e, hg.cell hc (by rw [add_block]; intro e2; injection e2 with e2; exact hne ad e hn e2)⟩⟩
theorem HT.InE.grown {m : Nat} (h : HT.InE q w t) (hq : ∀ b, q b → b ≠ m) (hg : w.grownBy w' (some m)) : HT.InE q w' t := by
  induction h with
  | mk kd s n a c k h1 h2 h3 h4 _ ih => exact .mk kd s n a c k (h1.grownE hg (fun ad e hn => hq _ ((h4 ad e).1 hn))) h2 h3 h4 ih
theorem HT.InE.weak {q' : Nat → Prop} (h : HT.InE q w t) (hq : ∀ b, q b → q' b) : HT.InE q' w t := by
  induction h with
  | mk kd s n a c k h1 h2 h3 h4 _ ih => exact .mk kd s n a c k h1 h2 h3 (fun ad e => ⟨fun hn => hq _ ((h4 ad e).1 hn), (h4 ad e).2⟩) ih
theorem HT.InE.any (h : HT.InE q w t) : HT.In (fun _ => True) w t := by
  induction h with
  | mk kd s n a c k h1 h2 h3 h4 _ ih => exact .mk kd s n a c k h1 h2 h3 (fun ad e => ⟨trivial, (h4 ad e).2⟩) ih
theorem HT.In.inE (h : HT.In q w t) : HT.InE (fun y => q y ∧ y < w.heap.size) w t := by
  induction h with
  | mk kd s n a c k h1 h2 h3 h4 _ ih => exact .mk kd s n a c k h1 h2 h3 (fun ad e => ⟨fun hn => ⟨(h4 ad e).1, h1.blk (by omega) ad e hn⟩, (h4 ad e).2⟩) ih
end
theorem HT.leaf_inE (q : Nat → Prop) (w : World) (kd : Int) (s : ByteArray) (n : Int) : HT.InE q w (.mk kd s n none 0 []) :=
  .mk _ _ _ _ _ _ Rd.nil (Nat.le_refl _) (by unfold maxLen; omega) (fun ad e => by cases e) (fun x hx => by cases hx)

theorem set4_take {l : List Value} {L : List HT} {n i : Nat} (x : HT) (hl : l.take (n * 4) = cellsL L) (hL : L.length = n) (hll : n * 4 ≤ l.length) (hi : i < n) :
    ((((l.set (i * 4) (.int .i64 x.kd)).set (i * 4 + 1) (.string x.s)).set (i * 4 + 2) (.int .i64 x.n)).set (i * 4 + 3) (.slice x.a x.k.length x.c)).take (n * 4) = cellsL (L.set i x) := by
  apply List.ext_getElem?
  intro m
  by_cases hm : m < n * 4
  · obtain ⟨i', j', hj, rfl⟩ : ∃ i' j', j' < 4 ∧ m = i' * 4 + j' := ⟨m / 4, m % 4, by omega, by omega⟩
    have hi' : i' < L.length := by omega
    rw [List.getElem?_take_of_lt hm]
    by_cases e : i' = i
    · subst e
      rw [cellsL_at (l := L.set i' x) (i := i') (x := x) (by simp [hi']) j' hj]
      have : j' = 0 ∨ j' = 1 ∨ j' = 2 ∨ j' = 3 := by omega
      rcases this with rfl | rfl | rfl | rfl
      · rw [List.getElem?_set_ne (by omega), List.getElem?_set_ne (by omega), List.getElem?_set_ne (by omega), Nat.add_zero, List.getElem?_set_self (by omega)]; rfl
      · rw [List.getElem?_set_ne (by omega), List.getElem?_set_ne (by omega), List.getElem?_set_self (by simp; omega)]; rfl
      · rw [List.getElem?_set_ne (by omega), List.getElem?_set_self (by simp; omega)]; rfl
      · rw [List.getElem?_set_self (by simp; omega)]; rfl
    · have h1 : (cellsL L)[i' * 4 + j']? = L[i'].cells[j']? := cellsL_at (List.getElem?_eq_getElem hi') j' hj
      rw [cellsL_at (l := L.set i x) (i := i') (x := L[i']) (by rw [List.getElem?_set_ne (fun h => e h.symm)]; exact List.getElem?_eq_getElem hi') j' hj, ← h1, ← hl, List.getElem?_take_of_lt hm,
        List.getElem?_set_ne (by omega), List.getElem?_set_ne (by omega), List.getElem?_set_ne (by omega), List.getElem?_set_ne (by omega)]
  · rw [List.getElem?_eq_none (by simp; omega), List.getElem?_eq_none (by rw [cellsL_len]; simp; omega)]

/-- The row lies in a block of its own, B; its trees' parts lie in blocks of q's, none of them B. -/
structure RowL (q : Nat → Prop) (w : World) (B n c : Nat) (L : List HT) : Prop where
  len : L.length = n
  blk : ∃ cur, w.heap[B]? = some (.cells cur 76 (0, 0)) ∧ cur.size = c * 4 ∧ cur.toList.take (n * 4) = cellsL L
  nc : n ≤ c
  cm : c ≤ maxLen
  kid : ∀ x ∈ L, x.InE (fun y => q y ∧ y ≠ B) w
/-- A tree stored in a row's cells. -/
def put4o (w : World) (b o : Nat) (kd : Int) (s : ByteArray) (n : Int) (sl : Value) : World := (((w.setCell ⟨b, o, none⟩ (.int .i64 kd)).setCell ⟨b, o + 1, none⟩ (.string s)).setCell ⟨b, o + 2, none⟩ (.int .i64 n)).setCell ⟨b, o + 3, none⟩ sl
theorem put4o_grown (w : World) (b o : Nat) (kd : Int) (s : ByteArray) (n : Int) (sl : Value) : w.grownBy (put4o w b o kd s n sl) (some b) :=
  grown_trans (grown_trans (grown_trans (setCell_grown _ _ _ _) (setCell_grown _ _ _ _)) (setCell_grown _ _ _ _)) (setCell_grown _ _ _ _)
theorem put4o_ext {w w2 : World} {b o : Nat} (h : Ext w w2) (hb : w.heap.size ≤ b) (kd : Int) (s : ByteArray) (n : Int) (sl : Value) : Ext w (put4o w2 b o kd s n sl) :=
  (((h.setCell (p := ⟨b, o, none⟩) hb _).setCell (p := ⟨b, o + 1, none⟩) hb _).setCell (p := ⟨b, o + 2, none⟩) hb _).setCell (p := ⟨b, o + 3, none⟩) hb _
section
variable {q : Nat → Prop} {w w' : World} {B n c : Nat} {L : List HT}
theorem RowL.ext (h : RowL q w B n c L) (hx : Ext w w') : RowL q w' B n c L := by
  obtain ⟨cur, h1, h2, h3⟩ := h.blk
  exact ⟨h.len, ⟨cur, hx.obj h1, h2, h3⟩, h.nc, h.cm, fun x hk => (h.kid x hk).ext hx⟩
theorem RowL.lt (h : RowL q w B n c L) : B < w.heap.size := by obtain ⟨cur, h1, _, _⟩ := h.blk; exact lt_of_obj h1
theorem RowL.at' (h : RowL q w B n c L) {i : Nat} {x : HT} (hx : L[i]? = some x) :
    w.cell? ⟨B, i * 4, none⟩ = some (.int .i64 x.kd) ∧ w.cell? ⟨B, i * 4 + 1, none⟩ = some (.string x.s) ∧ w.cell? ⟨B, i * 4 + 2, none⟩ = some (.int .i64 x.n) ∧ w.cell? ⟨B, i * 4 + 3, none⟩ = some (.slice x.a x.k.length x.c) ∧ ∀ o, w.frozen? ⟨B, o, none⟩ = false := by
  obtain ⟨cur, h1, h2, h3⟩ := h.blk
  have hi : i < L.length := (List.getElem?_eq_some_iff.1 hx).1
  have hl := h.len
  have hc : ∀ j u, j < 4 → x.cells[j]? = some u → w.cell? ⟨B, i * 4 + j, none⟩ = some u := by
    intro j u hj hu
    have e : cur.toList[i * 4 + j]? = some u := by
      rw [← hu, ← cellsL_at hx j hj, ← h3, List.getElem?_take_of_lt (by omega)]
    simp [World.cell?, h1]
    simpa using e
  exact ⟨hc 0 _ (by omega) rfl, hc 1 _ (by omega) rfl, hc 2 _ (by omega) rfl, hc 3 _ (by omega) rfl, fun o => by simp [World.frozen?, h1]⟩
theorem RowL.put (h : RowL q w B n c L) {i : Nat} (hi : i < n) (x : HT) (hx : x.InE (fun y => q y ∧ y ≠ B) w) :
    RowL q (put4o w B (i * 4) x.kd x.s x.n (.slice x.a x.k.length x.c)) B n c (L.set i x) := by
  obtain ⟨cur, h1, h2, h3⟩ := h.blk
  have hg := put4o_grown w B (i * 4) x.kd x.s x.n (.slice x.a x.k.length x.c)
  refine ⟨by rw [List.length_set, h.len], ⟨_, by unfold put4o; exact setCell_block _ B _ _ (setCell_block _ B _ _ (setCell_block _ B _ _ (setCell_block _ B _ _ h1))), by simp [h2], ?_⟩, h.nc, h.cm, fun y hy => ?_⟩
  · have := set4_take x h3 h.len (by have := h.nc; have : cur.toList.length = c * 4 := by simpa using h2
                                     omega) hi
    simpa using this
  · rcases List.mem_or_eq_of_mem_set hy with hy | rfl
    · exact (h.kid y hy).grown (fun b hb => hb.2) hg
    · exact hx.grown (fun b hb => hb.2) hg
/-- A tree with this row. -/
theorem RowL.tree (h : RowL q w B n c L) (kd : Int) (s : ByteArray) (m : Int) : (HT.mk kd s m (some ⟨B, 0, none⟩) c L).InE (fun y => q y ∨ y = B) w := by
  obtain ⟨cur, h1, h2, h3⟩ := h.blk
  have hl := h.len
  refine .mk _ _ _ _ _ _ ⟨cellsL_len _, fun j u hu => ⟨_, rfl, ?_⟩⟩ (by rw [hl]; exact h.nc) h.cm (fun ad e => by injection e with e; subst e; exact ⟨fun _ => .inr rfl, rfl⟩) (fun x hk => (h.kid x hk).weak (fun y hy => .inl hy.1))
  have hj : j < n * 4 := by have := (List.getElem?_eq_some_iff.1 hu).1; rw [cellsL_len] at this; omega
  rw [← h3, List.getElem?_take_of_lt hj] at hu
  rw [Addr.add_lit]
  simp [World.cell?, h1]
  simpa using hu
theorem RowL.of_own {b0 : Nat} (h : w.ownsRow b0 76 4 (.slice (some ⟨B, 0, none⟩) n c) n (cellsL L)) (hn : 0 < n) (hl : L.length = n) (hk : ∀ x ∈ L, x.InE (fun y => q y ∧ y ≠ B) w) : RowL q w B n c L := by
  rcases h.2 with ⟨_, h0⟩ | ⟨g, cap, cur, hv, hb, hg, h1, h2, h3, h4⟩
  · omega
  · injection hv with e1 e2 e3
    injection e1 with e1
    injection e1 with e1
    subst e1 e3
    exact ⟨hl, ⟨cur, hg, h3, h4⟩, h1, h2, hk⟩
end

end Go.Proofs.Ytgjjngkmbplijaa
