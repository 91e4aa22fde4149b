/- Texts put together: RowL, Spd, Spoil, Spoilt. -/
import Derived.Test.YtgjjngkmbplijaaYPlain
import Derived.Test.YtgjjngkmbplijaaYPlan
import Derived.Test.YtgjjngkmbplijaaZPl
import Derived.Test.YtgjjngkmbplijaaYRef5
import Derived.Test.YtgjjngkmbplijaaZVa
import Derived.Test.YtgjjngkmbplijaaZRf
import Derived.Deep.RegionHeld3
/- A row of trees of one's own: one of them may be stored anew. -/
namespace Go.Proofs.Ytgjjngkmbplijaa
open Go.RowKit
set_option linter.unusedSimpArgs false
set_option linter.unusedVariables false

/-- The tree's parts lie in memory, in blocks of which q holds, where there are any. -/
inductive HT.InE (q : Nat → Prop) (w : World) : HT → Prop
  | mk (kd : Int) (s : ByteArray) (n : Int) (a : Option Addr) (c : Nat) (k : List HT) : Rd w 4 a k.length (cellsL k) → k.length ≤ c → c ≤ maxLen → (∀ ad, a = some ad → (k.length ≠ 0 → q ad.block) ∧ ad = ⟨ad.block, 0, none⟩) → (∀ x ∈ k, HT.InE q w x) → HT.InE q w (.mk kd s n a c k)
section
variable {q : Nat → Prop} {w w' : World} {t : HT}
theorem HT.InE.rd (h : HT.InE q w t) : Rd w 4 t.a t.k.length (cellsL t.k) := by cases h; assumption
theorem HT.InE.cap (h : HT.InE q w t) : t.k.length ≤ t.c ∧ t.c ≤ maxLen := by cases h; exact ⟨by assumption, by assumption⟩
theorem HT.InE.kid (h : HT.InE q w t) {i : Nat} {x : HT} (hx : t.k[i]? = some x) : HT.InE q w x := by
  cases h with
  | mk kd s n a c k h1 h2 h3 h4 h5 => exact h5 x (List.mem_of_getElem? hx)
theorem HT.InE.ext (h : HT.InE q w t) (hx : Ext w w') : HT.InE q w' t := by
  induction h with
  | mk kd s n a c k h1 h2 h3 h4 _ ih => exact .mk kd s n a c k (h1.ext hx) h2 h3 h4 ih
theorem Rd.grownE {size n : Nat} {a : Option Addr} {xs : List Value} {m : Nat} (h : Rd w size a n xs) (hg : w.grownBy w' (some m)) (hne : ∀ ad, a = some ad → n ≠ 0 → ad.block ≠ m) : Rd w' size a n xs :=
  ⟨h.1, fun j u hu => by
    obtain ⟨ad, e, hc⟩ := h.2 j u hu
    have hn : n ≠ 0 := by
      intro e0
      have h1 := h.1
      rw [e0, Nat.zero_mul] at h1
      have := (List.getElem?_eq_some_iff.1 hu).1
      omega
    exact ⟨ad, e, hg.cell hc (by rw [add_block]; intro e2; injection e2 with e2; exact hne ad e hn e2)⟩⟩
theorem HT.InE.grown {m : Nat} (h : HT.InE q w t) (hq : ∀ b, q b → b ≠ m) (hg : w.grownBy w' (some m)) : HT.InE q w' t := by
  induction h with
  | mk kd s n a c k h1 h2 h3 h4 _ ih => exact .mk kd s n a c k (h1.grownE hg (fun ad e hn => hq _ ((h4 ad e).1 hn))) h2 h3 h4 ih
theorem HT.InE.weak {q' : Nat → Prop} (h : HT.InE q w t) (hq : ∀ b, q b → q' b) : HT.InE q' w t := by
  induction h with
  | mk kd s n a c k h1 h2 h3 h4 _ ih => exact .mk kd s n a c k h1 h2 h3 (fun ad e => ⟨fun hn => hq _ ((h4 ad e).1 hn), (h4 ad e).2⟩) ih
theorem HT.InE.any (h : HT.InE q w t) : HT.In (fun _ => True) w t := by
  induction h with
  | mk kd s n a c k h1 h2 h3 h4 _ ih => exact .mk kd s n a c k h1 h2 h3 (fun ad e => ⟨trivial, (h4 ad e).2⟩) ih
theorem HT.In.inE (h : HT.In q w t) : HT.InE (fun y => q y ∧ y < w.heap.size) w t := by
  induction h with
  | mk kd s n a c k h1 h2 h3 h4 _ ih => exact .mk kd s n a c k h1 h2 h3 (fun ad e => ⟨fun hn => ⟨(h4 ad e).1, h1.blk (by omega) ad e hn⟩, (h4 ad e).2⟩) ih
end
theorem HT.leaf_inE (q : Nat → Prop) (w : World) (kd : Int) (s : ByteArray) (n : Int) : HT.InE q w (.mk kd s n none 0 []) :=
  .mk _ _ _ _ _ _ Rd.nil (Nat.le_refl _) (by unfold maxLen; omega) (fun ad e => by cases e) (fun x hx => by cases hx)

theorem set4_take {l : List Value} {L : List HT} {n i : Nat} (x : HT) (hl : l.take (n * 4) = cellsL L) (hL : L.length = n) (hll : n * 4 ≤ l.length) (hi : i < n) :
    ((((l.set (i * 4) (.int .i64 x.kd)).set (i * 4 + 1) (.string x.s)).set (i * 4 + 2) (.int .i64 x.n)).set (i * 4 + 3) (.slice x.a x.k.length x.c)).take (n * 4) = cellsL (L.set i x) := by
  apply List.ext_getElem?
  intro m
  by_cases hm : m < n * 4
  · obtain ⟨i', j', hj, rfl⟩ : ∃ i' j', j' < 4 ∧ m = i' * 4 + j' := ⟨m / 4, m % 4, by omega, by omega⟩
    have hi' : i' < L.length := by omega
    rw [List.getElem?_take_of_lt hm]
    by_cases e : i' = i
    · subst e
      rw [cellsL_at (l := L.set i' x) (i := i') (x := x) (by simp [hi']) j' hj]
      have : j' = 0 ∨ j' = 1 ∨ j' = 2 ∨ j' = 3 := by omega
      rcases this with rfl | rfl | rfl | rfl
      · rw [List.getElem?_set_ne (by omega), List.getElem?_set_ne (by omega), List.getElem?_set_ne (by omega), Nat.add_zero, List.getElem?_set_self (by omega)]; rfl
      · rw [List.getElem?_set_ne (by omega), List.getElem?_set_ne (by omega), List.getElem?_set_self (by simp; omega)]; rfl
      · rw [List.getElem?_set_ne (by omega), List.getElem?_set_self (by simp; omega)]; rfl
      · rw [List.getElem?_set_self (by simp; omega)]; rfl
    · have h1 : (cellsL L)[i' * 4 + j']? = L[i'].cells[j']? := cellsL_at (List.getElem?_eq_getElem hi') j' hj
      rw [cellsL_at (l := L.set i x) (i := i') (x := L[i']) (by rw [List.getElem?_set_ne (fun h => e h.symm)]; exact List.getElem?_eq_getElem hi') j' hj, ← h1, ← hl, List.getElem?_take_of_lt hm,
        List.getElem?_set_ne (by omega), List.getElem?_set_ne (by omega), List.getElem?_set_ne (by omega), List.getElem?_set_ne (by omega)]
  · rw [List.getElem?_eq_none (by simp; omega), List.getElem?_eq_none (by rw [cellsL_len]; simp; omega)]

/-- The row lies in a block of its own, B; its trees' parts lie in blocks of q's, none of them B. -/
structure RowL (q : Nat → Prop) (w : World) (B n c : Nat) (L : List HT) : Prop where
  len : L.length = n
  blk : ∃ cur, w.heap[B]? = some (.cells cur 76 (0, 0)) ∧ cur.size = c * 4 ∧ cur.toList.take (n * 4) = cellsL L
  nc : n ≤ c
  cm : c ≤ maxLen
  kid : ∀ x ∈ L, x.InE (fun y => q y ∧ y ≠ B) w
/-- A tree stored in a row's cells. -/
def put4o (w : World) (b o : Nat) (kd : Int) (s : ByteArray) (n : Int) (sl : Value) : World := (((w.setCell ⟨b, o, none⟩ (.int .i64 kd)).setCell ⟨b, o + 1, none⟩ (.string s)).setCell ⟨b, o + 2, none⟩ (.int .i64 n)).setCell ⟨b, o + 3, none⟩ sl
theorem put4o_grown (w : World) (b o : Nat) (kd : Int) (s : ByteArray) (n : Int) (sl : Value) : w.grownBy (put4o w b o kd s n sl) (some b) :=
  grown_trans (grown_trans (grown_trans (setCell_grown _ _ _ _) (setCell_grown _ _ _ _)) (setCell_grown _ _ _ _)) (setCell_grown _ _ _ _)
theorem put4o_ext {w w2 : World} {b o : Nat} (h : Ext w w2) (hb : w.heap.size ≤ b) (kd : Int) (s : ByteArray) (n : Int) (sl : Value) : Ext w (put4o w2 b o kd s n sl) :=
  (((h.setCell (p := ⟨b, o, none⟩) hb _).setCell (p := ⟨b, o + 1, none⟩) hb _).setCell (p := ⟨b, o + 2, none⟩) hb _).setCell (p := ⟨b, o + 3, none⟩) hb _
section
variable {q : Nat → Prop} {w w' : World} {B n c : Nat} {L : List HT}
theorem RowL.ext (h : RowL q w B n c L) (hx : Ext w w') : RowL q w' B n c L := by
  obtain ⟨cur, h1, h2, h3⟩ := h.blk
  exact ⟨h.len, ⟨cur, hx.obj h1, h2, h3⟩, h.nc, h.cm, fun x hk => (h.kid x hk).ext hx⟩
theorem RowL.lt (h : RowL q w B n c L) : B < w.heap.size := by obtain ⟨cur, h1, _, _⟩ := h.blk; exact lt_of_obj h1
theorem RowL.at' (h : RowL q w B n c L) {i : Nat} {x : HT} (hx : L[i]? = some x) :
    w.cell? ⟨B, i * 4, none⟩ = some (.int .i64 x.kd) ∧ w.cell? ⟨B, i * 4 + 1, none⟩ = some (.string x.s) ∧ w.cell? ⟨B, i * 4 + 2, none⟩ = some (.int .i64 x.n) ∧ w.cell? ⟨B, i * 4 + 3, none⟩ = some (.slice x.a x.k.length x.c) ∧ ∀ o, w.frozen? ⟨B, o, none⟩ = false := by
  obtain ⟨cur, h1, h2, h3⟩ := h.blk
  have hi : i < L.length := (List.getElem?_eq_some_iff.1 hx).1
  have hl := h.len
  have hc : ∀ j u, j < 4 → x.cells[j]? = some u → w.cell? ⟨B, i * 4 + j, none⟩ = some u := by
    intro j u hj hu
    have e : cur.toList[i * 4 + j]? = some u := by
      rw [← hu, ← cellsL_at hx j hj, ← h3, List.getElem?_take_of_lt (by omega)]
    simp [World.cell?, h1]
    simpa using e
  exact ⟨hc 0 _ (by omega) rfl, hc 1 _ (by omega) rfl, hc 2 _ (by omega) rfl, hc 3 _ (by omega) rfl, fun o => by simp [World.frozen?, h1]⟩
theorem RowL.put (h : RowL q w B n c L) {i : Nat} (hi : i < n) (x : HT) (hx : x.InE (fun y => q y ∧ y ≠ B) w) :
    RowL q (put4o w B (i * 4) x.kd x.s x.n (.slice x.a x.k.length x.c)) B n c (L.set i x) := by
  obtain ⟨cur, h1, h2, h3⟩ := h.blk
  have hg := put4o_grown w B (i * 4) x.kd x.s x.n (.slice x.a x.k.length x.c)
  refine ⟨by rw [List.length_set, h.len], ⟨_, by unfold put4o; exact setCell_block _ B _ _ (setCell_block _ B _ _ (setCell_block _ B _ _ (setCell_block _ B _ _ h1))), by simp [h2], ?_⟩, h.nc, h.cm, fun y hy => ?_⟩
  · have := set4_take x h3 h.len (by have := h.nc; have : cur.toList.length = c * 4 := by simpa using h2
                                     omega) hi
    simpa using this
  · rcases List.mem_or_eq_of_mem_set hy with hy | rfl
    · exact (h.kid y hy).grown (fun b hb => hb.2) hg
    · exact hx.grown (fun b hb => hb.2) hg
/-- A tree with this row. -/
theorem RowL.tree (h : RowL q w B n c L) (kd : Int) (s : ByteArray) (m : Int) : (HT.mk kd s m (some ⟨B, 0, none⟩) c L).InE (fun y => q y ∨ y = B) w := by
  obtain ⟨cur, h1, h2, h3⟩ := h.blk
  have hl := h.len
  refine .mk _ _ _ _ _ _ ⟨cellsL_len _, fun j u hu => ⟨_, rfl, ?_⟩⟩ (by rw [hl]; exact h.nc) h.cm (fun ad e => by injection e with e; subst e; exact ⟨fun _ => .inr rfl, rfl⟩) (fun x hk => (h.kid x hk).weak (fun y hy => .inl hy.1))
  have hj : j < n * 4 := by have := (List.getElem?_eq_some_iff.1 hu).1; rw [cellsL_len] at this; omega
  rw [← h3, List.getElem?_take_of_lt hj] at hu
  rw [Addr.add_lit]
  simp [World.cell?, h1]
  simpa using hu
theorem RowL.of_own {b0 : Nat} (h : w.ownsRow b0 76 4 (.slice (some ⟨B, 0, none⟩) n c) n (cellsL L)) (hn : 0 < n) (hl : L.length = n) (hk : ∀ x ∈ L, x.InE (fun y => q y ∧ y ≠ B) w) : RowL q w B n c L := by
  rcases h.2 with ⟨_, h0⟩ | ⟨g, cap, cur, hv, hb, hg, h1, h2, h3, h4⟩
  · omega
  · injection hv with e1 e2 e3
    injection e1 with e1
    injection e1 with e1
    subst e1 e3
    exact ⟨hl, ⟨cur, hg, h3, h4⟩, h1, h2, hk⟩
end

end Go.Proofs.Ytgjjngkmbplijaa

/- Trees spoilt at places, as plain data: such a tree makes a number, a contract still, perhaps one with nothing within. No program in sight. -/
namespace Go.Proofs.Ytgjjngkmbplijaa
open Go.RowKit
set_option linter.unusedSimpArgs false
set_option linter.unusedVariables false

/-- The tree, spoilt at some places, or as it was. -/
inductive Spd : Tr → Tr → Prop
  | refl (t : Tr) : Spd t t
  | zero (t : Tr) : Spd t (.mk 0 ⟨#[]⟩ 0 [])
  | name (kd : Int) (s : ByteArray) (n : Int) (k : List Tr) (s' : ByteArray) : s'.size ≤ 20 → Spd (.mk kd s n k) (.mk kd s' n k)
  | num (kd : Int) (s : ByteArray) (n : Int) (k : List Tr) (n' : Int) : -9223372036854775808 ≤ n' → n' ≤ 9223372036854775807 → Spd (.mk kd s n k) (.mk kd s n' k)
  | flipT (kd : Int) (s : ByteArray) (n : Int) (k : List Tr) : 11 ≤ kd → Spd (.mk kd s n k) (.mk 1 ⟨#[]⟩ 0 [])
  | flipO (kd : Int) (s : ByteArray) (n : Int) (k : List Tr) : kd < 11 → Spd (.mk kd s n k) (.mk 11 ⟨#[]⟩ 1 [])
  | kids (kd : Int) (s : ByteArray) (n : Int) (k k' : List Tr) : k'.length = k.length → (∀ (i : Nat) (x y : Tr), k[i]? = some x → k'[i]? = some y → Spd x y) → Spd (.mk kd s n k) (.mk kd s n k')

theorem one_of {k : List Tr} (h : k.length = 1) : ∃ x, k = [x] := by
  match k, h with
  | [x], _ => exact ⟨x, rfl⟩
theorem two_of {k : List Tr} (h : k.length = 2) : ∃ x y, k = [x, y] := by
  match k, h with
  | [x, y], _ => exact ⟨x, y, rfl⟩
theorem three_of {k : List Tr} (h : k.length = 3) : ∃ x y z, k = [x, y, z] := by
  match k, h with
  | [x, y, z], _ => exact ⟨x, y, z, rfl⟩

/-- The spoilt tree's number: no more in it, no deeper. -/
structure ObSp (t : Tr) (N D : Nat) (o : Ob) : Prop where
  is : IsOb t o
  wf : o.wf
  nodes : o.nodes ≤ N
  depth : o.depth ≤ D
structure TeSp (t : Tr) (N D : Nat) (o : Te) : Prop where
  is : IsTe t o
  wf : o.wf
  nodes : o.nodes ≤ N
  depth : o.depth ≤ D
theorem obSp_none (N D : Nat) (kd : Int) (s : ByteArray) (n : Int) (k : List Tr) (h : kd < 11 ∨ 16 < kd) : ∃ o, ObSp (.mk kd s n k) N D o :=
  ⟨_, .none _ _ _ _ h, .inl rfl, Nat.zero_le _, Nat.zero_le _⟩
theorem teSp_none (N D : Nat) (kd : Int) (s : ByteArray) (n : Int) (k : List Tr) (h : kd < 1 ∨ 8 < kd) : ∃ o, TeSp (.mk kd s n k) N D o :=
  ⟨_, .none _ _ _ _ h, .inl rfl, Nat.zero_le _, Nat.zero_le _⟩
theorem obSp_const (t : Tr) (N : Nat) (D : Nat) (n : Int) (s : ByteArray) (k : List Tr) (h1 : -9223372036854775808 ≤ n) (h2 : n ≤ 9223372036854775807) (hN : 1 ≤ N) (hD : 1 ≤ D) : ∃ o, ObSp (.mk 11 s n k) N D o :=
  ⟨_, .const _ _ _, ⟨h1, h2⟩, by simp only [Ob.nodes]; omega, by simp only [Ob.depth]; omega⟩

theorem IsOb.spoil {t : Tr} {o : Ob} (h : IsOb t o) : o.wf → o.clean → ∀ t', Spd t t' → ∃ o', ObSp t' o.nodes o.depth o' := by
  induction h with
  | const s n k =>
    intro hw hc t' hs
    cases hs with
    | refl => exact ⟨_, .const _ _ _, hw, Nat.le_refl _, Nat.le_refl _⟩
    | zero => exact obSp_none _ _ _ _ _ _ (.inl (by omega))
    | name _ _ _ _ s' h => exact ⟨_, .const _ _ _, hw, Nat.le_refl _, Nat.le_refl _⟩
    | num _ _ _ _ n' h1 h2 => exact ⟨_, .const _ _ _, ⟨h1, h2⟩, Nat.le_refl _, Nat.le_refl _⟩
    | flipT => exact obSp_none _ _ _ _ _ _ (.inl (by omega))
    | flipO _ _ _ _ h => omega
    | kids _ _ _ _ k' hl hk => exact ⟨_, .const _ _ _, hw, Nat.le_refl _, Nat.le_refl _⟩
  | fix s n k =>
    intro hw hc t' hs
    cases hs with
    | refl => exact ⟨_, .fix _ _ _, hw, Nat.le_refl _, Nat.le_refl _⟩
    | zero => exact obSp_none _ _ _ _ _ _ (.inl (by omega))
    | name _ _ _ _ s' h => exact ⟨_, .fix _ _ _, Nat.le_trans h (by omega), Nat.le_refl _, Nat.le_refl _⟩
    | num _ _ _ _ n' h1 h2 => exact ⟨_, .fix _ _ _, hw, Nat.le_refl _, Nat.le_refl _⟩
    | flipT => exact obSp_none _ _ _ _ _ _ (.inl (by omega))
    | flipO _ _ _ _ h => omega
    | kids _ _ _ _ k' hl hk => exact ⟨_, .fix _ _ _, hw, Nat.le_refl _, Nat.le_refl _⟩
  | neg s n l a ia ih =>
    intro hw hc t' hs
    cases hs with
    | refl => exact ⟨_, .neg _ _ _ _ ia, hw, Nat.le_refl _, Nat.le_refl _⟩
    | zero => exact obSp_none _ _ _ _ _ _ (.inl (by omega))
    | name _ _ _ _ s' h => exact ⟨_, .neg _ _ _ _ ia, hw, Nat.le_refl _, Nat.le_refl _⟩
    | num _ _ _ _ n' h1 h2 => exact ⟨_, .neg _ _ _ _ ia, hw, Nat.le_refl _, Nat.le_refl _⟩
    | flipT => exact obSp_none _ _ _ _ _ _ (.inl (by omega))
    | flipO _ _ _ _ h => omega
    | kids _ _ _ _ k' hl hk =>
      obtain ⟨x, rfl⟩ := one_of hl
      obtain ⟨a', ha⟩ := ih hw hc x (hk 0 _ _ rfl rfl)
      have n1 := ha.nodes
      have d1 := ha.depth
      exact ⟨.neg a', .neg _ _ _ _ ha.is, ha.wf, by simp only [Ob.nodes]; omega, by simp only [Ob.depth]; omega⟩
  | add s n l r a b ia ib ih1 ih2 =>
    intro hw hc t' hs
    cases hs with
    | refl => exact ⟨_, .add _ _ _ _ _ _ ia ib, hw, Nat.le_refl _, Nat.le_refl _⟩
    | zero => exact obSp_none _ _ _ _ _ _ (.inl (by omega))
    | name _ _ _ _ s' h => exact ⟨_, .add _ _ _ _ _ _ ia ib, hw, Nat.le_refl _, Nat.le_refl _⟩
    | num _ _ _ _ n' h1 h2 => exact ⟨_, .add _ _ _ _ _ _ ia ib, hw, Nat.le_refl _, Nat.le_refl _⟩
    | flipT => exact obSp_none _ _ _ _ _ _ (.inl (by omega))
    | flipO _ _ _ _ h => omega
    | kids _ _ _ _ k' hl hk =>
      obtain ⟨x, y, rfl⟩ := two_of hl
      obtain ⟨a', ha⟩ := ih1 hw.1 hc.1 x (hk 0 _ _ rfl rfl)
      obtain ⟨b', hb⟩ := ih2 hw.2 hc.2 y (hk 1 _ _ rfl rfl)
      have n1 := ha.nodes
      have d1 := ha.depth
      have n2 := hb.nodes
      have d2 := hb.depth
      exact ⟨.add a' b', .add _ _ _ _ _ _ ha.is hb.is, ⟨ha.wf, hb.wf⟩, by simp only [Ob.nodes]; omega, by simp only [Ob.depth]; omega⟩
  | mul s n l r a b ia ib ih1 ih2 =>
    intro hw hc t' hs
    cases hs with
    | refl => exact ⟨_, .mul _ _ _ _ _ _ ia ib, hw, Nat.le_refl _, Nat.le_refl _⟩
    | zero => exact obSp_none _ _ _ _ _ _ (.inl (by omega))
    | name _ _ _ _ s' h => exact ⟨_, .mul _ _ _ _ _ _ ia ib, hw, Nat.le_refl _, Nat.le_refl _⟩
    | num _ _ _ _ n' h1 h2 => exact ⟨_, .mul _ _ _ _ _ _ ia ib, hw, Nat.le_refl _, Nat.le_refl _⟩
    | flipT => exact obSp_none _ _ _ _ _ _ (.inl (by omega))
    | flipO _ _ _ _ h => omega
    | kids _ _ _ _ k' hl hk =>
      obtain ⟨x, y, rfl⟩ := two_of hl
      obtain ⟨a', ha⟩ := ih1 hw.1 hc.1 x (hk 0 _ _ rfl rfl)
      obtain ⟨b', hb⟩ := ih2 hw.2 hc.2 y (hk 1 _ _ rfl rfl)
      have n1 := ha.nodes
      have d1 := ha.depth
      have n2 := hb.nodes
      have d2 := hb.depth
      exact ⟨.mul a' b', .mul _ _ _ _ _ _ ha.is hb.is, ⟨ha.wf, hb.wf⟩, by simp only [Ob.nodes]; omega, by simp only [Ob.depth]; omega⟩
  | max s n l r a b ia ib ih1 ih2 =>
    intro hw hc t' hs
    cases hs with
    | refl => exact ⟨_, .max _ _ _ _ _ _ ia ib, hw, Nat.le_refl _, Nat.le_refl _⟩
    | zero => exact obSp_none _ _ _ _ _ _ (.inl (by omega))
    | name _ _ _ _ s' h => exact ⟨_, .max _ _ _ _ _ _ ia ib, hw, Nat.le_refl _, Nat.le_refl _⟩
    | num _ _ _ _ n' h1 h2 => exact ⟨_, .max _ _ _ _ _ _ ia ib, hw, Nat.le_refl _, Nat.le_refl _⟩
    | flipT => exact obSp_none _ _ _ _ _ _ (.inl (by omega))
    | flipO _ _ _ _ h => omega
    | kids _ _ _ _ k' hl hk =>
      obtain ⟨x, y, rfl⟩ := two_of hl
      obtain ⟨a', ha⟩ := ih1 hw.1 hc.1 x (hk 0 _ _ rfl rfl)
      obtain ⟨b', hb⟩ := ih2 hw.2 hc.2 y (hk 1 _ _ rfl rfl)
      have n1 := ha.nodes
      have d1 := ha.depth
      have n2 := hb.nodes
      have d2 := hb.depth
      exact ⟨.max a' b', .max _ _ _ _ _ _ ha.is hb.is, ⟨ha.wf, hb.wf⟩, by simp only [Ob.nodes]; omega, by simp only [Ob.depth]; omega⟩
  | none kd s n k hk => intro hw hc; exact hc.elim

theorem IsTe.spoil {t : Tr} {o : Te} (h : IsTe t o) : o.wf → o.clean → ∀ t', Spd t t' → ∃ o', TeSp t' o.nodes o.depth o' := by
  induction h with
  | zero s n k =>
    intro hw hc t' hs
    cases hs with
    | refl => exact ⟨_, .zero _ _ _, hw, Nat.le_refl _, Nat.le_refl _⟩
    | zero => exact teSp_none _ _ _ _ _ _ (.inl (by omega))
    | name _ _ _ _ s' h => exact ⟨_, .zero _ _ _, hw, Nat.le_refl _, Nat.le_refl _⟩
    | num _ _ _ _ n' h1 h2 => exact ⟨_, .zero _ _ _, hw, Nat.le_refl _, Nat.le_refl _⟩
    | flipT _ _ _ _ h => omega
    | flipO => exact teSp_none _ _ _ _ _ _ (.inr (by omega))
    | kids _ _ _ _ k' hl hk => exact ⟨_, .zero _ _ _, hw, Nat.le_refl _, Nat.le_refl _⟩
  | one s n k =>
    intro hw hc t' hs
    cases hs with
    | refl => exact ⟨_, .one _ _ _, hw, Nat.le_refl _, Nat.le_refl _⟩
    | zero => exact teSp_none _ _ _ _ _ _ (.inl (by omega))
    | name _ _ _ _ s' h => exact ⟨_, .one _ _ _, Nat.le_trans h (by omega), Nat.le_refl _, Nat.le_refl _⟩
    | num _ _ _ _ n' h1 h2 => exact ⟨_, .one _ _ _, hw, Nat.le_refl _, Nat.le_refl _⟩
    | flipT _ _ _ _ h => omega
    | flipO => exact teSp_none _ _ _ _ _ _ (.inr (by omega))
    | kids _ _ _ _ k' hl hk => exact ⟨_, .one _ _ _, hw, Nat.le_refl _, Nat.le_refl _⟩
  | give s n l a ia iha =>
    intro hw hc t' hs
    cases hs with
    | refl => exact ⟨_, .give _ _ _ _ ia, hw, Nat.le_refl _, Nat.le_refl _⟩
    | zero => exact teSp_none _ _ _ _ _ _ (.inl (by omega))
    | name _ _ _ _ s' h => exact ⟨_, .give _ _ _ _ ia, hw, Nat.le_refl _, Nat.le_refl _⟩
    | num _ _ _ _ n' h1 h2 => exact ⟨_, .give _ _ _ _ ia, hw, Nat.le_refl _, Nat.le_refl _⟩
    | flipT _ _ _ _ h => omega
    | flipO => exact teSp_none _ _ _ _ _ _ (.inr (by omega))
    | kids _ _ _ _ k' hl hk =>
      obtain ⟨x, rfl⟩ := one_of hl
      obtain ⟨a', ha⟩ := iha hw hc x (hk 0 _ _ rfl rfl)
      have na := ha.nodes
      have da := ha.depth
      exact ⟨.give a', .give _ _ _ _ ha.is, ha.wf, by simp only [Te.nodes]; omega, by simp only [Te.depth]; omega⟩
  | and s n l r a b ia ib iha ihb =>
    intro hw hc t' hs
    cases hs with
    | refl => exact ⟨_, .and _ _ _ _ _ _ ia ib, hw, Nat.le_refl _, Nat.le_refl _⟩
    | zero => exact teSp_none _ _ _ _ _ _ (.inl (by omega))
    | name _ _ _ _ s' h => exact ⟨_, .and _ _ _ _ _ _ ia ib, hw, Nat.le_refl _, Nat.le_refl _⟩
    | num _ _ _ _ n' h1 h2 => exact ⟨_, .and _ _ _ _ _ _ ia ib, hw, Nat.le_refl _, Nat.le_refl _⟩
    | flipT _ _ _ _ h => omega
    | flipO => exact teSp_none _ _ _ _ _ _ (.inr (by omega))
    | kids _ _ _ _ k' hl hk =>
      obtain ⟨x, y, rfl⟩ := two_of hl
      obtain ⟨a', ha⟩ := iha hw.1 hc.1 x (hk 0 _ _ rfl rfl)
      have na := ha.nodes
      have da := ha.depth
      obtain ⟨b', hb⟩ := ihb hw.2 hc.2 y (hk 1 _ _ rfl rfl)
      have nb := hb.nodes
      have db := hb.depth
      exact ⟨.and a' b', .and _ _ _ _ _ _ ha.is hb.is, ⟨ha.wf, hb.wf⟩, by simp only [Te.nodes]; omega, by simp only [Te.depth]; omega⟩
  | or s n l r a b ia ib iha ihb =>
    intro hw hc t' hs
    cases hs with
    | refl => exact ⟨_, .or _ _ _ _ _ _ ia ib, hw, Nat.le_refl _, Nat.le_refl _⟩
    | zero => exact teSp_none _ _ _ _ _ _ (.inl (by omega))
    | name _ _ _ _ s' h => exact ⟨_, .or _ _ _ _ _ _ ia ib, ⟨Nat.le_trans h (by omega), hw.2⟩, Nat.le_refl _, Nat.le_refl _⟩
    | num _ _ _ _ n' h1 h2 => exact ⟨_, .or _ _ _ _ _ _ ia ib, hw, Nat.le_refl _, Nat.le_refl _⟩
    | flipT _ _ _ _ h => omega
    | flipO => exact teSp_none _ _ _ _ _ _ (.inr (by omega))
    | kids _ _ _ _ k' hl hk =>
      obtain ⟨x, y, rfl⟩ := two_of hl
      obtain ⟨a', ha⟩ := iha hw.2.1 hc.1 x (hk 0 _ _ rfl rfl)
      have na := ha.nodes
      have da := ha.depth
      obtain ⟨b', hb⟩ := ihb hw.2.2 hc.2 y (hk 1 _ _ rfl rfl)
      have nb := hb.nodes
      have db := hb.depth
      exact ⟨.or _ a' b', .or _ _ _ _ _ _ ha.is hb.is, ⟨hw.1, ha.wf, hb.wf⟩, by simp only [Te.nodes]; omega, by simp only [Te.depth]; omega⟩
  | scale s n l r a b ia ib ihb =>
    intro hw hc t' hs
    cases hs with
    | refl => exact ⟨_, .scale _ _ _ _ _ _ ia ib, hw, Nat.le_refl _, Nat.le_refl _⟩
    | zero => exact teSp_none _ _ _ _ _ _ (.inl (by omega))
    | name _ _ _ _ s' h => exact ⟨_, .scale _ _ _ _ _ _ ia ib, hw, Nat.le_refl _, Nat.le_refl _⟩
    | num _ _ _ _ n' h1 h2 => exact ⟨_, .scale _ _ _ _ _ _ ia ib, hw, Nat.le_refl _, Nat.le_refl _⟩
    | flipT _ _ _ _ h => omega
    | flipO => exact teSp_none _ _ _ _ _ _ (.inr (by omega))
    | kids _ _ _ _ k' hl hk =>
      obtain ⟨x, y, rfl⟩ := two_of hl
      obtain ⟨a', ha⟩ := IsOb.spoil ia hw.1 hc.1 x (hk 0 _ _ rfl rfl)
      have na := ha.nodes
      have da := ha.depth
      obtain ⟨b', hb⟩ := ihb hw.2 hc.2 y (hk 1 _ _ rfl rfl)
      have nb := hb.nodes
      have db := hb.depth
      exact ⟨.scale a' b', .scale _ _ _ _ _ _ ha.is hb.is, ⟨ha.wf, hb.wf⟩, by simp only [Te.nodes]; omega, by simp only [Te.depth]; omega⟩
  | whn s n l a ia iha =>
    intro hw hc t' hs
    cases hs with
    | refl => exact ⟨_, .whn _ _ _ _ ia, hw, Nat.le_refl _, Nat.le_refl _⟩
    | zero => exact teSp_none _ _ _ _ _ _ (.inl (by omega))
    | name _ _ _ _ s' h => exact ⟨_, .whn _ _ _ _ ia, hw, Nat.le_refl _, Nat.le_refl _⟩
    | num _ _ _ _ n' h1 h2 => exact ⟨_, .whn _ _ _ _ ia, ⟨⟨h1, h2⟩, hw.2⟩, Nat.le_refl _, Nat.le_refl _⟩
    | flipT _ _ _ _ h => omega
    | flipO => exact teSp_none _ _ _ _ _ _ (.inr (by omega))
    | kids _ _ _ _ k' hl hk =>
      obtain ⟨x, rfl⟩ := one_of hl
      obtain ⟨a', ha⟩ := iha hw.2 hc x (hk 0 _ _ rfl rfl)
      have na := ha.nodes
      have da := ha.depth
      exact ⟨.whn _ a', .whn _ _ _ _ ha.is, ⟨hw.1, ha.wf⟩, by simp only [Te.nodes]; omega, by simp only [Te.depth]; omega⟩
  | cond s n o l r a b c ia ib ic ihb ihc =>
    intro hw hc t' hs
    cases hs with
    | refl => exact ⟨_, .cond _ _ _ _ _ _ _ _ ia ib ic, hw, Nat.le_refl _, Nat.le_refl _⟩
    | zero => exact teSp_none _ _ _ _ _ _ (.inl (by omega))
    | name _ _ _ _ s' h => exact ⟨_, .cond _ _ _ _ _ _ _ _ ia ib ic, hw, Nat.le_refl _, Nat.le_refl _⟩
    | num _ _ _ _ n' h1 h2 => exact ⟨_, .cond _ _ _ _ _ _ _ _ ia ib ic, hw, Nat.le_refl _, Nat.le_refl _⟩
    | flipT _ _ _ _ h => omega
    | flipO => exact teSp_none _ _ _ _ _ _ (.inr (by omega))
    | kids _ _ _ _ k' hl hk =>
      obtain ⟨x, y, z, rfl⟩ := three_of hl
      obtain ⟨a', ha⟩ := IsOb.spoil ia hw.1 hc.1 x (hk 0 _ _ rfl rfl)
      have na := ha.nodes
      have da := ha.depth
      obtain ⟨b', hb⟩ := ihb hw.2.1 hc.2.1 y (hk 1 _ _ rfl rfl)
      have nb := hb.nodes
      have db := hb.depth
      obtain ⟨c', hc⟩ := ihc hw.2.2 hc.2.2 z (hk 2 _ _ rfl rfl)
      have nc := hc.nodes
      have dc := hc.depth
      exact ⟨.cond a' b' c', .cond _ _ _ _ _ _ _ _ ha.is hb.is hc.is, ⟨ha.wf, hb.wf, hc.wf⟩, by simp only [Te.nodes]; omega, by simp only [Te.depth]; omega⟩
  | none kd s n k hk => intro hw hc; exact hc.elim

end Go.Proofs.Ytgjjngkmbplijaa

/- Package play: a tree spoilt at a place (spoil). -/
namespace Go.Proofs.Ytgjjngkmbplijaa
open Go.RowKit
set_option linter.unusedSimpArgs false
set_option linter.unusedVariables false

theorem results_cell_tmp {P : Program} {fn : Func} {p s : Tmp} {ty : TypeId} (h : fn.results = #[.cell p ty, .tmp s]) (tmps : Array Value) (w : World) (g : Nat) (t : TypeId) (cs : Array Value) (fr : Nat × Nat) (d : TypeDesc)
    (hp : tmps.getD p undef = .pointer (some ⟨g, 0, none⟩)) (hg : w.heap[g]? = some (.cells cs t fr))
    (hu : P.underlying ty = some d) (hd : (match d with | .struct _ | .array _ _ => true | _ => false) = true) (hi : (P.info? ty).map (·.size) = some cs.size) :
    (results fn tmps).run P w = .ok (.tuple #[.agg cs, tmps.getD s undef]) w := by
  have hp' : tmps[p]?.getD undef = .pointer (some ⟨g, 0, none⟩) := by simpa using hp
  simp [results, h, hp', asAddr, run_loadVar_row w g t ty cs fr d hg hu hd hi]
theorem put4_at2 {w2 : World} {b : Nat} (hF : Four w2 b) (t : HT) (fn : Func) (tmps : Array Value) (k s : Nat) (v : Value) (hr : fn.results = #[.cell k 76, .tmp s]) (ht : tmps.getD k undef = .pointer (some ⟨b, 0, none⟩)) (hs : tmps.getD s undef = v) :
    (results fn tmps).run Try.prog (put4 w2 b t.kd t.s t.n (.slice t.a t.k.length t.c)) = .ok (.tuple #[t.val, v]) (put4 w2 b t.kd t.s t.n (.slice t.a t.k.length t.c)) := by
  rw [← hs]
  exact results_cell_tmp hr tmps _ b _ _ _ _ ht (hF.put _ _ _ _) Try.underlying76 rfl (by kernel_rfl)
theorem res_sp {w : World} {A : Obj} (u : HT) (tmps : Array Value) (b : Int) (hp : tmps.getD 10 undef = .pointer (some ⟨w.heap.size + 1, 0, none⟩)) (hs : tmps.getD 11 undef = .int .i64 b) :
    (results Try.f134 tmps).run Try.prog ((w.alloc A).alloc (.cells #[.int .i64 u.kd, .string u.s, .int .i64 u.n, .slice u.a u.k.length u.c] 76)) =
      .ok (.tuple #[u.val, .int .i64 b]) ((w.alloc A).alloc (.cells #[.int .i64 u.kd, .string u.s, .int .i64 u.n, .slice u.a u.k.length u.c] 76)) := by
  rw [← hs]
  exact results_cell_tmp rfl tmps _ (w.heap.size + 1) _ _ _ _ hp (heap_alloc2_new w _ _) Try.underlying76 rfl (by kernel_rfl)
theorem elemTr : Elem Try.prog 74 76 4 56 := elem_of (z := .agg #[.int .i64 0, .string ⟨#[]⟩, .int .i64 0, .slice none 0 0]) (by kernel_rfl) (by kernel_rfl) rfl (by omega)
theorem everyL_len (l : List Tr) : l.length ≤ Tr.everyLenL l := by
  induction l with
  | nil => exact Nat.le_refl _
  | cons x r ih => cases x; simp only [Tr.everyLenL, Tr.everyLen, List.length_cons]; omega
theorem HT.len_every (h : HT) : h.k.length < h.tr.everyLen := by
  have := everyL_len (h.k.map HT.tr)
  rw [HT.tr_eq, Tr.everyLen]
  simp only [List.length_map] at this
  omega
/-- A spoilt tree comes back, and the place that is left; nothing that was there has turned. -/
def RetSp (q : Nat → Prop) (w : World) (at0 : Int) (t : Tr) (e : Ending) (w' : World) : Prop :=
  ∃ (u : HT) (b : Int), e = .returned (.tuple #[u.val, .int .i64 b]) ∧ Spd t u.tr ∧ -1 ≤ b ∧ b ≤ at0 ∧ u.InE (fun y => (q y ∨ w.heap.size ≤ y) ∧ y < w'.heap.size) w' ∧ Ext w w'
theorem HT.InE.again {q : Nat → Prop} {w : World} {h : HT} (hi : h.InE q w) (kd : Int) (s : ByteArray) (n : Int) : (HT.mk kd s n h.a h.c h.k).InE q w := by
  cases hi with
  | mk _ _ _ a c k h1 h2 h3 h4 h5 => exact .mk _ _ _ _ _ _ h1 h2 h3 h4 h5
theorem cellsL_one' : ∀ (l : List HT), ∀ u ∈ cellsL l, u.oneCell' = true
  | [], _, h => by cases h
  | x :: r, u, h => by
    simp only [cellsL, HT.cells, List.mem_append, List.mem_cons, List.not_mem_nil, or_false] at h
    rcases h with (rfl | rfl | rfl | rfl) | h
    · rfl
    · rfl
    · rfl
    · rfl
    · exact cellsL_one' r u h

set_option maxRecDepth 100000 in
set_option maxHeartbeats 3200000 in
/-- At its own place: another kind, name, number, or none. -/
theorem spoil_here (h : HT) (q : Nat → Prop) (w : World) (what v : Int) (s : ByteArray) (hin : h.InE q w) (hq : ∀ y, q y → y < w.heap.size)
    (b1 : -9223372036854775808 ≤ what) (b2 : what ≤ 9223372036854775807) (v1 : -9223372036854775808 ≤ v) (v2 : v ≤ 9223372036854775807) (hs : s.size ≤ maxLen) :
    Calls Try.prog 134 #[h.val, .int .i64 0, .int .i64 what, .int .i64 v, .string s] w fun e w' => RetSp q w 0 h.tr e w' := by
  have HW := fun W => within_calls what 5 W (by omega) (by omega) b1 b2
  have HX := fun W => text_calls s 20 W hs (by omega)
  rw [show ((20 : Nat) : Int) = 20 from rfl] at HX
  have hm0 : 0 ≤ what % 5 := Int.emod_nonneg _ (by omega)
  have hm1 : what % 5 < 5 := Int.emod_lt_of_pos _ (by omega)
  obtain ⟨j, hj⟩ : ∃ j : Nat, what % 5 = j := ⟨(what % 5).toNat, by omega⟩
  rw [hj] at HW hm0 hm1
  have hsz : (s.extract 0 (min s.size 20)).size ≤ 20 := by simp; omega
  have hF0 : Four ((w.alloc (.cells #[.int .i64 h.kd, .string h.s, .int .i64 h.n, .slice h.a h.k.length h.c] 76)).alloc fourZ) (w.heap.size + 1) := ⟨_, _, _, _, by
    have h2 := heap_alloc_new (w.alloc (.cells #[.int .i64 h.kd, .string h.s, .int .i64 h.n, .slice h.a h.k.length h.c] 76)) fourZ
    have e : (w.alloc (.cells #[.int .i64 h.kd, .string h.s, .int .i64 h.n, .slice h.a h.k.length h.c] 76)).heap.size = w.heap.size + 1 := by simp
    rwa [e] at h2⟩
  have hb0 : (w.alloc (.cells #[.int .i64 h.kd, .string h.s, .int .i64 h.n, .slice h.a h.k.length h.c] 76)).heap.size = w.heap.size + 1 := by simp
  have hX : Ext w ((w.alloc (.cells #[.int .i64 h.kd, .string h.s, .int .i64 h.n, .slice h.a h.k.length h.c] 76)).alloc fourZ) := ((Ext.refl w).alloc _).alloc _
  have hfin : ∀ (kd : Int) (t : ByteArray) (n : Int) (W : World), Ext w W → (HT.mk kd t n h.a h.c h.k).InE (fun y => (q y ∨ w.heap.size ≤ y) ∧ y < W.heap.size) W := fun kd t n W hW => ((hin.again kd t n).ext hW).weak (fun y hy => ⟨.inl hy, Nat.lt_of_lt_of_le (hq y hy) hW.le⟩)
  have htr := h.tr_eq
  have H0 := Lib.hid (And.intro hF0 (And.intro hX (And.intro hfin (And.intro htr (And.intro hsz (And.intro v1 v2))))))
  clear hq hin hj b1 b2 v1 v2 hs hF0 hX hfin htr hsz
  have hj2 : j = 0 ∨ j = 1 ∨ j = 2 ∨ j = 3 ∨ j = 4 := by omega
  unfold HT.val
  rcases hj2 with rfl | rfl | rfl | rfl | rfl
  · go_enter Try.func134, Try.ntmps134
    (go_wp2_with fail; (with_reducible refine (HW _).mono ?_); rintro e w' ⟨rfl, rfl⟩)
    go_wp2
    apply bodyPost_ret (v := .tuple #[(HT.mk 0 ⟨#[]⟩ 0 none 0 []).val, .int .i64 (-1)])
    · exact res_sp (HT.mk 0 ⟨#[]⟩ 0 none 0 []) _ (-1) rfl rfl
    · rfl
    exact ⟨_, _, rfl, .zero _, by omega, by omega, HT.leaf_inE _ _ _ _ _, (by repeat' (first | (with_reducible exact Ext.refl _) | (with_reducible assumption) | (with_reducible refine Ext.alloc ?_ _) | (with_reducible refine Ext.drew ?_) | (with_reducible refine Ext.drewN ?_ _) | (with_reducible refine Ext.setCell ?_ (by first | exact Nat.le_refl _ | (simp; done) | (simp; omega) | omega) _) | (with_reducible refine Ext.trans ?_ (by assumption))))⟩
  · go_enter Try.func134, Try.ntmps134
    (go_wp2_with fail; (with_reducible refine (HW _).mono ?_); rintro e w' ⟨rfl, rfl⟩)
    (go_wp2_with fail; (with_reducible refine (HX _).mono ?_); rintro e w' ⟨rfl, rfl⟩)
    go_wp2
    apply bodyPost_ret (v := .tuple #[(HT.mk h.kd (s.extract 0 (min s.size 20)) h.n h.a h.c h.k).val, .int .i64 (-1)])
    · exact res_sp (HT.mk h.kd (s.extract 0 (min s.size 20)) h.n h.a h.c h.k) _ (-1) rfl rfl
    · rfl
    exact ⟨_, _, rfl, by rw [H0.out.2.2.2.1, HT.tr_eq]; exact .name _ _ _ _ _ H0.out.2.2.2.2.1, by omega, by omega, H0.out.2.2.1 _ _ _ _ ((by repeat' (first | (with_reducible exact Ext.refl _) | (with_reducible assumption) | (with_reducible refine Ext.alloc ?_ _) | (with_reducible refine Ext.drew ?_) | (with_reducible refine Ext.drewN ?_ _) | (with_reducible refine Ext.setCell ?_ (by first | exact Nat.le_refl _ | (simp; done) | (simp; omega) | omega) _) | (with_reducible refine Ext.trans ?_ (by assumption))))), (by repeat' (first | (with_reducible exact Ext.refl _) | (with_reducible assumption) | (with_reducible refine Ext.alloc ?_ _) | (with_reducible refine Ext.drew ?_) | (with_reducible refine Ext.drewN ?_ _) | (with_reducible refine Ext.setCell ?_ (by first | exact Nat.le_refl _ | (simp; done) | (simp; omega) | omega) _) | (with_reducible refine Ext.trans ?_ (by assumption))))⟩
  · go_enter Try.func134, Try.ntmps134
    (go_wp2_with fail; (with_reducible refine (HW _).mono ?_); rintro e w' ⟨rfl, rfl⟩)
    go_wp2
    apply bodyPost_ret (v := .tuple #[(HT.mk h.kd h.s v h.a h.c h.k).val, .int .i64 (-1)])
    · exact res_sp (HT.mk h.kd h.s v h.a h.c h.k) _ (-1) rfl rfl
    · rfl
    exact ⟨_, _, rfl, by rw [H0.out.2.2.2.1, HT.tr_eq]; exact .num _ _ _ _ _ H0.out.2.2.2.2.2.1 H0.out.2.2.2.2.2.2, by omega, by omega, H0.out.2.2.1 _ _ _ _ ((by repeat' (first | (with_reducible exact Ext.refl _) | (with_reducible assumption) | (with_reducible refine Ext.alloc ?_ _) | (with_reducible refine Ext.drew ?_) | (with_reducible refine Ext.drewN ?_ _) | (with_reducible refine Ext.setCell ?_ (by first | exact Nat.le_refl _ | (simp; done) | (simp; omega) | omega) _) | (with_reducible refine Ext.trans ?_ (by assumption))))), (by repeat' (first | (with_reducible exact Ext.refl _) | (with_reducible assumption) | (with_reducible refine Ext.alloc ?_ _) | (with_reducible refine Ext.drew ?_) | (with_reducible refine Ext.drewN ?_ _) | (with_reducible refine Ext.setCell ?_ (by first | exact Nat.le_refl _ | (simp; done) | (simp; omega) | omega) _) | (with_reducible refine Ext.trans ?_ (by assumption))))⟩
  · by_cases hk : (11 : Int) ≤ h.kd
    · go_enter Try.func134, Try.ntmps134
      (go_wp2_with fail; (with_reducible refine (HW _).mono ?_); rintro e w' ⟨rfl, rfl⟩)
      go_wp2
      apply bodyPost_ret (v := .tuple #[(HT.mk 1 ⟨#[]⟩ 0 none 0 []).val, .int .i64 (-1)])
      · exact res_sp (HT.mk 1 ⟨#[]⟩ 0 none 0 []) _ (-1) rfl rfl
      · rfl
      exact ⟨_, _, rfl, by rw [H0.out.2.2.2.1, HT.tr_eq]; exact .flipT _ _ _ _ hk, by omega, by omega, HT.leaf_inE _ _ _ _ _, (by repeat' (first | (with_reducible exact Ext.refl _) | (with_reducible assumption) | (with_reducible refine Ext.alloc ?_ _) | (with_reducible refine Ext.drew ?_) | (with_reducible refine Ext.drewN ?_ _) | (with_reducible refine Ext.setCell ?_ (by first | exact Nat.le_refl _ | (simp; done) | (simp; omega) | omega) _) | (with_reducible refine Ext.trans ?_ (by assumption))))⟩
    · have hk2 : h.kd < 11 := by omega
      go_enter Try.func134, Try.ntmps134
      (go_wp2_with fail; (with_reducible refine (HW _).mono ?_); rintro e w' ⟨rfl, rfl⟩)
      go_wp2
      apply bodyPost_ret (v := .tuple #[(HT.mk 11 ⟨#[]⟩ 1 none 0 []).val, .int .i64 (-1)])
      · exact res_sp (HT.mk 11 ⟨#[]⟩ 1 none 0 []) _ (-1) rfl rfl
      · rfl
      exact ⟨_, _, rfl, by rw [H0.out.2.2.2.1, HT.tr_eq]; exact .flipO _ _ _ _ (by omega), by omega, by omega, HT.leaf_inE _ _ _ _ _, (by repeat' (first | (with_reducible exact Ext.refl _) | (with_reducible assumption) | (with_reducible refine Ext.alloc ?_ _) | (with_reducible refine Ext.drew ?_) | (with_reducible refine Ext.drewN ?_ _) | (with_reducible refine Ext.setCell ?_ (by first | exact Nat.le_refl _ | (simp; done) | (simp; omega) | omega) _) | (with_reducible refine Ext.trans ?_ (by assumption))))⟩
  · go_enter Try.func134, Try.ntmps134
    (go_wp2_with fail; (with_reducible refine (HW _).mono ?_); rintro e w' ⟨rfl, rfl⟩)
    go_wp2
    apply bodyPost_ret (v := .tuple #[(HT.mk h.kd h.s h.n h.a h.c h.k).val, .int .i64 (-1)])
    · exact res_sp (HT.mk h.kd h.s h.n h.a h.c h.k) _ (-1) rfl rfl
    · rfl
    exact ⟨_, _, rfl, by rw [H0.out.2.2.2.1, HT.tr_eq]; exact .refl _, by omega, by omega, H0.out.2.2.1 _ _ _ _ ((by repeat' (first | (with_reducible exact Ext.refl _) | (with_reducible assumption) | (with_reducible refine Ext.alloc ?_ _) | (with_reducible refine Ext.drew ?_) | (with_reducible refine Ext.drewN ?_ _) | (with_reducible refine Ext.setCell ?_ (by first | exact Nat.le_refl _ | (simp; done) | (simp; omega) | omega) _) | (with_reducible refine Ext.trans ?_ (by assumption))))), (by repeat' (first | (with_reducible exact Ext.refl _) | (with_reducible assumption) | (with_reducible refine Ext.alloc ?_ _) | (with_reducible refine Ext.drew ?_) | (with_reducible refine Ext.drewN ?_ _) | (with_reducible refine Ext.setCell ?_ (by first | exact Nat.le_refl _ | (simp; done) | (simp; omega) | omega) _) | (with_reducible refine Ext.trans ?_ (by assumption))))⟩

/-- The row's place: none, where there are no trees in it. -/
def RowA (q : Nat → Prop) (w : World) (A : Option Addr) (n c : Nat) (L : List HT) : Prop := (A = none ∧ n = 0 ∧ c = 0 ∧ L = []) ∨ ∃ B, A = some ⟨B, 0, none⟩ ∧ RowL q w B n c L
theorem RowL.weak {q q' : Nat → Prop} {w : World} {B n c : Nat} {L : List HT} (h : RowL q w B n c L) (hq : ∀ y, q y → q' y) : RowL q' w B n c L := ⟨h.len, h.blk, h.nc, h.cm, fun x hx => (h.kid x hx).weak (fun y hy => ⟨hq y hy.1, hy.2⟩)⟩
theorem RowA.weak {q q' : Nat → Prop} {w : World} {A : Option Addr} {n c : Nat} {L : List HT} (h : RowA q w A n c L) (hq : ∀ y, q y → q' y) : RowA q' w A n c L := h.imp id (fun ⟨B, e, h⟩ => ⟨B, e, h.weak hq⟩)
theorem RowA.ext {q : Nat → Prop} {w w' : World} {A : Option Addr} {n c : Nat} {L : List HT} (h : RowA q w A n c L) (hx : Ext w w') : RowA q w' A n c L := h.imp id (fun ⟨B, e, h⟩ => ⟨B, e, h.ext hx⟩)
theorem RowA.len {q : Nat → Prop} {w : World} {A : Option Addr} {n c : Nat} {L : List HT} (h : RowA q w A n c L) : L.length = n := by
  rcases h with ⟨_, rfl, _, rfl⟩ | ⟨B, _, h⟩
  · rfl
  · exact h.len
theorem RowA.tree {q : Nat → Prop} {w : World} {A : Option Addr} {n c : Nat} {L : List HT} (h : RowA q w A n c L) (kd : Int) (s : ByteArray) (m : Int) : (HT.mk kd s m A c L).InE (fun y => q y ∨ A = some ⟨y, 0, none⟩) w := by
  rcases h with ⟨rfl, rfl, rfl, rfl⟩ | ⟨B, rfl, h⟩
  · exact HT.leaf_inE _ _ _ _ _
  · exact (h.tree kd s m).weak (fun y hy => hy.imp id (fun e => by rw [e]))
theorem RowA.of_own {q : Nat → Prop} {w : World} {b0 : Nat} {v : Value} {n : Nat} {L : List HT} (h : w.ownsRow b0 76 4 v n (cellsL L)) (hl : L.length = n) (hk : ∀ x ∈ L, x.InE q w) (hq : ∀ y, q y → y < b0) :
    ∃ A c, v = .slice A n c ∧ RowA q w A n c L ∧ (∀ B, A = some ⟨B, 0, none⟩ → b0 ≤ B) ∧ n ≤ c ∧ c ≤ maxLen := by
  rcases h.2 with ⟨rfl, rfl⟩ | ⟨g, cap, cur, rfl, hb, hg, h1, h2, h3, h4⟩
  · exact ⟨none, 0, rfl, .inl ⟨rfl, rfl, rfl, List.length_eq_zero_iff.1 hl⟩, (fun B e => by cases e), Nat.le_refl _, by unfold maxLen; omega⟩
  · exact ⟨_, cap, rfl, .inr ⟨g, rfl, hl, ⟨cur, hg, h3, h4⟩, h1, h2, fun x hx => (hk x hx).weak (fun y hy => ⟨hy, by have := hq y hy; omega⟩)⟩, (fun B e => by injection e with e; injection e with e; omega), h1, h2⟩

theorem put4o_size (w : World) (b o : Nat) (kd : Int) (s : ByteArray) (n : Int) (sl : Value) : (put4o w b o kd s n sl).heap.size = w.heap.size := by simp [put4o, World.setCell]
/-- A round: the part at j spoilt, or as it was. -/
theorem spoil_row {q : Nat → Prop} {X wr w' : World} {B n C : Nat} {L : List HT} {j : Nat} {u : HT} (hR : RowL (fun y => (q y ∨ X.heap.size ≤ y) ∧ y < wr.heap.size) wr B n C L) (hXw : X.heap.size ≤ wr.heap.size) (hx : Ext wr w')
    (hui : u.InE (fun y => (((q y ∨ X.heap.size ≤ y) ∧ y < wr.heap.size) ∧ y ≠ B ∨ wr.heap.size ≤ y) ∧ y < w'.heap.size) w') (hj : j < n) :
    RowA (fun y => (q y ∨ X.heap.size ≤ y) ∧ y < (put4o w' B (j * 4) u.kd u.s u.n (.slice u.a u.k.length u.c)).heap.size) (put4o w' B (j * 4) u.kd u.s u.n (.slice u.a u.k.length u.c)) (some ⟨B, 0, none⟩) n C (L.set j u) := by
  rw [put4o_size]
  have hB := hR.lt
  have hle := hx.le
  exact .inr ⟨B, rfl, ((hR.ext hx).weak (q' := fun y => (q y ∨ X.heap.size ≤ y) ∧ y < w'.heap.size) (fun y hy => ⟨hy.1, by omega⟩)).put hj u (hui.weak (fun y hy => by
    obtain ⟨h1 | h1, h2⟩ := hy
    · exact ⟨⟨h1.1.1, h2⟩, h1.2⟩
    · exact ⟨⟨.inr (by omega), h2⟩, by omega⟩))⟩
theorem spoil_spd {K L : List HT} {j : Nat} {x u : HT} (hsp : ∀ (m : Nat) (x y : HT), K[m]? = some x → L[m]? = some y → Spd x.tr y.tr) (hx : K[j]? = some x) (hu : Spd x.tr u.tr) : ∀ (m : Nat) (x y : HT), K[m]? = some x → (L.set j u)[m]? = some y → Spd x.tr y.tr := by
  intro m x2 y h1 h2
  by_cases e : j = m
  · subst e
    rw [hx] at h1
    injection h1 with h1
    subst h1
    rw [List.getElem?_set] at h2
    simp only [if_true] at h2
    split at h2
    · injection h2 with h2; subst h2; exact hu
    · cases h2
  · rw [List.getElem?_set_ne e] at h2
    exact hsp m x2 y h1 h2

/-- The row in the tree, the tree in the result's cells. -/
theorem spoil_end {q : Nat → Prop} {w X wr : World} {A : Option Addr} {n C : Nat} {L : List HT} (kd : Int) (s : ByteArray) (m : Int) (hwX : Ext w X) (hXs : X.heap.size = w.heap.size + 2) (hx : Ext X wr) (hF : Four wr (w.heap.size + 1))
    (hR : RowA (fun y => ((q y ∧ y < w.heap.size) ∨ X.heap.size ≤ y) ∧ y < wr.heap.size) wr A n C L) (hA : ∀ B, A = some ⟨B, 0, none⟩ → X.heap.size ≤ B) (W : World)
    (hW : W = put4 (wr.setCell ⟨w.heap.size, 3, none⟩ (.slice A L.length C)) (w.heap.size + 1) kd s m (.slice A L.length C)) :
    Four (wr.setCell ⟨w.heap.size, 3, none⟩ (.slice A L.length C)) (w.heap.size + 1) ∧ (HT.mk kd s m A C L).InE (fun y => (q y ∨ w.heap.size ≤ y) ∧ y < W.heap.size) W ∧ Ext w W := by
  have hz : (wr.setCell ⟨w.heap.size, 3, none⟩ (.slice A L.length C)).heap.size = wr.heap.size := by simp [World.setCell]
  have hWs : W.heap.size = wr.heap.size := by rw [hW, put4_size, hz]
  have hle := hx.le
  have hAw : ∀ y, A = some ⟨y, 0, none⟩ → y < wr.heap.size := by
    intro y e
    rcases hR with ⟨e1, _⟩ | ⟨B, e1, hL⟩
    · rw [e1] at e; cases e
    · rw [e1] at e; injection e with e; injection e with e; subst e; exact hL.lt
  have h1 := (hR.tree kd s m).weak (q' := fun y => (q y ∧ y < w.heap.size ∨ X.heap.size ≤ y) ∧ y < wr.heap.size) (fun y hy => hy.elim id (fun e => ⟨.inr (hA y e), hAw y e⟩))
  refine ⟨hF.grown (setCell_grown _ _ _ _) (by omega), ?_, ?_⟩
  · rw [hWs, hW]
    exact ((h1.grown (fun y hy => by omega) (setCell_grown wr w.heap.size 3 _)).grown (fun y hy => by omega) (put4_grown _ _ _ _ _ _)).weak (fun y hy => ⟨hy.1.imp And.left (fun h => by omega), hy.2⟩)
  · rw [hW]
    exact put4_ext ((hwX.trans hx).setCell (p := ⟨w.heap.size, 3, none⟩) (Nat.le_refl _) _) (by omega) _ _ _ _
theorem spoil_kids {K L : List HT} {kd : Int} {s : ByteArray} {n : Int} {A : Option Addr} {C : Nat} (hl : L.length = K.length) (hsp : ∀ (m : Nat) (x y : HT), K[m]? = some x → L[m]? = some y → Spd x.tr y.tr) : Spd (.mk kd s n (K.map HT.tr)) (HT.mk kd s n A C L).tr := by
  rw [HT.tr_eq]
  refine .kids _ _ _ _ _ (by simp [HT.k, hl]) (fun i x y h1 h2 => ?_)
  simp only [HT.k, List.getElem?_map, Option.map_eq_some_iff] at h1 h2
  obtain ⟨x', e1, rfl⟩ := h1
  obtain ⟨y', e2, rfl⟩ := h2
  exact hsp i x' y' e1 e2

set_option maxRecDepth 100000 in
set_option maxHeartbeats 3200000 in
theorem spoil_calls (k : Nat) : ∀ (h : HT) (q : Nat → Prop) (w : World) (at0 what v : Int) (s : ByteArray), SizeOf.sizeOf h < k → h.InE q w → (∀ y, q y → y < w.heap.size) → h.tr.everyLen ≤ 2 ^ 30 → 0 ≤ at0 → at0 ≤ 2 ^ 40 →
    -9223372036854775808 ≤ what → what ≤ 9223372036854775807 → -9223372036854775808 ≤ v → v ≤ 9223372036854775807 → s.size ≤ maxLen →
    Calls Try.prog 134 #[h.val, .int .i64 at0, .int .i64 what, .int .i64 v, .string s] w fun e w' => RetSp q w at0 h.tr e w' := by
  induction k with
  | zero => intro h q w a x v s hk; omega
  | succ k ih =>
    intro h q w at0 what v s hk hin hq hev ha0 ha1 b1 b2 v1 v2 hs
    by_cases h0 : at0 = 0
    · subst h0
      exact spoil_here h q w what v s hin hq b1 b2 v1 v2 hs
    · have hcap := hin.cap
      have hln := h.len_every
      have hrd := hin.rd
      have hXs : ((w.alloc (.cells #[.int .i64 h.kd, .string h.s, .int .i64 h.n, .slice h.a h.k.length h.c] 76)).alloc fourZ).heap.size = w.heap.size + 2 := by simp
      have hX : Ext w ((w.alloc (.cells #[.int .i64 h.kd, .string h.s, .int .i64 h.n, .slice h.a h.k.length h.c] 76)).alloc fourZ) := ((Ext.refl w).alloc _).alloc _
      have hF0 : Four ((w.alloc (.cells #[.int .i64 h.kd, .string h.s, .int .i64 h.n, .slice h.a h.k.length h.c] 76)).alloc fourZ) (w.heap.size + 1) := ⟨_, _, _, _, by
        have h2 := heap_alloc_new (w.alloc (.cells #[.int .i64 h.kd, .string h.s, .int .i64 h.n, .slice h.a h.k.length h.c] 76)) fourZ
        have e : (w.alloc (.cells #[.int .i64 h.kd, .string h.s, .int .i64 h.n, .slice h.a h.k.length h.c] 76)).heap.size = w.heap.size + 1 := by simp
        rwa [e] at h2⟩
      have hB0 : ((w.alloc (.cells #[.int .i64 h.kd, .string h.s, .int .i64 h.n, .slice h.a h.k.length h.c] 76)).alloc fourZ).heap[w.heap.size]? = some (.cells #[.int .i64 h.kd, .string h.s, .int .i64 h.n, .slice h.a h.k.length h.c] 76 (0, 0)) := ((Ext.refl _).alloc _).obj (heap_alloc_new _ _)
      have hin0 := hin.weak (q' := fun y => q y ∧ y < w.heap.size) (fun y hy => ⟨hy, hq y hy⟩)
      have hkids : ∀ x ∈ h.k, x.InE (fun y => q y ∧ y < w.heap.size) w := fun x hx => by obtain ⟨i, hi⟩ := List.getElem?_of_mem hx; exact hin0.kid hi
      have IH := fun (x : HT) (i : Nat) (hx : h.k[i]? = some x) (q' : Nat → Prop) (W : World) (b : Int) (hxi : x.InE q' W) (hq' : ∀ y, q' y → y < W.heap.size) (hb0 : 0 ≤ b) (hb1 : b ≤ 2 ^ 40) => ih x q' W b what v s (by have := HT.size_k hx; omega) hxi hq' (Nat.le_trans (HT.every_k hx) hev) hb0 hb1 b1 b2 v1 v2 hs
      have htr := h.tr_eq
      have hne : (at0 == 0) = false := by simpa using h0
      have hw1 : at0 - 1 ≤ 2 ^ 40 := by omega
      have HH := Lib.hid (And.intro hX (And.intro hF0 (And.intro hB0 (And.intro hkids (And.intro htr hXs)))))
      have HI := Lib.hid IH
      have hc1 := hcap.1
      have hc2 := hcap.2
      unfold maxLen at hc2
      clear ih hk hin hin0 hq hcap hXs hX hF0 hB0 hkids IH htr b1 b2 v1 v2 hs
      unfold HT.val
      generalize htt : h.tr = tt at *
      clear htt
      generalize h.kd = kd at *
      generalize h.s = ss at *
      generalize h.n = hn at *
      generalize h.a = ha at *
      generalize h.c = hc at *
      generalize h.k = K at *
      clear h
      go_enter Try.func134, Try.ntmps134
      go_upto_region 15 with fail
      generalize ((w.alloc (.cells #[.int .i64 kd, .string ss, .int .i64 hn, .slice ha K.length hc] 76)).alloc fourZ) = X at *
      have hrdX := hrd.ext HH.out.1
      have hle : w.heap.size + 2 ≤ X.heap.size := by rw [HH.out.2.2.2.2.2]; omega
      obtain ⟨p0, p1, pf⟩ := obj_cells HH.out.2.2.1
      have p3 := p0 3 _ rfl
      have h63 : 0 + K.length ≤ maxLen := by unfold maxLen; omega
      have hby : (0 + K.length) * 56 ≤ 140737488355328 := by omega
      go_wp2_with (at_builtin; refine wpList_app elemTr rfl _ _ rfl (w.heap.size + 2) (.slice none 0 0) 0 [] rfl (World.ownsRow_nil _ _ _ _) ha K.length hc (cellsL K) rfl hrdX (cellsL_one' K) h63 hby hle ?_; intro v1 w1 hown1 hg1 hat1)
      have hX1 : Ext X w1 := (Ext.refl X).grown hg1 (fun k hk => by cases hk)
      have hw1s := hX1.le
      obtain ⟨A, C, rfl, hRA, hAB, hnC, hCm⟩ := RowA.of_own (q := fun y => ((q y ∧ y < w.heap.size) ∨ X.heap.size ≤ y) ∧ y < w.heap.size) (n := K.length) (L := K) (by simpa using hown1) rfl
        (fun x hx => (((HH.out.2.2.2.1 x hx).ext (HH.out.1.trans hX1)).weak (fun y hy => ⟨.inl hy, hy.2⟩))) (fun y hy => by omega)
      have hAX : ∀ B, A = some ⟨B, 0, none⟩ → X.heap.size ≤ B := fun B e => by have := hAB B e; rw [HH.out.2.2.2.2.2]; omega
      have hR0 := Lib.hid (hRA.weak (q' := fun y => ((q y ∧ y < w.heap.size) ∨ X.heap.size ≤ y) ∧ y < w1.heap.size) (fun y hy => ⟨hy.1, by have := HH.out.1.le; omega⟩))
      have hAX0 := Lib.hid hAX
      unfold maxLen at hCm
      have hX10 := Lib.hid hX1
      clear hown1 hg1 hat1 hRA hAB hAX hX1 hrd hrdX h63 hby hle p0 p3 pf
      go_wp2_with fail
      go_simp
      go_wp2_with fail
      go_loopw [1, 45] (fun a i wr => ∃ (j : Nat) (b : Int) (L : List HT), j ≤ K.length ∧ i = .int .i64 j ∧ a = .int .i64 b ∧ -1 ≤ b ∧ b ≤ at0 - 1 ∧
        RowA (fun y => ((q y ∧ y < w.heap.size) ∨ X.heap.size ≤ y) ∧ y < wr.heap.size) wr A K.length C L ∧ (∀ (m : Nat) (x y : HT), K[m]? = some x → L[m]? = some y → Spd x.tr y.tr) ∧ (∀ m, j ≤ m → L[m]? = K[m]?) ∧ Ext X wr) (fun _ i _ => K.length - (intOf i).toNat)
      case atStart => exact ⟨0, at0 - 1, K, by omega, rfl, rfl, by omega, by omega, hR0.out, (fun m x y h1 h2 => by rw [h1] at h2; injection h2 with h2; rw [h2]; exact .refl _), (fun m _ => rfl), hX10.out⟩
      case round =>
        obtain ⟨j, b, L, hj, rfl, rfl, hb0, hb1, hR, hsp, hrest, hx⟩ := hrel
        by_cases hlt : j < K.length
        · obtain ⟨B, rfl, hRL⟩ : ∃ B, A = some ⟨B, 0, none⟩ ∧ RowL (fun y => ((q y ∧ y < w.heap.size) ∨ X.heap.size ≤ y) ∧ y < wr.heap.size) wr B K.length C L := by
            rcases hR with ⟨_, e, _⟩ | h
            · omega
            · exact h
          have hBX := hAX0.out B rfl
          obtain ⟨x, hxL⟩ : ∃ x, L[j]? = some x := ⟨_, List.getElem?_eq_getElem (by rw [hRL.len]; exact hlt)⟩
          have hxK : K[j]? = some x := by rw [← hrest j (Nat.le_refl _)]; exact hxL
          obtain ⟨q0, q1, q2, q3, qf⟩ := hRL.at' hxL
          have hj0 := Lib.hid (show j + 1 ≤ K.length from hlt)
          have hji : (j : Int) < (K.length : Int) := by omega
          have hji0 : (0 : Int) ≤ (j : Int) := by omega
          have hBw := hRL.lt
          by_cases hb : 0 ≤ b
          · have HS := HI.out x j hxK _ wr b (hRL.kid x (List.mem_of_getElem? hxL)) (fun y hy => hy.1.2) hb (by omega)
            have HL := Lib.hid (And.intro hRL (And.intro hsp (And.intro hrest (And.intro hx (And.intro hxL hxK)))))
            clear hR hRL hsp hrest hx hxL hxK
            unfold HT.val at HS
            generalize htx : x.tr = tx at HS
            have htx := Lib.hid htx
            (go_wp2_with fail; (with_reducible refine (HS).mono ?_); rintro e w' ⟨u, b', rfl, hsp', hb2, hb3, hui, hx4⟩)
            have hRL4 := HL.out.1.ext hx4
            obtain ⟨r0, r1, r2, r3, rf⟩ := hRL4.at' HL.out.2.2.2.2.1
            have hU := Lib.hid (And.intro hsp' (And.intro hui (And.intro hx4 (And.intro hb2 (And.intro hb3 (Nat.lt_of_lt_of_le hBw hx4.le))))))
            clear HS hsp' hui hRL4 q0 q1 q2 q3 qf hx4
            unfold HT.val
            go_wp2_with fail
            go_roundw
            case rel => exact ⟨j + 1, b', L.set j u, hj0.out, by go_num, rfl, hU.out.2.2.2.1, (by have := hU.out.2.2.2.2.1; omega), spoil_row HL.out.1 HL.out.2.2.2.1.le hU.out.2.2.1 hU.out.2.1 hlt,
              spoil_spd HL.out.2.1 HL.out.2.2.2.2.2 (by rw [htx.out]; exact hU.out.1), (fun m hm => by rw [List.getElem?_set_ne (by omega)]; exact HL.out.2.2.1 m (by omega)), put4o_ext (HL.out.2.2.2.1.trans hU.out.2.2.1) hBX _ _ _ _⟩
            case measure => simp [intOf]; omega
          · have hb' : b < 0 := by omega
            have hbf : decide (0 ≤ b) = false := by simp; omega
            have HL := Lib.hid (And.intro hR (And.intro hsp (And.intro hrest hx)))
            clear hR hRL hsp hrest hx hxL hxK q0 q1 q2 q3 qf
            go_wp2_with fail
            go_roundw
            case rel => exact ⟨j + 1, b, L, hj0.out, by go_num, rfl, hb0, hb1, HL.out.1, HL.out.2.1, (fun m hm => HL.out.2.2.1 m (by omega)), HL.out.2.2.2⟩
            case measure => simp [intOf]; omega
        · obtain rfl : j = K.length := by omega
          have hF := HH.out.2.1.ext hx
          obtain ⟨r0, rf, rl⟩ := obj_cells (hx.obj HH.out.2.2.1)
          have c0 := r0 0 _ rfl
          have c1 := r0 1 _ rfl
          have c2 := r0 2 _ rfl
          have c3 := r0 3 _ rfl
          obtain ⟨⟨y0, d0⟩, ⟨y1, d1⟩, ⟨y2, d2⟩, ⟨y3, d3⟩, hfz⟩ := hF.cells
          have HL := Lib.hid (And.intro hR (And.intro hsp (And.intro hx hF)))
          have hLl := Lib.hid hR.len
          clear hR hsp hrest hx hF r0
          go_wp2
          have hZ := spoil_end kd ss hn HH.out.1 HH.out.2.2.2.2.2 HL.out.2.2.1 HL.out.2.2.2 HL.out.1 hAX0.out _ rfl
          rw [← hLl.out]
          apply bodyPost_ret (v := .tuple #[(HT.mk kd ss hn A C L).val, .int .i64 b])
          · exact put4_at2 hZ.1 (HT.mk kd ss hn A C L) _ _ 10 11 _ rfl rfl rfl
          · rfl
          exact ⟨_, _, rfl, by rw [HH.out.2.2.2.2.1]; exact spoil_kids hLl.out HL.out.2.1, hb0, by omega, hZ.2.1, hZ.2.2⟩

end Go.Proofs.Ytgjjngkmbplijaa

/- Package play: a spoilt tree (Spoilt). -/
namespace Go.Proofs.Ytgjjngkmbplijaa
open Go.RowKit
set_option linter.unusedSimpArgs false
set_option linter.unusedVariables false

/-- A spoilt tree comes back; nothing that was there has turned. -/
def RetSpt (q : Nat → Prop) (w : World) (t : Tr) (e : Ending) (w' : World) : Prop :=
  ∃ u : HT, e = .returned u.val ∧ Spd t u.tr ∧ u.InE (fun y => q y ∨ w.heap.size ≤ y) w' ∧ Ext w w'
set_option maxRecDepth 100000 in
set_option maxHeartbeats 1600000 in
theorem spoilt_calls (h : HT) (q : Nat → Prop) (w : World) (at0 what v : Int) (s : ByteArray) (hin : h.InE q w) (hq : ∀ y, q y → y < w.heap.size) (hev : h.tr.everyLen ≤ 2 ^ 30) (hn1 : 1 ≤ h.tr.nodes) (hn2 : h.tr.nodes ≤ 2 ^ 30)
    (a1 : -9223372036854775808 ≤ at0) (a2 : at0 ≤ 9223372036854775807) (b1 : -9223372036854775808 ≤ what) (b2 : what ≤ 9223372036854775807) (v1 : -9223372036854775808 ≤ v) (v2 : v ≤ 9223372036854775807) (hs : s.size ≤ maxLen) :
    Calls Try.prog 104 #[h.val, .int .i64 at0, .int .i64 what, .int .i64 v, .string s] w fun e w' => RetSpt q w h.tr e w' := by
  have H1 := fun W (hW : Ext w W) => rsize_calls _ h (fun _ => True) W (Nat.lt_succ_self _) (hin.ext hW).any (by omega)
  have HW := fun W => within_calls at0 h.tr.nodes W (by omega) (by omega) a1 a2
  have hm0 : 0 ≤ at0 % (h.tr.nodes : Int) := Int.emod_nonneg _ (by omega)
  have hm1 : at0 % (h.tr.nodes : Int) < h.tr.nodes := Int.emod_lt_of_pos _ (by omega)
  have H2 := fun W (hW : Ext w W) => spoil_calls _ h q W (at0 % (h.tr.nodes : Int)) what v s (Nat.lt_succ_self _) (hin.ext hW) (fun y hy => Nat.lt_of_lt_of_le (hq y hy) hW.le) hev hm0 (by omega) b1 b2 v1 v2 hs
  have hF0 : Four ((w.alloc (.cells #[.int .i64 h.kd, .string h.s, .int .i64 h.n, .slice h.a h.k.length h.c] 76)).alloc fourZ) (w.heap.size + 1) := ⟨_, _, _, _, by
    have h2 := heap_alloc_new (w.alloc (.cells #[.int .i64 h.kd, .string h.s, .int .i64 h.n, .slice h.a h.k.length h.c] 76)) fourZ
    have e : (w.alloc (.cells #[.int .i64 h.kd, .string h.s, .int .i64 h.n, .slice h.a h.k.length h.c] 76)).heap.size = w.heap.size + 1 := by simp
    rwa [e] at h2⟩
  have hB0 : ((w.alloc (.cells #[.int .i64 h.kd, .string h.s, .int .i64 h.n, .slice h.a h.k.length h.c] 76)).alloc fourZ).heap[w.heap.size]? = some (.cells #[.int .i64 h.kd, .string h.s, .int .i64 h.n, .slice h.a h.k.length h.c] 76 (0, 0)) := ((Ext.refl _).alloc _).obj (heap_alloc_new _ _)
  have hX : Ext w ((w.alloc (.cells #[.int .i64 h.kd, .string h.s, .int .i64 h.n, .slice h.a h.k.length h.c] 76)).alloc fourZ) := ((Ext.refl w).alloc _).alloc _
  have hXs : ((w.alloc (.cells #[.int .i64 h.kd, .string h.s, .int .i64 h.n, .slice h.a h.k.length h.c] 76)).alloc fourZ).heap.size = w.heap.size + 2 := by simp
  have HH := Lib.hid (And.intro hX (And.intro hXs (And.intro hF0 (And.intro hB0 hq))))
  clear hin hq hev hn1 hn2 a1 a2 b1 b2 v1 v2 hs hm0 hm1 hX hXs hF0 hB0
  generalize h.tr.nodes = nn at *
  generalize h.tr.depth = dd at *
  generalize h.tr = tt at *
  unfold HT.val at H1 H2 ⊢
  generalize h.kd = kd at *
  generalize h.s = ss at *
  generalize h.n = hn at *
  generalize h.a = ha at *
  generalize h.c = hc at *
  generalize h.k.length = hl at *
  clear h
  generalize at0 % (nn : Int) = am at *
  go_enter Try.func104, Try.ntmps104
  (go_wp2_with fail; (with_reducible refine (H1 _ ((by repeat' (first | (with_reducible exact Ext.refl _) | (with_reducible assumption) | (with_reducible refine Ext.alloc ?_ _) | (with_reducible refine Ext.drew ?_) | (with_reducible refine Ext.drewN ?_ _) | (with_reducible refine Ext.setCell ?_ (by first | exact Nat.le_refl _ | (simp; done) | (simp; omega) | omega) _) | (with_reducible refine Ext.trans ?_ (by assumption)))))).mono ?_); rintro e w' ⟨rfl, hx4⟩)
  have hE4 := HH.out.1.trans hx4
  have hF4 := HH.out.2.2.1.ext hx4
  have hB4 := hx4.obj HH.out.2.2.2.1
  have hle4 := hx4.le
  rw [HH.out.2.1] at hle4
  obtain ⟨k0, kf, kl⟩ := obj_cells hB4
  have c0 := k0 0 _ rfl
  have c1 := k0 1 _ rfl
  have c2 := k0 2 _ rfl
  have c3 := k0 3 _ rfl
  have HL := Lib.hid (And.intro hE4 (And.intro hF4 HH.out.2.2.2.2))
  clear hx4 hF4 hB4 HH H1 k0
  have hgl : w.heap.size < w'.heap.size + 1 := by omega
  have hgl0 : w.heap.size < w'.heap.size := by omega
  have hne1 : w'.heap.size ≠ w.heap.size := by omega
  have hne2 : w.heap.size ≠ w'.heap.size := by omega
  have hne3 : ¬ w'.heap.size = w.heap.size := hne1
  go_upto_region 3 with fail
  go_region_held3 (fun W => W.cell? ⟨w.heap.size, 0, none⟩ = some (.int .i64 kd) ∧ W.cell? ⟨w.heap.size, 1, none⟩ = some (.string ss) ∧ W.cell? ⟨w.heap.size, 2, none⟩ = some (.int .i64 hn) ∧ W.cell? ⟨w.heap.size, 3, none⟩ = some (.slice ha hl hc)) (go_keep)
    (first | (go_at_call 34; (with_reducible refine (HW _).mono ?_); rintro e w5 ⟨rfl, rfl⟩) | (go_at_call 134; (with_reducible refine (H2 _ ((by repeat' (first | (with_reducible exact Ext.refl _) | (with_reducible assumption) | (with_reducible refine Ext.alloc ?_ _) | (with_reducible refine Ext.drew ?_) | (with_reducible refine Ext.drewN ?_ _) | (with_reducible refine Ext.setCell ?_ (by first | exact Nat.le_refl _ | (simp; done) | (simp; omega) | omega) _) | (with_reducible refine Ext.trans ?_ (by assumption)))))).mono ?_); rintro e w6 ⟨u, b, rfl, hsp, hb1, hb2, hui, hx6⟩; obtain ⟨hcc, hff⟩ := hx6.cells; unfold HT.val))
  have hx5 : Ext w' w6 := ((by repeat' (first | (with_reducible exact Ext.refl _) | (with_reducible assumption) | (with_reducible refine Ext.alloc ?_ _) | (with_reducible refine Ext.drew ?_) | (with_reducible refine Ext.drewN ?_ _) | (with_reducible refine Ext.setCell ?_ (by first | exact Nat.le_refl _ | (simp; done) | (simp; omega) | omega) _) | (with_reducible refine Ext.trans ?_ (by assumption)))))
  have hF6 := (HL.out.2.1.ext hx5).grown (put4_grown w6 w'.heap.size u.kd u.s u.n (.slice u.a u.k.length u.c)) (by omega)
  have hB6 := ((four_at (w := w')).ext (((Ext.refl _).drew).trans hx6)).put u.kd u.s u.n (.slice u.a u.k.length u.c)
  have hI6 := (hui.weak (q' := fun y => (q y ∨ w.heap.size ≤ y) ∧ y ≠ w'.heap.size ∧ y ≠ w.heap.size + 1) (fun y hy => by
    have h3 : q y → y < w.heap.size := HL.out.2.2 y
    have h4 : (w'.alloc (.cells #[.int .i64 0, .string ⟨#[]⟩, .int .i64 0, .slice none 0 0] 76)).drew.heap.size = w'.heap.size + 1 := by simp
    rcases hy.1 with h | h
    · have := h3 h; exact ⟨.inl h, by omega, by omega⟩
    · have : w'.heap.size + 1 ≤ y := by rw [← h4]; exact h
      exact ⟨.inr (by omega), by omega, by omega⟩)).grown (fun y hy => hy.2.1) (put4_grown w6 w'.heap.size u.kd u.s u.n (.slice u.a u.k.length u.c))
  have hE6 := put4_ext (HL.out.1.trans hx5) (b := w'.heap.size) (by omega) u.kd u.s u.n (.slice u.a u.k.length u.c)
  have hfold : put4 w6 w'.heap.size u.kd u.s u.n (.slice u.a u.k.length u.c) = ((((w6.setCell ⟨w'.heap.size, 0, none⟩ (.int .i64 u.kd)).setCell ⟨w'.heap.size, 1, none⟩ (.string u.s)).setCell ⟨w'.heap.size, 2, none⟩ (.int .i64 u.n)).setCell ⟨w'.heap.size, 3, none⟩ (.slice u.a u.k.length u.c)) := rfl
  rw [← hfold]
  clear hfold
  generalize put4 w6 w'.heap.size u.kd u.s u.n (.slice u.a u.k.length u.c) = Y at *
  obtain ⟨r0, rf, rl⟩ := obj_cells hB6
  have z0 := r0 0 _ rfl
  have z1 := r0 1 _ rfl
  have z2 := r0 2 _ rfl
  have z3 := r0 3 _ rfl
  obtain ⟨⟨y0, d0⟩, ⟨y1, d1⟩, ⟨y2, d2⟩, ⟨y3, d3⟩, hfz⟩ := hF6.cells
  have HE := Lib.hid (And.intro hF6 (And.intro hE6 (And.intro hI6 hsp)))
  clear hF6 hB6 hI6 hE6 hx5 hx6 hui hsp hcc hff r0 HW H2
  go_wp2
  apply bodyPost_ret (v := u.val)
  · exact put4_at HE.out.1 u _ 0 _ 10 rfl rfl
  · rfl
  exact ⟨u, rfl, HE.out.2.2.2, ((HE.out.2.2.1.grown (fun y hy => hy.2.2) (put4_grown _ _ _ _ _ _)).weak (fun y hy => hy.1)), put4_ext HE.out.2.1 (by omega) _ _ _ _⟩

end Go.Proofs.Ytgjjngkmbplijaa
