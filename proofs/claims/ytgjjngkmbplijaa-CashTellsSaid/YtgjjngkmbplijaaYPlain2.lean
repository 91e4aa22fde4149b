/- Package play: a contract of api's as a tree (Plain). Printed by wip/src/mkplain2.py. -/
import Derived.Test.YtgjjngkmbplijaaYPlain
import Derived.Test.YtgjjngkmbplijaaYTerm1
import Derived.Test.YtgjjngkmbplijaaZSp
import Derived.Test.YtgjjngkmbplijaaZVa
import Derived.Deep.RegionHeld3

namespace Go.Proofs.Ytgjjngkmbplijaa
open Go.RowKit
set_option linter.unusedSimpArgs false
set_option linter.unusedVariables false

/-- A row of trees, their parts in blocks behind b. -/
def RowAt (b : Nat) (ts : List Tr) (W : World) (v : Value) : Prop := ∃ (g : Nat) (L : List HT), v = .slice (some ⟨g, 0, none⟩) L.length L.length ∧ L.map HT.tr = ts ∧ L.length ≤ maxLen ∧ b < g ∧ Rd W 4 (some ⟨g, 0, none⟩) L.length (cellsL L) ∧ ∀ x ∈ L, x.In (b < ·) W
theorem RowAt.ext {b : Nat} {ts : List Tr} {w w' : World} {v : Value} (h : RowAt b ts w v) (hx : Ext w w') : RowAt b ts w' v := by
  obtain ⟨g, L, e, ht, hm, hb, hr, hi⟩ := h
  exact ⟨g, L, e, ht, hm, hb, hr.ext hx, fun x hx' => (hi x hx').ext hx⟩
theorem RowAt.new {b : Nat} {W : World} (L : List HT) (hb : b < W.heap.size) (hi : ∀ x ∈ L, x.In (b < ·) W) (cs : Array Value) (hc : cs.toList = cellsL L) (n : Nat) (hn : n = L.length) (hm : n ≤ maxLen) :
    RowAt b (L.map HT.tr) (W.alloc (.cells cs 76)) (.slice (some ⟨W.heap.size, 0, none⟩) n n) := by
  subst hn
  refine ⟨W.heap.size, L, rfl, rfl, hm, hb, Rd.newAt rfl hc ?_, fun x hx => (hi x hx).ext ((Ext.refl _).alloc _)⟩
  rw [← Array.length_toList, hc, cellsL_len]
theorem RowAt.tree {b : Nat} {ts : List Tr} {W : World} {v : Value} (h : RowAt b ts W v) (kd : Int) (s : ByteArray) (n : Int) : TreeAt b (.mk kd s n ts) W (.agg #[.int .i64 kd, .string s, .int .i64 n, v]) := by
  obtain ⟨g, L, rfl, ht, hm, hb, hr, hi⟩ := h
  exact ⟨.mk kd s n (some ⟨g, 0, none⟩) L.length L, rfl, by rw [HT.tr_eq]; simp only [HT.k, HT.kd, HT.s, HT.n]; rw [ht], .mk _ _ _ _ _ _ hr (Nat.le_refl _) hm (fun ad e => by injection e with e; subst e; exact ⟨hb, rfl⟩) hi⟩
/-- A new block of four cells. -/
def NewAt (b : Nat) (W : World) (v : Value) : Prop := ∃ g, v = .pointer (some ⟨g, 0, none⟩) ∧ b < g ∧ Four W g
theorem NewAt.ext {b : Nat} {w w' : World} {v : Value} (h : NewAt b w v) (hx : Ext w w') : NewAt b w' v := by
  obtain ⟨g, e, hb, hF⟩ := h
  exact ⟨g, e, hb, hF.ext hx⟩
/-- What a slot holds: a value that is known, a tree, a row, a new block. -/
inductive Ho where
  | val (v : Value)
  | tree (t : Tr)
  | row (l : List Tr)
  | new
def Ho.at (b : Nat) (W : World) (v : Value) : Ho → Prop
  | .val u => v = u
  | .tree t => TreeAt b t W v
  | .row l => RowAt b l W v
  | .new => NewAt b W v
def hoF (b : Nat) (l : List Ho) (i : Nat) (W : World) (v : Value) : Prop := (l.getD i (.val undef)).at b W v
theorem hoF_ext {b : Nat} {l : List Ho} {i : Nat} {w w' : World} {v : Value} (hx : Ext w w') (h : hoF b l i w v) : hoF b l i w' v := by
  unfold hoF at *
  generalize l.getD i (.val undef) = x at *
  cases x with
  | val u => exact h
  | tree t => exact TreeAt.ext h hx
  | row t => exact RowAt.ext h hx
  | new => exact NewAt.ext h hx

theorem Te.form2 {t : Te} (h : t.wf) : (t.val = .nilIface ∧ t.tr = .mk 0 ⟨#[]⟩ 0 []) ∨ ∃ k x, t.val = .iface k x := by
  cases t with
  | odd v => rcases h with rfl | ⟨t, x, rfl, _⟩
             · exact .inl ⟨rfl, rfl⟩
             · exact .inr ⟨t, x, rfl⟩
  | _ => exact .inr ⟨_, _, rfl⟩
theorem HT.InE.lt {q : Nat → Prop} {w : World} {t : HT} (h : HT.InE q w t) : HT.InE (fun y => q y ∧ y < w.heap.size) w t := by
  induction h with
  | mk kd s n a c k h1 h2 h3 h4 _ ih => exact .mk kd s n a c k h1 h2 h3 (fun ad e => ⟨fun hn => ⟨(h4 ad e).1 hn, h1.blk (by omega) ad e hn⟩, (h4 ad e).2⟩) ih
theorem HT.In.of_inE {q q2 : Nat → Prop} {w w' : World} {t : HT} (h : HT.In q w t) (k : HT.InE q2 w' t) : HT.In q w' t := by
  induction h with
  | mk kd s n a c l h1 h2 h3 h4 _ ih => exact .mk kd s n a c l k.rd h2 h3 h4 (fun x hx => by obtain ⟨i, hi⟩ := List.getElem?_of_mem hx; exact ih x hx (k.kid hi))
theorem Four.fresh {w w' : World} {x0 x1 x2 x3 : Value} (h : Ext (w.alloc (.cells #[x0, x1, x2, x3] 76)) w') : Four w' w.heap.size :=
  Four.ext (show Four (w.alloc (.cells #[x0, x1, x2, x3] 76)) w.heap.size from ⟨_, _, _, _, heap_alloc_new _ _⟩) h
theorem Four.freshD {w w' : World} {x0 x1 x2 x3 : Value} (h : Ext (w.alloc (.cells #[x0, x1, x2, x3] 76)).drew w') : Four w' w.heap.size := Four.fresh ((Ext.refl _).drew.trans h)
theorem por_put {X w7 : World} {g : Nat} (h : HT) (hE : Ext X w7) (hg : X.heap.size ≤ g) (hF : Four w7 g) (hI : h.InE (fun y => y ≠ g) w7) :
    (put4 w7 g h.kd h.s h.n (.slice h.a h.k.length h.c)).heap[g]? = some (.cells #[.int .i64 h.kd, .string h.s, .int .i64 h.n, .slice h.a h.k.length h.c] 76 (0, 0)) ∧ h.InE (fun y => y ≠ g) (put4 w7 g h.kd h.s h.n (.slice h.a h.k.length h.c)) ∧ Ext X (put4 w7 g h.kd h.s h.n (.slice h.a h.k.length h.c)) :=
  ⟨hF.put _ _ _ _, hI.grown (fun _ hy => hy) (put4_grown _ _ _ _ _ _), put4_ext hE hg _ _ _ _⟩
theorem por_end {w Y : World} {g : Nat} {h : HT} {l r : Tr} (s : ByteArray) (hF : Four Y w.heap.size) (hE : Ext w Y) (hI : h.In (fun y => w.heap.size + 1 < y) Y) (hie : h.InE (fun y => y ≠ g) Y) (hg : w.heap.size + 1 < g) (ht : h.tr = .mk 5 ⟨#[]⟩ 0 [l, r]) :
    Four (Y.setCell ⟨g, 1, none⟩ (.string s)) w.heap.size ∧ (HT.mk h.kd s h.n h.a h.c h.k).tr = .mk 5 s 0 [l, r] ∧
      (HT.mk h.kd s h.n h.a h.c h.k).In (w.heap.size ≤ ·) (put4 (Y.setCell ⟨g, 1, none⟩ (.string s)) w.heap.size h.kd s h.n (.slice h.a h.k.length h.c)) ∧
      Ext w (put4 (Y.setCell ⟨g, 1, none⟩ (.string s)) w.heap.size h.kd s h.n (.slice h.a h.k.length h.c)) := by
  obtain ⟨e1, e2, e3, e4⟩ := HT.tr_inv ht
  have h1 := hI.of_inE (hie.grown (fun _ hy => hy) (setCell_grown Y g 1 (.string s)))
  refine ⟨hF.grown (setCell_grown _ _ _ _) (by omega), by rw [HT.tr_eq]; show Tr.mk h.kd s h.n (h.k.map HT.tr) = _; rw [e1, e3, e4], ?_, put4_ext (hE.setCell (p := ⟨g, 1, none⟩) (show w.heap.size ≤ g by omega) _) (Nat.le_refl _) _ _ _ _⟩
  have h2 := h1.grown (m := w.heap.size) (fun y hy => by omega) (put4_grown _ _ h.kd s h.n (.slice h.a h.k.length h.c))
  have h3 := h2.weak (q' := (w.heap.size ≤ ·)) (fun y hy => by omega)
  cases h with
  | mk kd s0 n a c k => cases h3 with | mk _ _ _ _ _ _ q1 q2 q3 q4 q5 => exact .mk _ _ _ _ _ _ q1 q2 q3 q4 q5
set_option maxRecDepth 100000 in
set_option maxHeartbeats 1600000 in
theorem two_callsB (q q2 : Nat → Prop) (kd : Int) (h1 h2 : HT) (w : World) (hi1 : h1.In q w) (hi2 : h2.In q w) (he1 : h1.InE q2 w) (he2 : h2.InE q2 w) :
    Calls Try.prog 135 #[.int .i64 kd, h1.val, h2.val] w fun e w' => ∃ h : HT, e = .returned h.val ∧ h.tr = .mk kd ⟨#[]⟩ 0 [h1.tr, h2.tr] ∧ h.In (fun y => q y ∨ w.heap.size ≤ y) w' ∧ h.InE (fun y => q2 y ∨ w.heap.size ≤ y) w' ∧ Ext w w' := by
  unfold HT.val
  go_enter Try.func135, Try.ntmps135
  go_wp2
  generalize hA : Obj.cells #[.int .i64 h1.kd, .string h1.s, .int .i64 h1.n, .slice h1.a h1.k.length h1.c] 76 = A
  generalize hB : Obj.cells #[.int .i64 h2.kd, .string h2.s, .int .i64 h2.n, .slice h2.a h2.k.length h2.c] 76 = B
  have hs : ((w.alloc A).alloc B).heap.size = w.heap.size + 1 + 1 := by simp
  have hx : Ext w ((w.alloc A).alloc B) := ((Ext.refl w).alloc _).alloc _
  clear hA hB
  generalize ((w.alloc A).alloc B) = X at *
  obtain ⟨C, hC⟩ : ∃ C, C = Obj.cells #[.int .i64 kd, .string ⟨#[]⟩, .int .i64 0, .slice (some ⟨w.heap.size + 1 + 1 + 1, 0, none⟩) 2 2] 76 := ⟨_, rfl⟩
  rw [← hC]
  have hC2 : (X.alloc C).heap[w.heap.size + 1 + 1]? = some C := by rw [← hs]; exact heap_alloc_new _ _
  have hs2 : (X.alloc C).heap.size = w.heap.size + 1 + 1 + 1 := by simp [hs]
  have hx2 : Ext w (X.alloc C) := hx.alloc _
  generalize X.alloc C = Y at *
  have hD : ((Y.alloc (.cells #[.int .i64 h1.kd, .string h1.s, .int .i64 h1.n, .slice h1.a h1.k.length h1.c, .int .i64 h2.kd, .string h2.s, .int .i64 h2.n, .slice h2.a h2.k.length h2.c] 76))).heap[w.heap.size + 1 + 1 + 1]? = some (.cells #[.int .i64 h1.kd, .string h1.s, .int .i64 h1.n, .slice h1.a h1.k.length h1.c, .int .i64 h2.kd, .string h2.s, .int .i64 h2.n, .slice h2.a h2.k.length h2.c] 76 (0, 0)) := by rw [← hs2]; exact heap_alloc_new _ _
  have hx3 : Ext Y (Y.alloc (.cells #[.int .i64 h1.kd, .string h1.s, .int .i64 h1.n, .slice h1.a h1.k.length h1.c, .int .i64 h2.kd, .string h2.s, .int .i64 h2.n, .slice h2.a h2.k.length h2.c] 76)) := (Ext.refl Y).alloc _
  generalize (Y.alloc (.cells #[.int .i64 h1.kd, .string h1.s, .int .i64 h1.n, .slice h1.a h1.k.length h1.c, .int .i64 h2.kd, .string h2.s, .int .i64 h2.n, .slice h2.a h2.k.length h2.c] 76)) = Z at *
  have hx4 := hx2.trans hx3
  have hbB : BlkAt Z (w.heap.size + 1 + 1) (w.heap.size + 1 + 1 + 1) _ _ := ⟨by omega, hD⟩
  have hrd : Rd Z 4 (some ⟨w.heap.size + 1 + 1 + 1, 0, none⟩) [h1, h2].length (cellsL [h1, h2]) := hbB.rd (by rw [cellsL_two]; rfl) (cellsL_len _)
  have hin : (HT.mk kd ⟨#[]⟩ 0 (some ⟨w.heap.size + 1 + 1 + 1, 0, none⟩) 2 [h1, h2]).In (fun y => q y ∨ w.heap.size ≤ y) Z :=
    .mk _ _ _ _ _ _ hrd (Nat.le_refl _) (by unfold maxLen; omega) (fun ad e => by injection e with e; subst e; exact ⟨.inr (by simp only; omega), rfl⟩) (fun x hx => by
      rcases List.mem_cons.1 hx with rfl | hx
      · exact (hi1.ext hx4).weak (fun y h => .inl h)
      · rw [List.mem_singleton.1 hx]; exact (hi2.ext hx4).weak (fun y h => .inl h))
  have hinE : (HT.mk kd ⟨#[]⟩ 0 (some ⟨w.heap.size + 1 + 1 + 1, 0, none⟩) 2 [h1, h2]).InE (fun y => q2 y ∨ w.heap.size ≤ y) Z :=
    .mk _ _ _ _ _ _ hrd (Nat.le_refl _) (by unfold maxLen; omega) (fun ad e => by injection e with e; subst e; exact ⟨fun _ => .inr (by simp only; omega), rfl⟩) (fun x hx => by
      rcases List.mem_cons.1 hx with rfl | hx
      · exact (he1.ext hx4).weak (fun y h => .inl h)
      · rw [List.mem_singleton.1 hx]; exact (he2.ext hx4).weak (fun y h => .inl h))
  have hCZ := hx3.obj hC2
  rw [hC] at hCZ
  apply bodyPost_ret (v := (HT.mk kd ⟨#[]⟩ 0 (some ⟨w.heap.size + 1 + 1 + 1, 0, none⟩) 2 [h1, h2]).val)
  · exact results_cell_row rfl _ _ (w.heap.size + 1 + 1) _ _ _ _ rfl hCZ Try.underlying76 rfl (by kernel_rfl)
  · rfl
  exact ⟨_, rfl, rfl, hin, hinE, hx4⟩

set_option maxRecDepth 100000 in
set_option maxHeartbeats 3200000 in
theorem por_calls (s : ByteArray) (r1 r2 : Tr) (lv rv : Value) (w : World) (H1 : ∀ W, Calls Try.prog 119 #[lv] W fun e w' => RetH W r1 e w') (H2 : ∀ W, Calls Try.prog 119 #[rv] W fun e w' => RetH W r2 e w') (f1 : (lv = .nilIface ∧ r1 = .mk 0 ⟨#[]⟩ 0 []) ∨ ∃ t x, lv = .iface t x) (f2 : (rv = .nilIface ∧ r2 = .mk 0 ⟨#[]⟩ 0 []) ∨ ∃ t x, rv = .iface t x) :
    Calls Try.prog 119 #[.iface 104 (.agg #[.string s, lv, rv])] w fun e w' => RetH w (.mk 5 s 0 [r1, r2]) e w' := by
  obtain ⟨l0, hl0⟩ : ∃ u, u = lv := ⟨_, rfl⟩
  obtain ⟨r0, hr0⟩ : ∃ u, u = rv := ⟨_, rfl⟩
  obtain ⟨X, hXe⟩ : ∃ X, X = (w.alloc fourZ).alloc (.cells #[.string s, lv, rv] 104) := ⟨_, rfl⟩
  have hX : Ext w X := by rw [hXe]; exact ((Ext.refl w).alloc _).alloc _
  have hXs : X.heap.size = w.heap.size + 2 := by rw [hXe]; simp
  have hF0 : Four X w.heap.size := by rw [hXe]; exact (four_at (w := w)).ext ((Ext.refl _).alloc (.cells #[.string s, lv, rv] 104))
  have hB0 : X.heap[w.heap.size + 1]? = some (.cells #[.string s, l0, r0] 104 (0, 0)) := by rw [hXe, hl0, hr0]; exact heap_alloc2_new w _ _
  obtain ⟨k0, kf, kl⟩ := obj_cells hB0
  have c0 : X.cell? ⟨w.heap.size + 1, 0, none⟩ = some (.string s) := k0 0 _ rfl
  have c1 : X.cell? ⟨w.heap.size + 1, 1, none⟩ = some l0 := k0 1 _ rfl
  have c2 : X.cell? ⟨w.heap.size + 1, 2, none⟩ = some r0 := k0 2 _ rfl
  have hgl0 : w.heap.size + 1 < X.heap.size := by omega
  have hgl : w.heap.size + 1 < X.heap.size + 1 := by omega
  have hn4 : X.heap.size ≠ w.heap.size + 1 := by omega
  have hm4 : w.heap.size + 1 ≠ X.heap.size := by omega
  have HH := Lib.hid (And.intro hX (And.intro hXs (And.intro hF0 hB0)))
  rw [← hl0] at H1
  rw [← hr0] at H2
  replace hXe := Lib.hid hXe
  clear hX hF0 hB0 k0 hXs hl0 hr0
  rcases f1 with ⟨rfl, -⟩ | ⟨t1, x1, rfl⟩ <;> rcases f2 with ⟨rfl, -⟩ | ⟨t2, x2, rfl⟩
  all_goals
    go_enter Try.func119, Try.ntmps119
    go_upto_region 16 with fail
    rw [← hXe.out]
    clear hXe
    go_region_held3 (fun W => W.cell? ⟨w.heap.size + 1, 1, none⟩ = some l0 ∧ W.cell? ⟨w.heap.size + 1, 2, none⟩ = some r0) (go_keep)
      (first
            | (go_at_call 119; (with_reducible refine (H2 _).mono ?_); rintro e w6 ⟨h2, rfl, ht2, hin2, hx6⟩; have hE6 : Ext X w6 := hE5.trans (Ext.trans ((by repeat' (first | (with_reducible exact Ext.refl _) | (with_reducible assumption) | (with_reducible refine Ext.alloc ?_ _) | (with_reducible refine Ext.drew ?_) | (with_reducible refine Ext.drewN ?_ _) | (with_reducible refine Ext.setCell ?_ (by first | exact Nat.le_refl _ | (simp; done) | (simp; omega) | omega) _) | (with_reducible refine Ext.trans ?_ (by assumption))))) hx6); have hs6 := hE6.cell c1; have hs6c := hE6.cell c2; have hl6 : w.heap.size + 1 < w6.heap.size := (by have := hE6.le; omega); have hl6b : w.heap.size + 1 < w6.heap.size + 1 := (by omega); have hn6 : w6.heap.size ≠ w.heap.size + 1 := (by omega); have hm6 : w.heap.size + 1 ≠ w6.heap.size := (by omega); have hz6 := hx6.le; (try simp at hz6); (try have hzB : X.heap.size < w6.heap.size := (by omega)); (try have hzC : w5.heap.size < w6.heap.size := (by omega)); (try (have hgB : Four w6 X.heap.size := Four.ext hgA hx6; obtain ⟨⟨_, _⟩, ⟨_, _⟩, ⟨_, _⟩, ⟨_, _⟩, _⟩ := hgB.cells)); (try (have hgB : Four w6 X.heap.size := Four.ext (Four.ext hgA (Ext.drew (Ext.refl _))) hx6; obtain ⟨⟨_, _⟩, ⟨_, _⟩, ⟨_, _⟩, ⟨_, _⟩, _⟩ := hgB.cells)); (try (have hgC : Four w6 w5.heap.size := Four.fresh hx6; obtain ⟨⟨_, _⟩, ⟨_, _⟩, ⟨_, _⟩, ⟨_, _⟩, _⟩ := hgC.cells)); (try (have hgC : Four w6 w5.heap.size := Four.freshD hx6; obtain ⟨⟨_, _⟩, ⟨_, _⟩, ⟨_, _⟩, ⟨_, _⟩, _⟩ := hgC.cells)))
            | (go_at_call 119; (with_reducible refine (H1 _).mono ?_); rintro e w5 ⟨h1, rfl, ht1, hin1, hx5⟩; have hE5 : Ext X w5 := (Ext.trans ((by repeat' (first | (with_reducible exact Ext.refl _) | (with_reducible assumption) | (with_reducible refine Ext.alloc ?_ _) | (with_reducible refine Ext.drew ?_) | (with_reducible refine Ext.drewN ?_ _) | (with_reducible refine Ext.setCell ?_ (by first | exact Nat.le_refl _ | (simp; done) | (simp; omega) | omega) _) | (with_reducible refine Ext.trans ?_ (by assumption))))) hx5); have hs5 := hE5.cell c1; have hs5c := hE5.cell c2; have hl5 : w.heap.size + 1 < w5.heap.size := (by have := hE5.le; omega); have hl5b : w.heap.size + 1 < w5.heap.size + 1 := (by omega); have hn5 : w5.heap.size ≠ w.heap.size + 1 := (by omega); have hm5 : w.heap.size + 1 ≠ w5.heap.size := (by omega); have hz5 := hx5.le; (try simp at hz5); (try have hzA : X.heap.size < w5.heap.size := (by omega)); (try (have hgA : Four w5 X.heap.size := Four.fresh hx5; obtain ⟨⟨_, _⟩, ⟨_, _⟩, ⟨_, _⟩, ⟨_, _⟩, _⟩ := hgA.cells)); (try (have hgA : Four w5 X.heap.size := Four.freshD hx5; obtain ⟨⟨_, _⟩, ⟨_, _⟩, ⟨_, _⟩, ⟨_, _⟩, _⟩ := hgA.cells)))
            | (go_at_call 135; (with_reducible refine (two_callsB (fun y => w.heap.size + 1 < y) (fun y => (_ ≤ y ∧ y < w5.heap.size) ∨ (_ ≤ y ∧ y < w6.heap.size)) 5 h1 h2 _ (((hin1.ext (Ext.trans (Ext.trans ((by repeat' (first | (with_reducible exact Ext.refl _) | (with_reducible assumption) | (with_reducible refine Ext.alloc ?_ _) | (with_reducible refine Ext.drew ?_) | (with_reducible refine Ext.drewN ?_ _) | (with_reducible refine Ext.setCell ?_ (by first | exact Nat.le_refl _ | (simp; done) | (simp; omega) | omega) _) | (with_reducible refine Ext.trans ?_ (by assumption))))) hx6) ((by repeat' (first | (with_reducible exact Ext.refl _) | (with_reducible assumption) | (with_reducible refine Ext.alloc ?_ _) | (with_reducible refine Ext.drew ?_) | (with_reducible refine Ext.drewN ?_ _) | (with_reducible refine Ext.setCell ?_ (by first | exact Nat.le_refl _ | (simp; done) | (simp; omega) | omega) _) | (with_reducible refine Ext.trans ?_ (by assumption))))))).weak (fun y hy => by (try simp at hy); omega))) ((hin2.ext ((by repeat' (first | (with_reducible exact Ext.refl _) | (with_reducible assumption) | (with_reducible refine Ext.alloc ?_ _) | (with_reducible refine Ext.drew ?_) | (with_reducible refine Ext.drewN ?_ _) | (with_reducible refine Ext.setCell ?_ (by first | exact Nat.le_refl _ | (simp; done) | (simp; omega) | omega) _) | (with_reducible refine Ext.trans ?_ (by assumption)))))).weak (fun y hy => by (try simp at hy); omega)) (((hin1.inE).ext (Ext.trans (Ext.trans ((by repeat' (first | (with_reducible exact Ext.refl _) | (with_reducible assumption) | (with_reducible refine Ext.alloc ?_ _) | (with_reducible refine Ext.drew ?_) | (with_reducible refine Ext.drewN ?_ _) | (with_reducible refine Ext.setCell ?_ (by first | exact Nat.le_refl _ | (simp; done) | (simp; omega) | omega) _) | (with_reducible refine Ext.trans ?_ (by assumption))))) hx6) ((by repeat' (first | (with_reducible exact Ext.refl _) | (with_reducible assumption) | (with_reducible refine Ext.alloc ?_ _) | (with_reducible refine Ext.drew ?_) | (with_reducible refine Ext.drewN ?_ _) | (with_reducible refine Ext.setCell ?_ (by first | exact Nat.le_refl _ | (simp; done) | (simp; omega) | omega) _) | (with_reducible refine Ext.trans ?_ (by assumption))))))).weak (fun y hy => .inl hy)) (((hin2.inE).ext ((by repeat' (first | (with_reducible exact Ext.refl _) | (with_reducible assumption) | (with_reducible refine Ext.alloc ?_ _) | (with_reducible refine Ext.drew ?_) | (with_reducible refine Ext.drewN ?_ _) | (with_reducible refine Ext.setCell ?_ (by first | exact Nat.le_refl _ | (simp; done) | (simp; omega) | omega) _) | (with_reducible refine Ext.trans ?_ (by assumption)))))).weak (fun y hy => .inr hy))).mono ?_); rintro e w7 ⟨h, rfl, ht7, hin7, hie7, hx7⟩; have hE7 : Ext X w7 := hE6.trans (Ext.trans ((by repeat' (first | (with_reducible exact Ext.refl _) | (with_reducible assumption) | (with_reducible refine Ext.alloc ?_ _) | (with_reducible refine Ext.drew ?_) | (with_reducible refine Ext.drewN ?_ _) | (with_reducible refine Ext.setCell ?_ (by first | exact Nat.le_refl _ | (simp; done) | (simp; omega) | omega) _) | (with_reducible refine Ext.trans ?_ (by assumption))))) hx7); have hs7 := hE7.cell c1; have hs7c := hE7.cell c2; have hl7 : w.heap.size + 1 < w7.heap.size := (by have := hE7.le; omega); have hl7b : w.heap.size + 1 < w7.heap.size + 1 := (by omega); have hn7 : w7.heap.size ≠ w.heap.size + 1 := (by omega); have hm7 : w.heap.size + 1 ≠ w7.heap.size := (by omega); have hz7 := hx7.le; (try simp at hz7); (try have hzD : X.heap.size < w7.heap.size := (by omega)); (try have hzE : w5.heap.size < w7.heap.size := (by omega)); (try have hzF : w6.heap.size < w7.heap.size := (by omega)); (try (have hgD : Four w7 X.heap.size := Four.ext hgB hx7; obtain ⟨⟨_, _⟩, ⟨_, _⟩, ⟨_, _⟩, ⟨_, _⟩, _⟩ := hgD.cells)); (try (have hgD : Four w7 X.heap.size := Four.ext (Four.ext hgB (Ext.drew (Ext.refl _))) hx7; obtain ⟨⟨_, _⟩, ⟨_, _⟩, ⟨_, _⟩, ⟨_, _⟩, _⟩ := hgD.cells)); (try (have hgE : Four w7 w5.heap.size := Four.ext hgC hx7; obtain ⟨⟨_, _⟩, ⟨_, _⟩, ⟨_, _⟩, ⟨_, _⟩, _⟩ := hgE.cells)); (try (have hgE : Four w7 w5.heap.size := Four.ext (Four.ext hgC (Ext.drew (Ext.refl _))) hx7; obtain ⟨⟨_, _⟩, ⟨_, _⟩, ⟨_, _⟩, ⟨_, _⟩, _⟩ := hgE.cells)); (try (have hgF : Four w7 w6.heap.size := Four.fresh hx7; obtain ⟨⟨_, _⟩, ⟨_, _⟩, ⟨_, _⟩, ⟨_, _⟩, _⟩ := hgF.cells)); (try (have hgF : Four w7 w6.heap.size := Four.freshD hx7; obtain ⟨⟨_, _⟩, ⟨_, _⟩, ⟨_, _⟩, ⟨_, _⟩, _⟩ := hgF.cells)); unfold HT.val))
    · have hIq := hie7.lt.weak (q' := fun y => y ≠ w7.heap.size) (fun y hy => by omega)
      have hZ : (w7.alloc (.cells #[.int .i64 h.kd, .string h.s, .int .i64 h.n, .slice h.a h.k.length h.c] 76)).heap[w7.heap.size]? = some (.cells #[.int .i64 h.kd, .string h.s, .int .i64 h.n, .slice h.a h.k.length h.c] 76 (0, 0)) ∧ h.InE (fun y => y ≠ w7.heap.size) (w7.alloc (.cells #[.int .i64 h.kd, .string h.s, .int .i64 h.n, .slice h.a h.k.length h.c] 76)) ∧ Ext X (w7.alloc (.cells #[.int .i64 h.kd, .string h.s, .int .i64 h.n, .slice h.a h.k.length h.c] 76)) := ⟨heap_alloc_new _ _, hIq.ext ((Ext.refl _).alloc _), hE7.alloc _⟩
      generalize (w7.alloc (.cells #[.int .i64 h.kd, .string h.s, .int .i64 h.n, .slice h.a h.k.length h.c] 76)) = Y at *
      have hgl2 : w.heap.size + 1 < w7.heap.size := by omega
      have hYI := (HT.In.of_inE hin7 hZ.2.1).weak (q' := fun y => w.heap.size + 1 < y) (fun y hy => by (try simp at hy); omega)
      obtain ⟨k0, kf, kl⟩ := obj_cells hZ.1
      have z0 := k0 0 _ rfl
      have z1 := k0 1 _ rfl
      have z2 := k0 2 _ rfl
      have z3 := k0 3 _ rfl
      have p0 := hZ.2.2.cell c0
      have hF := HH.out.2.2.1.ext hZ.2.2
      obtain ⟨⟨y0, d0⟩, ⟨y1, d1⟩, ⟨y2, d2⟩, ⟨y3, d3⟩, hfz⟩ := hF.cells
      have HE := Lib.hid (And.intro hF (And.intro (HH.out.1.trans hZ.2.2) (And.intro hYI (And.intro hZ.2.1 (And.intro ht7 (And.intro ht1 (And.intro ht2 hgl2)))))))
      have hne1 : w.heap.size ≠ w7.heap.size := by omega
      have hne2 : w7.heap.size ≠ w.heap.size := by omega
      have hne3 : w.heap.size + 1 ≠ w7.heap.size := by omega
      have hne4 : w7.heap.size ≠ w.heap.size + 1 := by omega
      clear hF hYI hZ ht7 ht1 ht2 k0 hin7 hie7
      go_wp2
      have hq := por_end (w := w) s HE.out.1 HE.out.2.1 HE.out.2.2.1 HE.out.2.2.2.1 HE.out.2.2.2.2.2.2.2 HE.out.2.2.2.2.1
      apply bodyPost_ret (v := (HT.mk h.kd s h.n h.a h.c h.k).val)
      · exact put4_at hq.1 (HT.mk h.kd s h.n h.a h.c h.k) _ 0 _ 2 rfl rfl
      · rfl
      exact ⟨_, rfl, by rw [hq.2.1, HE.out.2.2.2.2.2.1, HE.out.2.2.2.2.2.2.1], hq.2.2.1, hq.2.2.2⟩
    · have hIq := hie7.weak (q' := fun y => y ≠ w6.heap.size) (fun y hy => by (try simp at hy); omega)
      have hZ := por_put h hE7 (g := w6.heap.size) (by omega) hgF hIq
      have hfold : put4 w7 (w6.heap.size) h.kd h.s h.n (.slice h.a h.k.length h.c) = ((((w7.setCell ⟨w6.heap.size, 0, none⟩ (.int .i64 h.kd)).setCell ⟨w6.heap.size, 1, none⟩ (.string h.s)).setCell ⟨w6.heap.size, 2, none⟩ (.int .i64 h.n)).setCell ⟨w6.heap.size, 3, none⟩ (.slice h.a h.k.length h.c)) := rfl
      rw [← hfold]
      clear hfold
      generalize put4 w7 (w6.heap.size) h.kd h.s h.n (.slice h.a h.k.length h.c) = Y at *
      have hgl2 : w.heap.size + 1 < w6.heap.size := by omega
      have hYI := (HT.In.of_inE hin7 hZ.2.1).weak (q' := fun y => w.heap.size + 1 < y) (fun y hy => by (try simp at hy); omega)
      obtain ⟨k0, kf, kl⟩ := obj_cells hZ.1
      have z0 := k0 0 _ rfl
      have z1 := k0 1 _ rfl
      have z2 := k0 2 _ rfl
      have z3 := k0 3 _ rfl
      have p0 := hZ.2.2.cell c0
      have hF := HH.out.2.2.1.ext hZ.2.2
      obtain ⟨⟨y0, d0⟩, ⟨y1, d1⟩, ⟨y2, d2⟩, ⟨y3, d3⟩, hfz⟩ := hF.cells
      have HE := Lib.hid (And.intro hF (And.intro (HH.out.1.trans hZ.2.2) (And.intro hYI (And.intro hZ.2.1 (And.intro ht7 (And.intro ht1 (And.intro ht2 hgl2)))))))
      have hne1 : w.heap.size ≠ w6.heap.size := by omega
      have hne2 : w6.heap.size ≠ w.heap.size := by omega
      have hne3 : w.heap.size + 1 ≠ w6.heap.size := by omega
      have hne4 : w6.heap.size ≠ w.heap.size + 1 := by omega
      clear hF hYI hZ ht7 ht1 ht2 k0 hin7 hie7
      go_wp2
      have hq := por_end (w := w) s HE.out.1 HE.out.2.1 HE.out.2.2.1 HE.out.2.2.2.1 HE.out.2.2.2.2.2.2.2 HE.out.2.2.2.2.1
      apply bodyPost_ret (v := (HT.mk h.kd s h.n h.a h.c h.k).val)
      · exact put4_at hq.1 (HT.mk h.kd s h.n h.a h.c h.k) _ 0 _ 2 rfl rfl
      · rfl
      exact ⟨_, rfl, by rw [hq.2.1, HE.out.2.2.2.2.2.1, HE.out.2.2.2.2.2.2.1], hq.2.2.1, hq.2.2.2⟩
    · have hIq := hie7.weak (q' := fun y => y ≠ w5.heap.size) (fun y hy => by (try simp at hy); omega)
      have hZ := por_put h hE7 (g := w5.heap.size) (by omega) hgE hIq
      have hfold : put4 w7 (w5.heap.size) h.kd h.s h.n (.slice h.a h.k.length h.c) = ((((w7.setCell ⟨w5.heap.size, 0, none⟩ (.int .i64 h.kd)).setCell ⟨w5.heap.size, 1, none⟩ (.string h.s)).setCell ⟨w5.heap.size, 2, none⟩ (.int .i64 h.n)).setCell ⟨w5.heap.size, 3, none⟩ (.slice h.a h.k.length h.c)) := rfl
      rw [← hfold]
      clear hfold
      generalize put4 w7 (w5.heap.size) h.kd h.s h.n (.slice h.a h.k.length h.c) = Y at *
      have hgl2 : w.heap.size + 1 < w5.heap.size := by omega
      have hYI := (HT.In.of_inE hin7 hZ.2.1).weak (q' := fun y => w.heap.size + 1 < y) (fun y hy => by (try simp at hy); omega)
      obtain ⟨k0, kf, kl⟩ := obj_cells hZ.1
      have z0 := k0 0 _ rfl
      have z1 := k0 1 _ rfl
      have z2 := k0 2 _ rfl
      have z3 := k0 3 _ rfl
      have p0 := hZ.2.2.cell c0
      have hF := HH.out.2.2.1.ext hZ.2.2
      obtain ⟨⟨y0, d0⟩, ⟨y1, d1⟩, ⟨y2, d2⟩, ⟨y3, d3⟩, hfz⟩ := hF.cells
      have HE := Lib.hid (And.intro hF (And.intro (HH.out.1.trans hZ.2.2) (And.intro hYI (And.intro hZ.2.1 (And.intro ht7 (And.intro ht1 (And.intro ht2 hgl2)))))))
      have hne1 : w.heap.size ≠ w5.heap.size := by omega
      have hne2 : w5.heap.size ≠ w.heap.size := by omega
      have hne3 : w.heap.size + 1 ≠ w5.heap.size := by omega
      have hne4 : w5.heap.size ≠ w.heap.size + 1 := by omega
      clear hF hYI hZ ht7 ht1 ht2 k0 hin7 hie7
      go_wp2
      have hq := por_end (w := w) s HE.out.1 HE.out.2.1 HE.out.2.2.1 HE.out.2.2.2.1 HE.out.2.2.2.2.2.2.2 HE.out.2.2.2.2.1
      apply bodyPost_ret (v := (HT.mk h.kd s h.n h.a h.c h.k).val)
      · exact put4_at hq.1 (HT.mk h.kd s h.n h.a h.c h.k) _ 0 _ 2 rfl rfl
      · rfl
      exact ⟨_, rfl, by rw [hq.2.1, HE.out.2.2.2.2.2.1, HE.out.2.2.2.2.2.2.1], hq.2.2.1, hq.2.2.2⟩
    · have hIq := hie7.weak (q' := fun y => y ≠ X.heap.size) (fun y hy => by (try simp at hy); omega)
      have hZ := por_put h hE7 (g := X.heap.size) (by omega) hgD hIq
      have hfold : put4 w7 (X.heap.size) h.kd h.s h.n (.slice h.a h.k.length h.c) = ((((w7.setCell ⟨X.heap.size, 0, none⟩ (.int .i64 h.kd)).setCell ⟨X.heap.size, 1, none⟩ (.string h.s)).setCell ⟨X.heap.size, 2, none⟩ (.int .i64 h.n)).setCell ⟨X.heap.size, 3, none⟩ (.slice h.a h.k.length h.c)) := rfl
      rw [← hfold]
      clear hfold
      generalize put4 w7 (X.heap.size) h.kd h.s h.n (.slice h.a h.k.length h.c) = Y at *
      have hgl2 : w.heap.size + 1 < X.heap.size := by omega
      have hYI := (HT.In.of_inE hin7 hZ.2.1).weak (q' := fun y => w.heap.size + 1 < y) (fun y hy => by (try simp at hy); omega)
      obtain ⟨k0, kf, kl⟩ := obj_cells hZ.1
      have z0 := k0 0 _ rfl
      have z1 := k0 1 _ rfl
      have z2 := k0 2 _ rfl
      have z3 := k0 3 _ rfl
      have p0 := hZ.2.2.cell c0
      have hF := HH.out.2.2.1.ext hZ.2.2
      obtain ⟨⟨y0, d0⟩, ⟨y1, d1⟩, ⟨y2, d2⟩, ⟨y3, d3⟩, hfz⟩ := hF.cells
      have HE := Lib.hid (And.intro hF (And.intro (HH.out.1.trans hZ.2.2) (And.intro hYI (And.intro hZ.2.1 (And.intro ht7 (And.intro ht1 (And.intro ht2 hgl2)))))))
      have hne1 : w.heap.size ≠ X.heap.size := by omega
      have hne2 : X.heap.size ≠ w.heap.size := by omega
      have hne3 : w.heap.size + 1 ≠ X.heap.size := by omega
      have hne4 : X.heap.size ≠ w.heap.size + 1 := by omega
      clear hF hYI hZ ht7 ht1 ht2 k0 hin7 hie7
      go_wp2
      have hq := por_end (w := w) s HE.out.1 HE.out.2.1 HE.out.2.2.1 HE.out.2.2.2.1 HE.out.2.2.2.2.2.2.2 HE.out.2.2.2.2.1
      apply bodyPost_ret (v := (HT.mk h.kd s h.n h.a h.c h.k).val)
      · exact put4_at hq.1 (HT.mk h.kd s h.n h.a h.c h.k) _ 0 _ 2 rfl rfl
      · rfl
      exact ⟨_, rfl, by rw [hq.2.1, HE.out.2.2.2.2.2.1, HE.out.2.2.2.2.2.2.1], hq.2.2.1, hq.2.2.2⟩
set_option maxRecDepth 100000 in
set_option maxHeartbeats 3200000 in
theorem pplain_calls (k : Nat) : ∀ (t : Te) (w : World), SizeOf.sizeOf t < k → t.wf → Calls Try.prog 119 #[t.val] w fun e w' => RetH w t.tr e w' := by
  induction k with
  | zero => intro o w h; omega
  | succ k ih =>
    intro t w hk hwf
    cases t with
    | zero =>
      clear ih
      simp only [Te.val, Te.tr]
      go_enter Try.func119, Try.ntmps119
      go_wp2
      apply bodyPost_ret (v := (HT.mk 1 ⟨#[]⟩ 0 none 0 []).val)
      · exact results_cell_row rfl _ _ w.heap.size _ _ _ _ rfl (((Ext.refl _).alloc _).obj (heap_alloc_new _ _)) Try.underlying76 rfl (by kernel_rfl)
      · rfl
      exact ⟨_, rfl, rfl, HT.leaf_in _ _ _ _ _, ((Ext.refl w).alloc _).alloc _⟩
    | one s =>
      clear ih
      simp only [Te.val, Te.tr]
      go_enter Try.func119, Try.ntmps119
      go_wp2
      apply bodyPost_ret (v := (HT.mk 2 s 0 none 0 []).val)
      · exact results_cell_row rfl _ _ w.heap.size _ _ _ _ rfl (((Ext.refl _).alloc _).obj (heap_alloc_new _ _)) Try.underlying76 rfl (by kernel_rfl)
      · rfl
      exact ⟨_, rfl, rfl, HT.leaf_in _ _ _ _ _, ((Ext.refl w).alloc _).alloc _⟩
    | odd v =>
      clear ih
      simp only [Te.val, Te.tr]
      rcases hwf with rfl | ⟨t, x, rfl, q1, q2, q3, q4, q5, q6, q7, q8⟩
      all_goals
        go_enter Try.func119, Try.ntmps119
        go_wp2
        apply bodyPost_ret (v := (HT.mk 0 ⟨#[]⟩ 0 none 0 []).val)
        · exact results_cell_row rfl _ _ w.heap.size _ _ _ _ rfl (heap_alloc_new _ _) Try.underlying76 rfl (by kernel_rfl)
        · rfl
        exact ⟨_, rfl, rfl, HT.leaf_in _ _ _ _ _, (Ext.refl w).alloc _⟩
    | give t =>
      have H1 := fun W => ih t W (by simp at hk; omega) hwf
      have f1 := Te.form (t := t) hwf
      clear ih hk hwf
      simp only [Te.val, Te.tr]
      generalize t.val = lv at *
      generalize t.tr = lt at *
      rcases f1 with rfl | ⟨t1, x1, rfl⟩
      all_goals
        go_enter Try.func119, Try.ntmps119
        (go_wp2_with fail; (with_reducible refine (H1 _).mono ?_); rintro e w5 ⟨h, rfl, ht, hin, hx⟩)
        unfold HT.val
        have hx5 : Ext w w5 := ((by repeat' (first | (with_reducible exact Ext.refl _) | (with_reducible assumption) | (with_reducible refine Ext.alloc ?_ _) | (with_reducible refine Ext.drew ?_) | (with_reducible refine Ext.drewN ?_ _) | (with_reducible refine Ext.setCell ?_ (by first | exact Nat.le_refl _ | (simp; done) | (simp; omega) | omega) _) | (with_reducible refine Ext.trans ?_ (by assumption)))))
        have hF := (four_at (w := w)).ext (Ext.trans ((Ext.refl _).alloc _) hx)
        obtain ⟨⟨y0, d0⟩, ⟨y1, d1⟩, ⟨y2, d2⟩, ⟨y3, d3⟩, hfz⟩ := hF.cells
        have hb5 : w.heap.size < w5.heap.size := by have := hx.le; (try simp at this); omega
        have hin2 := hin.weak (q' := (w.heap.size < ·)) (fun y hy => by simp at hy; omega)
        have HE := Lib.hid (And.intro hx5 (And.intro hF (And.intro hb5 (And.intro hin2 ht))))
        clear hx hx5 hF hin hin2 ht
        go_wp2
        have hZ := one_end HE.out.1 HE.out.2.1 HE.out.2.2.1 3 ⟨#[]⟩ 0 h HE.out.2.2.2.1 rfl
        apply bodyPost_ret (v := (HT.mk 3 ⟨#[]⟩ 0 (some ⟨w5.heap.size, 0, none⟩) 1 [h]).val)
        · exact results_cell_row rfl _ _ w.heap.size _ _ _ _ rfl hZ.1 Try.underlying76 rfl (by kernel_rfl)
        · rfl
        exact ⟨_, rfl, by rw [← HE.out.2.2.2.2]; rfl, hZ.2.1, hZ.2.2⟩
    | and l r =>
      have H1 := fun W => ih l W (by simp at hk; omega) hwf.1
      have f1 := Te.form (t := l) hwf.1
      have H2 := fun W => ih r W (by simp at hk; omega) hwf.2
      have f2 := Te.form (t := r) hwf.2
      clear ih hk hwf
      simp only [Te.val, Te.tr]
      generalize l.val = v1 at *
      generalize l.tr = r1 at *
      generalize r.val = v2 at *
      generalize r.tr = r2 at *
      obtain ⟨u1, hu1⟩ : ∃ u, u = v1 := ⟨_, rfl⟩
      obtain ⟨u2, hu2⟩ : ∃ u, u = v2 := ⟨_, rfl⟩
      obtain ⟨X, hXe⟩ : ∃ X, X = (w.alloc fourZ).alloc (.cells #[v1, v2] 118) := ⟨_, rfl⟩
      have hs1 : (w.alloc fourZ).heap.size = w.heap.size + 1 := by simp
      have hs : X.heap.size = w.heap.size + 1 + 1 := by rw [hXe]; simp
      have hX : Ext w X := by rw [hXe]; exact ((Ext.refl w).alloc fourZ).alloc _
      have hF0 : Four X w.heap.size := by rw [hXe]; exact (four_at (w := w)).ext ((Ext.refl _).alloc _)
      have c0 : X.cell? ⟨w.heap.size + 1, 0, none⟩ = some (u1) := by rw [hXe, hu1, ← hs1]; exact World.cell?_alloc_new (w.alloc fourZ) #[v1, v2] 118 0
      have c1 : X.cell? ⟨w.heap.size + 1, 1, none⟩ = some (u2) := by rw [hXe, hu2, ← hs1]; exact World.cell?_alloc_new (w.alloc fourZ) #[v1, v2] 118 1
      have hbX : w.heap.size < X.heap.size := by omega
      rw [← hu1] at H1
      rw [← hu2] at H2
      have hXe := Lib.hid hXe
      clear hs hs1 hu1 hu2
      rcases f1 with rfl | ⟨t1, x1, rfl⟩ <;> rcases f2 with rfl | ⟨t2, x2, rfl⟩
      all_goals
        go_enter Try.func119, Try.ntmps119
        go_upto_region 13 with fail
        rw [← hXe.out]
        clear hXe
        refine wp_region_slots 7 [0, 1, 2, 3, 4, 5, 6] _ [34, 35, 36, 37, 38, 39, 40] (hoF w.heap.size [(.val (.pointer (some ⟨w.heap.size + 1, 0, none⟩))), (.val (u1)), (.tree r1), (.val (.pointer (some ⟨w.heap.size + 1, 1, none⟩))), (.val (u2)), (.tree r2), (.tree (.mk 4 ⟨#[]⟩ 0 [r1, r2]))]) (fun _ W => Ext X W) (by kernel_rfl) rfl (by kernel_rfl) (by kernel_rfl) rfl rfl rfl (by decide) rfl ?_ ?_ ?_
        · exact (Ext.refl _).drew
        · refine slots_cons rfl ?_ (slots_cons rfl ?_ (slots_cons rfl ?_ (slots_cons rfl ?_ (slots_cons rfl ?_ (slots_cons rfl ?_ (slots_cons rfl ?_ slots_nil))))))
          · intro l a W hs ho hG hd hne K' hK
            have bb : a.tmps[6]?.getD undef = .pointer (some ⟨w.heap.size + 1, 0, none⟩) := ho.ev 6 rfl
            clear hd ho hne
            go_simp
            exact hK _ _ rfl hG (fun j' v' _ hf => hf)
          · intro l a W hs ho hG hd hne K' hK
            have e0 : a.tmps[34]?.getD undef = (.pointer (some ⟨w.heap.size + 1, 0, none⟩)) := hd ⟨0, .data⟩ (by simp) rfl
            have hc := hG.cell c0
            clear hd ho hne
            go_simp
            exact hK _ _ rfl hG (fun j' v' _ hf => hf)
          · intro l a W hs ho hG hd hne K' hK
            have e1 : a.tmps[35]?.getD undef = (u1) := hd ⟨1, .data⟩ (by simp) rfl
            clear hd ho hne
            go_simp
            go_at_call 119
            (with_reducible refine (H1 W).mono ?_)
            rintro e W2 hr
            obtain ⟨h, rfl, ht, hin, hx⟩ := hr.weak hG hbX
            go_simp
            exact hK _ _ ⟨h, rfl, ht, hin⟩ (hG.trans hx) (fun j' v' _ hf => hoF_ext hx hf)
          · intro l a W hs ho hG hd hne K' hK
            have bb : a.tmps[6]?.getD undef = .pointer (some ⟨w.heap.size + 1, 0, none⟩) := ho.ev 6 rfl
            clear hd ho hne
            go_simp
            exact hK _ _ rfl hG (fun j' v' _ hf => hf)
          · intro l a W hs ho hG hd hne K' hK
            have e3 : a.tmps[37]?.getD undef = (.pointer (some ⟨w.heap.size + 1, 1, none⟩)) := hd ⟨3, .data⟩ (by simp) rfl
            have hc := hG.cell c1
            clear hd ho hne
            go_simp
            exact hK _ _ rfl hG (fun j' v' _ hf => hf)
          · intro l a W hs ho hG hd hne K' hK
            have e4 : a.tmps[38]?.getD undef = (u2) := hd ⟨4, .data⟩ (by simp) rfl
            clear hd ho hne
            go_simp
            go_at_call 119
            (with_reducible refine (H2 W).mono ?_)
            rintro e W2 hr
            obtain ⟨h, rfl, ht, hin, hx⟩ := hr.weak hG hbX
            go_simp
            exact hK _ _ ⟨h, rfl, ht, hin⟩ (hG.trans hx) (fun j' v' _ hf => hoF_ext hx hf)
          · intro l a W hs ho hG hd hne K' hK
            have d2 : TreeAt w.heap.size r1 W (a.tmps[36]?.getD undef) := hd ⟨2, .data⟩ (by simp) rfl
            obtain ⟨h2, e2, t2', i2⟩ := d2
            have d5 : TreeAt w.heap.size r2 W (a.tmps[39]?.getD undef) := hd ⟨5, .data⟩ (by simp) rfl
            obtain ⟨h5, e5, t5', i5⟩ := d5
            clear hd ho hne
            go_simp
            go_at_call 135
            (with_reducible refine (two_calls (w.heap.size < ·) 4 h2 h5 W i2 i5).mono ?_)
            rintro e W2 ⟨h, rfl, ht, hin, hx⟩
            go_simp
            exact hK _ _ ⟨h, rfl, by rw [ht, t2', t5'], hin.weak (fun y hy => hy.elim id (fun hy => Nat.lt_of_lt_of_le hbX (Nat.le_trans hG.le hy)))⟩ (hG.trans hx) (fun j' v' _ hf => hoF_ext hx hf)
        · intro l a W ho hG hall hF K' hK
          have d6 : TreeAt w.heap.size (.mk 4 ⟨#[]⟩ 0 [r1, r2]) W (a.tmps[40]?.getD undef) := hF 6 (by omega)
          obtain ⟨h, e6, ht, hin⟩ := d6
          unfold HT.val at e6
          have b2 : a.tmps[2]?.getD undef = .pointer (some ⟨w.heap.size, 0, none⟩) := ho.ev 2 rfl
          have hdf : a.defers = [] := ho.defers
          have hF4 := hF0.ext hG
          have hxw := hX.trans hG
          obtain ⟨⟨y0, d0⟩, ⟨y1, d1⟩, ⟨y2, d2⟩, ⟨y3, d3⟩, hfz⟩ := hF4.cells
          have HE := Lib.hid (And.intro hF4 (And.intro hxw (And.intro hin ht)))
          clear hF ho hall hG hin ht hF4 hxw
          go_simp
          refine hK _ _ ?_
          go_wp2
          apply bodyPost_ret (v := h.val)
          · exact put4_at HE.out.1 h _ 0 _ 2 rfl (by simpa using b2)
          · exact hdf
          exact ⟨h, rfl, HE.out.2.2.2, ((HE.out.2.2.1.grown (fun y hy => by omega) (put4_grown _ _ _ _ _ _)).weak (fun y hy => by omega)), put4_ext HE.out.2.1 (Nat.le_refl _) _ _ _ _⟩
    | scale o r =>
      have H1 := fun W => pobs_calls _ o W (Nat.lt_succ_self _) hwf.1
      have f1 := Ob.form (o := o) hwf.1
      have H2 := fun W => ih r W (by simp at hk; omega) hwf.2
      have f2 := Te.form (t := r) hwf.2
      clear ih hk hwf
      simp only [Te.val, Te.tr]
      generalize o.val = v1 at *
      generalize o.tr = r1 at *
      generalize r.val = v2 at *
      generalize r.tr = r2 at *
      obtain ⟨u1, hu1⟩ : ∃ u, u = v1 := ⟨_, rfl⟩
      obtain ⟨u2, hu2⟩ : ∃ u, u = v2 := ⟨_, rfl⟩
      obtain ⟨X, hXe⟩ : ∃ X, X = (w.alloc fourZ).alloc (.cells #[v1, v2] 108) := ⟨_, rfl⟩
      have hs1 : (w.alloc fourZ).heap.size = w.heap.size + 1 := by simp
      have hs : X.heap.size = w.heap.size + 1 + 1 := by rw [hXe]; simp
      have hX : Ext w X := by rw [hXe]; exact ((Ext.refl w).alloc fourZ).alloc _
      have hF0 : Four X w.heap.size := by rw [hXe]; exact (four_at (w := w)).ext ((Ext.refl _).alloc _)
      have c0 : X.cell? ⟨w.heap.size + 1, 0, none⟩ = some (u1) := by rw [hXe, hu1, ← hs1]; exact World.cell?_alloc_new (w.alloc fourZ) #[v1, v2] 108 0
      have c1 : X.cell? ⟨w.heap.size + 1, 1, none⟩ = some (u2) := by rw [hXe, hu2, ← hs1]; exact World.cell?_alloc_new (w.alloc fourZ) #[v1, v2] 108 1
      have hbX : w.heap.size < X.heap.size := by omega
      rw [← hu1] at H1
      rw [← hu2] at H2
      have hXe := Lib.hid hXe
      clear hs hs1 hu1 hu2
      rcases f1 with rfl | ⟨t1, x1, rfl⟩ <;> rcases f2 with rfl | ⟨t2, x2, rfl⟩
      all_goals
        go_enter Try.func119, Try.ntmps119
        go_upto_region 21 with fail
        rw [← hXe.out]
        clear hXe
        refine wp_region_slots 7 [0, 1, 2, 3, 4, 5, 6] _ [58, 59, 60, 61, 62, 63, 64] (hoF w.heap.size [(.val (.pointer (some ⟨w.heap.size + 1, 0, none⟩))), (.val (u1)), (.tree r1), (.val (.pointer (some ⟨w.heap.size + 1, 1, none⟩))), (.val (u2)), (.tree r2), (.tree (.mk 6 ⟨#[]⟩ 0 [r1, r2]))]) (fun _ W => Ext X W) (by kernel_rfl) rfl (by kernel_rfl) (by kernel_rfl) rfl rfl rfl (by decide) rfl ?_ ?_ ?_
        · exact (Ext.refl _).drew
        · refine slots_cons rfl ?_ (slots_cons rfl ?_ (slots_cons rfl ?_ (slots_cons rfl ?_ (slots_cons rfl ?_ (slots_cons rfl ?_ (slots_cons rfl ?_ slots_nil))))))
          · intro l a W hs ho hG hd hne K' hK
            have bb : a.tmps[9]?.getD undef = .pointer (some ⟨w.heap.size + 1, 0, none⟩) := ho.ev 9 rfl
            clear hd ho hne
            go_simp
            exact hK _ _ rfl hG (fun j' v' _ hf => hf)
          · intro l a W hs ho hG hd hne K' hK
            have e0 : a.tmps[58]?.getD undef = (.pointer (some ⟨w.heap.size + 1, 0, none⟩)) := hd ⟨0, .data⟩ (by simp) rfl
            have hc := hG.cell c0
            clear hd ho hne
            go_simp
            exact hK _ _ rfl hG (fun j' v' _ hf => hf)
          · intro l a W hs ho hG hd hne K' hK
            have e1 : a.tmps[59]?.getD undef = (u1) := hd ⟨1, .data⟩ (by simp) rfl
            clear hd ho hne
            go_simp
            go_at_call 105
            (with_reducible refine (H1 W).mono ?_)
            rintro e W2 hr
            obtain ⟨h, rfl, ht, hin, hx⟩ := hr.weak hG hbX
            go_simp
            exact hK _ _ ⟨h, rfl, ht, hin⟩ (hG.trans hx) (fun j' v' _ hf => hoF_ext hx hf)
          · intro l a W hs ho hG hd hne K' hK
            have bb : a.tmps[9]?.getD undef = .pointer (some ⟨w.heap.size + 1, 0, none⟩) := ho.ev 9 rfl
            clear hd ho hne
            go_simp
            exact hK _ _ rfl hG (fun j' v' _ hf => hf)
          · intro l a W hs ho hG hd hne K' hK
            have e3 : a.tmps[61]?.getD undef = (.pointer (some ⟨w.heap.size + 1, 1, none⟩)) := hd ⟨3, .data⟩ (by simp) rfl
            have hc := hG.cell c1
            clear hd ho hne
            go_simp
            exact hK _ _ rfl hG (fun j' v' _ hf => hf)
          · intro l a W hs ho hG hd hne K' hK
            have e4 : a.tmps[62]?.getD undef = (u2) := hd ⟨4, .data⟩ (by simp) rfl
            clear hd ho hne
            go_simp
            go_at_call 119
            (with_reducible refine (H2 W).mono ?_)
            rintro e W2 hr
            obtain ⟨h, rfl, ht, hin, hx⟩ := hr.weak hG hbX
            go_simp
            exact hK _ _ ⟨h, rfl, ht, hin⟩ (hG.trans hx) (fun j' v' _ hf => hoF_ext hx hf)
          · intro l a W hs ho hG hd hne K' hK
            have d2 : TreeAt w.heap.size r1 W (a.tmps[60]?.getD undef) := hd ⟨2, .data⟩ (by simp) rfl
            obtain ⟨h2, e2, t2', i2⟩ := d2
            have d5 : TreeAt w.heap.size r2 W (a.tmps[63]?.getD undef) := hd ⟨5, .data⟩ (by simp) rfl
            obtain ⟨h5, e5, t5', i5⟩ := d5
            clear hd ho hne
            go_simp
            go_at_call 135
            (with_reducible refine (two_calls (w.heap.size < ·) 6 h2 h5 W i2 i5).mono ?_)
            rintro e W2 ⟨h, rfl, ht, hin, hx⟩
            go_simp
            exact hK _ _ ⟨h, rfl, by rw [ht, t2', t5'], hin.weak (fun y hy => hy.elim id (fun hy => Nat.lt_of_lt_of_le hbX (Nat.le_trans hG.le hy)))⟩ (hG.trans hx) (fun j' v' _ hf => hoF_ext hx hf)
        · intro l a W ho hG hall hF K' hK
          have d6 : TreeAt w.heap.size (.mk 6 ⟨#[]⟩ 0 [r1, r2]) W (a.tmps[64]?.getD undef) := hF 6 (by omega)
          obtain ⟨h, e6, ht, hin⟩ := d6
          unfold HT.val at e6
          have b2 : a.tmps[2]?.getD undef = .pointer (some ⟨w.heap.size, 0, none⟩) := ho.ev 2 rfl
          have hdf : a.defers = [] := ho.defers
          have hF4 := hF0.ext hG
          have hxw := hX.trans hG
          obtain ⟨⟨y0, d0⟩, ⟨y1, d1⟩, ⟨y2, d2⟩, ⟨y3, d3⟩, hfz⟩ := hF4.cells
          have HE := Lib.hid (And.intro hF4 (And.intro hxw (And.intro hin ht)))
          clear hF ho hall hG hin ht hF4 hxw
          go_simp
          refine hK _ _ ?_
          go_wp2
          apply bodyPost_ret (v := h.val)
          · exact put4_at HE.out.1 h _ 0 _ 2 rfl (by simpa using b2)
          · exact hdf
          exact ⟨h, rfl, HE.out.2.2.2, ((HE.out.2.2.1.grown (fun y hy => by omega) (put4_grown _ _ _ _ _ _)).weak (fun y hy => by omega)), put4_ext HE.out.2.1 (Nat.le_refl _) _ _ _ _⟩
    | or s l r =>
      exact por_calls s l.tr r.tr l.val r.val w (fun W => ih l W (by simp at hk; omega) hwf.2.1) (fun W => ih r W (by simp at hk; omega) hwf.2.2) (Te.form2 hwf.2.1) (Te.form2 hwf.2.2)
    | whn d l =>
      have H1 := fun W => ih l W (by simp at hk; omega) hwf.2
      have f1 := Te.form (t := l) hwf.2
      clear ih hk hwf
      simp only [Te.val, Te.tr]
      generalize l.val = v1 at *
      generalize l.tr = r1 at *
      obtain ⟨u1, hu1⟩ : ∃ u, u = v1 := ⟨_, rfl⟩
      obtain ⟨X, hXe⟩ : ∃ X, X = (w.alloc fourZ).alloc (.cells #[.int .i64 d, v1] 106) := ⟨_, rfl⟩
      have hs1 : (w.alloc fourZ).heap.size = w.heap.size + 1 := by simp
      have hs : X.heap.size = w.heap.size + 1 + 1 := by rw [hXe]; simp
      have hX : Ext w X := by rw [hXe]; exact ((Ext.refl w).alloc fourZ).alloc _
      have hF0 : Four X w.heap.size := by rw [hXe]; exact (four_at (w := w)).ext ((Ext.refl _).alloc _)
      have c0 : X.cell? ⟨w.heap.size + 1, 0, none⟩ = some (.int .i64 d) := by rw [hXe, ← hs1]; exact World.cell?_alloc_new (w.alloc fourZ) #[.int .i64 d, v1] 106 0
      have c1 : X.cell? ⟨w.heap.size + 1, 1, none⟩ = some (u1) := by rw [hXe, hu1, ← hs1]; exact World.cell?_alloc_new (w.alloc fourZ) #[.int .i64 d, v1] 106 1
      have hbX : w.heap.size < X.heap.size := by omega
      rw [← hu1] at H1
      have hXe := Lib.hid hXe
      clear hs hs1 hu1
      rcases f1 with rfl | ⟨t1, x1, rfl⟩
      all_goals
        go_enter Try.func119, Try.ntmps119
        go_upto_region 24 with fail
        rw [← hXe.out]
        clear hXe
        refine wp_region_slots 7 [0, 1, 2, 3, 4, 5, 6] _ [68, 69, 70, 71, 72, 73, 74] (hoF w.heap.size [(.val (.pointer (some ⟨w.heap.size + 1, 0, none⟩))), (.val (.int .i64 d)), (.val (.pointer (some ⟨w.heap.size + 1, 1, none⟩))), (.val (u1)), (.tree r1), (.row [r1]), (.tree (.mk 7 ⟨#[]⟩ d [r1]))]) (fun _ W => Ext X W) (by kernel_rfl) rfl (by kernel_rfl) (by kernel_rfl) rfl rfl rfl (by decide) rfl ?_ ?_ ?_
        · exact (Ext.refl _).drew
        · refine slots_cons rfl ?_ (slots_cons rfl ?_ (slots_cons rfl ?_ (slots_cons rfl ?_ (slots_cons rfl ?_ (slots_cons rfl ?_ (slots_cons rfl ?_ slots_nil))))))
          · intro l a W hs ho hG hd hne K' hK
            have bb : a.tmps[10]?.getD undef = .pointer (some ⟨w.heap.size + 1, 0, none⟩) := ho.ev 10 rfl
            clear hd ho hne
            go_simp
            exact hK _ _ rfl hG (fun j' v' _ hf => hf)
          · intro l a W hs ho hG hd hne K' hK
            have e0 : a.tmps[68]?.getD undef = (.pointer (some ⟨w.heap.size + 1, 0, none⟩)) := hd ⟨0, .data⟩ (by simp) rfl
            have hc := hG.cell c0
            clear hd ho hne
            go_simp
            exact hK _ _ rfl hG (fun j' v' _ hf => hf)
          · intro l a W hs ho hG hd hne K' hK
            have bb : a.tmps[10]?.getD undef = .pointer (some ⟨w.heap.size + 1, 0, none⟩) := ho.ev 10 rfl
            clear hd ho hne
            go_simp
            exact hK _ _ rfl hG (fun j' v' _ hf => hf)
          · intro l a W hs ho hG hd hne K' hK
            have e2 : a.tmps[70]?.getD undef = (.pointer (some ⟨w.heap.size + 1, 1, none⟩)) := hd ⟨2, .data⟩ (by simp) rfl
            have hc := hG.cell c1
            clear hd ho hne
            go_simp
            exact hK _ _ rfl hG (fun j' v' _ hf => hf)
          · intro l a W hs ho hG hd hne K' hK
            have e3 : a.tmps[71]?.getD undef = (u1) := hd ⟨3, .data⟩ (by simp) rfl
            clear hd ho hne
            go_simp
            go_at_call 119
            (with_reducible refine (H1 W).mono ?_)
            rintro e W2 hr
            obtain ⟨h, rfl, ht, hin, hx⟩ := hr.weak hG hbX
            go_simp
            exact hK _ _ ⟨h, rfl, ht, hin⟩ (hG.trans hx) (fun j' v' _ hf => hoF_ext hx hf)
          · intro l a W hs ho hG hd hne K' hK
            have d4 : TreeAt w.heap.size r1 W (a.tmps[72]?.getD undef) := hd ⟨4, .data⟩ (by simp) rfl
            obtain ⟨h4, e4, t4', i4⟩ := d4
            unfold HT.val at e4
            have hRn := RowAt.new (b := w.heap.size) (W := W) [h4] (Nat.lt_of_lt_of_le hbX hG.le) (by intro x hx; simp only [List.mem_cons, List.not_mem_nil, or_false] at hx; rcases hx with rfl <;> assumption) #[.int .i64 h4.kd, .string h4.s, .int .i64 h4.n, .slice h4.a h4.k.length h4.c] rfl 1 rfl (by unfold maxLen; omega)
            simp only [List.map_cons, List.map_nil, t4'] at hRn
            have hRn := Lib.hid hRn
            clear hd ho hne i4 t4'
            go_simp
            exact hK _ _ hRn.out (hG.alloc _) (fun j' v' _ hf => hoF_ext ((Ext.refl W).alloc _) hf)
          · intro l a W hs ho hG hd hne K' hK
            have d5 : RowAt w.heap.size [r1] W (a.tmps[73]?.getD undef) := hd ⟨5, .data⟩ (by simp) rfl
            have e1 : a.tmps[69]?.getD undef = (.int .i64 d) := hd ⟨1, .data⟩ (by simp) rfl
            have hT := d5.tree 7 ⟨#[]⟩ d
            obtain ⟨g, L, eR, -⟩ := d5
            rw [eR] at hT
            have hT := Lib.hid hT
            clear hd ho hne
            go_simp
            exact hK _ _ hT.out hG (fun j' v' _ hf => hf)
        · intro l a W ho hG hall hF K' hK
          have d6 : TreeAt w.heap.size (.mk 7 ⟨#[]⟩ d [r1]) W (a.tmps[74]?.getD undef) := hF 6 (by omega)
          obtain ⟨h, e6, ht, hin⟩ := d6
          unfold HT.val at e6
          have b2 : a.tmps[2]?.getD undef = .pointer (some ⟨w.heap.size, 0, none⟩) := ho.ev 2 rfl
          have hdf : a.defers = [] := ho.defers
          have hF4 := hF0.ext hG
          have hxw := hX.trans hG
          obtain ⟨⟨y0, d0⟩, ⟨y1, d1⟩, ⟨y2, d2⟩, ⟨y3, d3⟩, hfz⟩ := hF4.cells
          have HE := Lib.hid (And.intro hF4 (And.intro hxw (And.intro hin ht)))
          clear hF ho hall hG hin ht hF4 hxw
          go_simp
          refine hK _ _ ?_
          go_wp2
          apply bodyPost_ret (v := h.val)
          · exact put4_at HE.out.1 h _ 0 _ 2 rfl (by simpa using b2)
          · exact hdf
          exact ⟨h, rfl, HE.out.2.2.2, ((HE.out.2.2.1.grown (fun y hy => by omega) (put4_grown _ _ _ _ _ _)).weak (fun y hy => by omega)), put4_ext HE.out.2.1 (Nat.le_refl _) _ _ _ _⟩
    | cond o l r =>
      have H1 := fun W => pobs_calls _ o W (Nat.lt_succ_self _) hwf.1
      have f1 := Ob.form (o := o) hwf.1
      have H2 := fun W => ih l W (by simp at hk; omega) hwf.2.1
      have f2 := Te.form (t := l) hwf.2.1
      have H3 := fun W => ih r W (by simp at hk; omega) hwf.2.2
      have f3 := Te.form (t := r) hwf.2.2
      clear ih hk hwf
      simp only [Te.val, Te.tr]
      generalize o.val = v1 at *
      generalize o.tr = r1 at *
      generalize l.val = v2 at *
      generalize l.tr = r2 at *
      generalize r.val = v3 at *
      generalize r.tr = r3 at *
      obtain ⟨u1, hu1⟩ : ∃ u, u = v1 := ⟨_, rfl⟩
      obtain ⟨u2, hu2⟩ : ∃ u, u = v2 := ⟨_, rfl⟩
      obtain ⟨u3, hu3⟩ : ∃ u, u = v3 := ⟨_, rfl⟩
      obtain ⟨X, hXe⟩ : ∃ X, X = (w.alloc fourZ).alloc (.cells #[v1, v2, v3] 110) := ⟨_, rfl⟩
      have hs1 : (w.alloc fourZ).heap.size = w.heap.size + 1 := by simp
      have hs : X.heap.size = w.heap.size + 1 + 1 := by rw [hXe]; simp
      have hX : Ext w X := by rw [hXe]; exact ((Ext.refl w).alloc fourZ).alloc _
      have hF0 : Four X w.heap.size := by rw [hXe]; exact (four_at (w := w)).ext ((Ext.refl _).alloc _)
      have c0 : X.cell? ⟨w.heap.size + 1, 0, none⟩ = some (u1) := by rw [hXe, hu1, ← hs1]; exact World.cell?_alloc_new (w.alloc fourZ) #[v1, v2, v3] 110 0
      have c1 : X.cell? ⟨w.heap.size + 1, 1, none⟩ = some (u2) := by rw [hXe, hu2, ← hs1]; exact World.cell?_alloc_new (w.alloc fourZ) #[v1, v2, v3] 110 1
      have c2 : X.cell? ⟨w.heap.size + 1, 2, none⟩ = some (u3) := by rw [hXe, hu3, ← hs1]; exact World.cell?_alloc_new (w.alloc fourZ) #[v1, v2, v3] 110 2
      have hbX : w.heap.size < X.heap.size := by omega
      rw [← hu1] at H1
      rw [← hu2] at H2
      rw [← hu3] at H3
      have hXe := Lib.hid hXe
      clear hs hs1 hu1 hu2 hu3
      rcases f1 with rfl | ⟨t1, x1, rfl⟩ <;> rcases f2 with rfl | ⟨t2, x2, rfl⟩ <;> rcases f3 with rfl | ⟨t3, x3, rfl⟩
      all_goals
        go_enter Try.func119, Try.ntmps119
        go_upto_region 27 with fail
        rw [← hXe.out]
        clear hXe
        refine wp_region_slots 11 [0, 1, 2, 3, 4, 5, 6, 7, 8, 9, 10] _ [78, 79, 80, 81, 82, 83, 84, 85, 86, 87, 88] (hoF w.heap.size [(.val (.pointer (some ⟨w.heap.size + 1, 0, none⟩))), (.val (u1)), (.tree r1), (.val (.pointer (some ⟨w.heap.size + 1, 1, none⟩))), (.val (u2)), (.tree r2), (.val (.pointer (some ⟨w.heap.size + 1, 2, none⟩))), (.val (u3)), (.tree r3), (.row [r1, r2, r3]), (.tree (.mk 8 ⟨#[]⟩ 0 [r1, r2, r3]))]) (fun _ W => Ext X W) (by kernel_rfl) rfl (by kernel_rfl) (by kernel_rfl) rfl rfl rfl (by decide) rfl ?_ ?_ ?_
        · exact (Ext.refl _).drew
        · refine slots_cons rfl ?_ (slots_cons rfl ?_ (slots_cons rfl ?_ (slots_cons rfl ?_ (slots_cons rfl ?_ (slots_cons rfl ?_ (slots_cons rfl ?_ (slots_cons rfl ?_ (slots_cons rfl ?_ (slots_cons rfl ?_ (slots_cons rfl ?_ slots_nil))))))))))
          · intro l a W hs ho hG hd hne K' hK
            have bb : a.tmps[11]?.getD undef = .pointer (some ⟨w.heap.size + 1, 0, none⟩) := ho.ev 11 rfl
            clear hd ho hne
            go_simp
            exact hK _ _ rfl hG (fun j' v' _ hf => hf)
          · intro l a W hs ho hG hd hne K' hK
            have e0 : a.tmps[78]?.getD undef = (.pointer (some ⟨w.heap.size + 1, 0, none⟩)) := hd ⟨0, .data⟩ (by simp) rfl
            have hc := hG.cell c0
            clear hd ho hne
            go_simp
            exact hK _ _ rfl hG (fun j' v' _ hf => hf)
          · intro l a W hs ho hG hd hne K' hK
            have e1 : a.tmps[79]?.getD undef = (u1) := hd ⟨1, .data⟩ (by simp) rfl
            clear hd ho hne
            go_simp
            go_at_call 105
            (with_reducible refine (H1 W).mono ?_)
            rintro e W2 hr
            obtain ⟨h, rfl, ht, hin, hx⟩ := hr.weak hG hbX
            go_simp
            exact hK _ _ ⟨h, rfl, ht, hin⟩ (hG.trans hx) (fun j' v' _ hf => hoF_ext hx hf)
          · intro l a W hs ho hG hd hne K' hK
            have bb : a.tmps[11]?.getD undef = .pointer (some ⟨w.heap.size + 1, 0, none⟩) := ho.ev 11 rfl
            clear hd ho hne
            go_simp
            exact hK _ _ rfl hG (fun j' v' _ hf => hf)
          · intro l a W hs ho hG hd hne K' hK
            have e3 : a.tmps[81]?.getD undef = (.pointer (some ⟨w.heap.size + 1, 1, none⟩)) := hd ⟨3, .data⟩ (by simp) rfl
            have hc := hG.cell c1
            clear hd ho hne
            go_simp
            exact hK _ _ rfl hG (fun j' v' _ hf => hf)
          · intro l a W hs ho hG hd hne K' hK
            have e4 : a.tmps[82]?.getD undef = (u2) := hd ⟨4, .data⟩ (by simp) rfl
            clear hd ho hne
            go_simp
            go_at_call 119
            (with_reducible refine (H2 W).mono ?_)
            rintro e W2 hr
            obtain ⟨h, rfl, ht, hin, hx⟩ := hr.weak hG hbX
            go_simp
            exact hK _ _ ⟨h, rfl, ht, hin⟩ (hG.trans hx) (fun j' v' _ hf => hoF_ext hx hf)
          · intro l a W hs ho hG hd hne K' hK
            have bb : a.tmps[11]?.getD undef = .pointer (some ⟨w.heap.size + 1, 0, none⟩) := ho.ev 11 rfl
            clear hd ho hne
            go_simp
            exact hK _ _ rfl hG (fun j' v' _ hf => hf)
          · intro l a W hs ho hG hd hne K' hK
            have e6 : a.tmps[84]?.getD undef = (.pointer (some ⟨w.heap.size + 1, 2, none⟩)) := hd ⟨6, .data⟩ (by simp) rfl
            have hc := hG.cell c2
            clear hd ho hne
            go_simp
            exact hK _ _ rfl hG (fun j' v' _ hf => hf)
          · intro l a W hs ho hG hd hne K' hK
            have e7 : a.tmps[85]?.getD undef = (u3) := hd ⟨7, .data⟩ (by simp) rfl
            clear hd ho hne
            go_simp
            go_at_call 119
            (with_reducible refine (H3 W).mono ?_)
            rintro e W2 hr
            obtain ⟨h, rfl, ht, hin, hx⟩ := hr.weak hG hbX
            go_simp
            exact hK _ _ ⟨h, rfl, ht, hin⟩ (hG.trans hx) (fun j' v' _ hf => hoF_ext hx hf)
          · intro l a W hs ho hG hd hne K' hK
            have d2 : TreeAt w.heap.size r1 W (a.tmps[80]?.getD undef) := hd ⟨2, .data⟩ (by simp) rfl
            obtain ⟨h2, e2, t2', i2⟩ := d2
            unfold HT.val at e2
            have d5 : TreeAt w.heap.size r2 W (a.tmps[83]?.getD undef) := hd ⟨5, .data⟩ (by simp) rfl
            obtain ⟨h5, e5, t5', i5⟩ := d5
            unfold HT.val at e5
            have d8 : TreeAt w.heap.size r3 W (a.tmps[86]?.getD undef) := hd ⟨8, .data⟩ (by simp) rfl
            obtain ⟨h8, e8, t8', i8⟩ := d8
            unfold HT.val at e8
            have hRn := RowAt.new (b := w.heap.size) (W := W) [h2, h5, h8] (Nat.lt_of_lt_of_le hbX hG.le) (by intro x hx; simp only [List.mem_cons, List.not_mem_nil, or_false] at hx; rcases hx with rfl | rfl | rfl <;> assumption) #[.int .i64 h2.kd, .string h2.s, .int .i64 h2.n, .slice h2.a h2.k.length h2.c, .int .i64 h5.kd, .string h5.s, .int .i64 h5.n, .slice h5.a h5.k.length h5.c, .int .i64 h8.kd, .string h8.s, .int .i64 h8.n, .slice h8.a h8.k.length h8.c] rfl 3 rfl (by unfold maxLen; omega)
            simp only [List.map_cons, List.map_nil, t2', t5', t8'] at hRn
            have hRn := Lib.hid hRn
            clear hd ho hne i2 t2' i5 t5' i8 t8'
            go_simp
            exact hK _ _ hRn.out (hG.alloc _) (fun j' v' _ hf => hoF_ext ((Ext.refl W).alloc _) hf)
          · intro l a W hs ho hG hd hne K' hK
            have d9 : RowAt w.heap.size [r1, r2, r3] W (a.tmps[87]?.getD undef) := hd ⟨9, .data⟩ (by simp) rfl
            have hT := d9.tree 8 ⟨#[]⟩ 0
            obtain ⟨g, L, eR, -⟩ := d9
            rw [eR] at hT
            have hT := Lib.hid hT
            clear hd ho hne
            go_simp
            exact hK _ _ hT.out hG (fun j' v' _ hf => hf)
        · intro l a W ho hG hall hF K' hK
          have d6 : TreeAt w.heap.size (.mk 8 ⟨#[]⟩ 0 [r1, r2, r3]) W (a.tmps[88]?.getD undef) := hF 10 (by omega)
          obtain ⟨h, e6, ht, hin⟩ := d6
          unfold HT.val at e6
          have b2 : a.tmps[2]?.getD undef = .pointer (some ⟨w.heap.size, 0, none⟩) := ho.ev 2 rfl
          have hdf : a.defers = [] := ho.defers
          have hF4 := hF0.ext hG
          have hxw := hX.trans hG
          obtain ⟨⟨y0, d0⟩, ⟨y1, d1⟩, ⟨y2, d2⟩, ⟨y3, d3⟩, hfz⟩ := hF4.cells
          have HE := Lib.hid (And.intro hF4 (And.intro hxw (And.intro hin ht)))
          clear hF ho hall hG hin ht hF4 hxw
          go_simp
          refine hK _ _ ?_
          go_wp2
          apply bodyPost_ret (v := h.val)
          · exact put4_at HE.out.1 h _ 0 _ 2 rfl (by simpa using b2)
          · exact hdf
          exact ⟨h, rfl, HE.out.2.2.2, ((HE.out.2.2.1.grown (fun y hy => by omega) (put4_grown _ _ _ _ _ _)).weak (fun y hy => by omega)), put4_ext HE.out.2.1 (Nat.le_refl _) _ _ _ _⟩

end Go.Proofs.Ytgjjngkmbplijaa
