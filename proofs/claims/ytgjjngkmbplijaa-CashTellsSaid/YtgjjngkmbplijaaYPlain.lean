/- Package play: two; a number of api's as a tree (PlainObs). -/
import Derived.Test.YtgjjngkmbplijaaYPlayObs
import Derived.Test.YtgjjngkmbplijaaYRegAll
import Derived.Deep.CutRange

namespace Go.Proofs.Ytgjjngkmbplijaa
open Go.RowKit
set_option linter.unusedSimpArgs false
set_option linter.unusedVariables false

/-- A tree comes back whose parts lie in blocks of q's, or in new ones; nothing that was there has turned. -/
def RetHq (q : Nat → Prop) (w : World) (t : Tr) (e : Ending) (w' : World) : Prop := ∃ h : HT, e = .returned h.val ∧ h.tr = t ∧ h.In (fun y => q y ∨ w.heap.size ≤ y) w' ∧ Ext w w'
theorem four_at {w : World} : Four (w.alloc fourZ) w.heap.size := ⟨_, _, _, _, heap_alloc_new _ _⟩

set_option maxRecDepth 100000 in
set_option maxHeartbeats 1600000 in
theorem two_calls (q : Nat → Prop) (kd : Int) (h1 h2 : HT) (w : World) (hi1 : h1.In q w) (hi2 : h2.In q w) :
    Calls Try.prog 135 #[.int .i64 kd, h1.val, h2.val] w fun e w' => RetHq q w (.mk kd ⟨#[]⟩ 0 [h1.tr, h2.tr]) e w' := by
  unfold HT.val
  go_enter Try.func135, Try.ntmps135
  go_wp2
  generalize hA : Obj.cells #[.int .i64 h1.kd, .string h1.s, .int .i64 h1.n, .slice h1.a h1.k.length h1.c] 76 = A
  generalize hB : Obj.cells #[.int .i64 h2.kd, .string h2.s, .int .i64 h2.n, .slice h2.a h2.k.length h2.c] 76 = B
  have hs : ((w.alloc A).alloc B).heap.size = w.heap.size + 1 + 1 := by simp
  have hx : Ext w ((w.alloc A).alloc B) := ((Ext.refl w).alloc _).alloc _
  clear hA hB
  generalize ((w.alloc A).alloc B) = X at *
  obtain ⟨C, hC⟩ : ∃ C, C = Obj.cells #[.int .i64 kd, .string ⟨#[]⟩, .int .i64 0, .slice (some ⟨w.heap.size + 1 + 1 + 1, 0, none⟩) 2 2] 76 := ⟨_, rfl⟩
  rw [← hC]
  have hC2 : (X.alloc C).heap[w.heap.size + 1 + 1]? = some C := by rw [← hs]; exact heap_alloc_new _ _
  have hs2 : (X.alloc C).heap.size = w.heap.size + 1 + 1 + 1 := by simp [hs]
  have hx2 : Ext w (X.alloc C) := hx.alloc _
  generalize X.alloc C = Y at *
  have hD : ((Y.alloc (.cells #[.int .i64 h1.kd, .string h1.s, .int .i64 h1.n, .slice h1.a h1.k.length h1.c, .int .i64 h2.kd, .string h2.s, .int .i64 h2.n, .slice h2.a h2.k.length h2.c] 76))).heap[w.heap.size + 1 + 1 + 1]? = some (.cells #[.int .i64 h1.kd, .string h1.s, .int .i64 h1.n, .slice h1.a h1.k.length h1.c, .int .i64 h2.kd, .string h2.s, .int .i64 h2.n, .slice h2.a h2.k.length h2.c] 76 (0, 0)) := by rw [← hs2]; exact heap_alloc_new _ _
  have hx3 : Ext Y (Y.alloc (.cells #[.int .i64 h1.kd, .string h1.s, .int .i64 h1.n, .slice h1.a h1.k.length h1.c, .int .i64 h2.kd, .string h2.s, .int .i64 h2.n, .slice h2.a h2.k.length h2.c] 76)) := (Ext.refl Y).alloc _
  generalize (Y.alloc (.cells #[.int .i64 h1.kd, .string h1.s, .int .i64 h1.n, .slice h1.a h1.k.length h1.c, .int .i64 h2.kd, .string h2.s, .int .i64 h2.n, .slice h2.a h2.k.length h2.c] 76)) = Z at *
  have hx4 := hx2.trans hx3
  have hbB : BlkAt Z (w.heap.size + 1 + 1) (w.heap.size + 1 + 1 + 1) _ _ := ⟨by omega, hD⟩
  have hrd : Rd Z 4 (some ⟨w.heap.size + 1 + 1 + 1, 0, none⟩) [h1, h2].length (cellsL [h1, h2]) := hbB.rd (by rw [cellsL_two]; rfl) (cellsL_len _)
  have hin : (HT.mk kd ⟨#[]⟩ 0 (some ⟨w.heap.size + 1 + 1 + 1, 0, none⟩) 2 [h1, h2]).In (fun y => q y ∨ w.heap.size ≤ y) Z :=
    .mk _ _ _ _ _ _ hrd (Nat.le_refl _) (by unfold maxLen; omega) (fun ad e => by injection e with e; subst e; exact ⟨.inr (by simp only; omega), rfl⟩) (fun x hx => by
      rcases List.mem_cons.1 hx with rfl | hx
      · exact (hi1.ext hx4).weak (fun y h => .inl h)
      · rw [List.mem_singleton.1 hx]; exact (hi2.ext hx4).weak (fun y h => .inl h))
  have hCZ := hx3.obj hC2
  rw [hC] at hCZ
  apply bodyPost_ret (v := (HT.mk kd ⟨#[]⟩ 0 (some ⟨w.heap.size + 1 + 1 + 1, 0, none⟩) 2 [h1, h2]).val)
  · exact results_cell_row rfl _ _ (w.heap.size + 1 + 1) _ _ _ _ rfl hCZ Try.underlying76 rfl (by kernel_rfl)
  · rfl
  exact ⟨_, rfl, rfl, hin, hx4⟩

/-- A tree, its parts in blocks behind b. -/
def TreeAt (b : Nat) (t : Tr) (W : World) (v : Value) : Prop := ∃ h : HT, v = h.val ∧ h.tr = t ∧ h.In (b < ·) W
theorem TreeAt.ext {b : Nat} {t : Tr} {w w' : World} {v : Value} (h : TreeAt b t w v) (hx : Ext w w') : TreeAt b t w' v := by
  obtain ⟨h, e, ht, hi⟩ := h
  exact ⟨h, e, ht, hi.ext hx⟩
def plF (b B j1 j2 : Nat) (lv rv : Value) (lt rt t : Tr) : Nat → World → Value → Prop
  | 0, _, v => v = .pointer (some ⟨B, j1, none⟩)
  | 1, _, v => v = lv
  | 2, W, v => TreeAt b lt W v
  | 3, _, v => v = .pointer (some ⟨B, j2, none⟩)
  | 4, _, v => v = rv
  | 5, W, v => TreeAt b rt W v
  | 6, W, v => TreeAt b t W v
  | _, _, _ => True
theorem plF_ext {b B j1 j2 : Nat} {lv rv : Value} {lt rt t : Tr} {w w' : World} (i : Nat) (v : Value) (hx : Ext w w') (h : plF b B j1 j2 lv rv lt rt t i w v) : plF b B j1 j2 lv rv lt rt t i w' v := by
  match i, h with
  | 0, h => exact h
  | 1, h => exact h
  | 2, h => exact TreeAt.ext h hx
  | 3, h => exact h
  | 4, h => exact h
  | 5, h => exact TreeAt.ext h hx
  | 6, h => exact TreeAt.ext h hx
  | _ + 7, _ => trivial
theorem RetH.weak {w X : World} {t : Tr} {e : Ending} {w' : World} {b : Nat} (h : RetH w t e w') (hx : Ext X w) (hb : b < X.heap.size) : ∃ h : HT, e = .returned h.val ∧ h.tr = t ∧ h.In (b < ·) w' ∧ Ext w w' := by
  obtain ⟨h, e, ht, hi, hx2⟩ := h
  exact ⟨h, e, ht, hi.weak (fun y hy => by have := hx.le; omega), hx2⟩

theorem put4_size (w : World) (b : Nat) (kd : Int) (s : ByteArray) (n : Int) (sl : Value) : (put4 w b kd s n sl).heap.size = w.heap.size := by simp [put4, World.setCell]
/-- A tree with one part: the row of the part in a new block, the tree in its cells. -/
theorem one_end {w w5 : World} (hx5 : Ext w w5) (hF : Four w5 w.heap.size) (hb5 : w.heap.size < w5.heap.size) (kd : Int) (s : ByteArray) (n : Int) (h : HT) (hin : h.In (w.heap.size < ·) w5) {W : World}
    (hW : W = (put4 w5 w.heap.size kd s n (.slice (some ⟨w5.heap.size, 0, none⟩) 1 1)).alloc (.cells #[.int .i64 h.kd, .string h.s, .int .i64 h.n, .slice h.a h.k.length h.c] 76)) :
    W.heap[w.heap.size]? = some (.cells #[.int .i64 kd, .string s, .int .i64 n, .slice (some ⟨w5.heap.size, 0, none⟩) 1 1] 76 (0, 0)) ∧
      (HT.mk kd s n (some ⟨w5.heap.size, 0, none⟩) 1 [h]).In (w.heap.size ≤ ·) W ∧ Ext w W := by
  have hp := hF.put kd s n (.slice (some ⟨w5.heap.size, 0, none⟩) 1 1)
  have hi2 := hin.grown (fun y hy => by omega) (put4_grown w5 w.heap.size kd s n (.slice (some ⟨w5.heap.size, 0, none⟩) 1 1))
  have hx2 := put4_ext hx5 (Nat.le_refl _) kd s n (.slice (some ⟨w5.heap.size, 0, none⟩) 1 1)
  have hsz := put4_size w5 w.heap.size kd s n (.slice (some ⟨w5.heap.size, 0, none⟩) 1 1)
  generalize put4 w5 w.heap.size kd s n (.slice (some ⟨w5.heap.size, 0, none⟩) 1 1) = Y at *
  subst hW
  have hx3 : Ext Y (Y.alloc (.cells #[.int .i64 h.kd, .string h.s, .int .i64 h.n, .slice h.a h.k.length h.c] 76)) := (Ext.refl Y).alloc _
  have hD : (Y.alloc (.cells #[.int .i64 h.kd, .string h.s, .int .i64 h.n, .slice h.a h.k.length h.c] 76)).heap[w5.heap.size]? = some (.cells #[.int .i64 h.kd, .string h.s, .int .i64 h.n, .slice h.a h.k.length h.c] 76 (0, 0)) := by rw [← hsz]; exact heap_alloc_new _ _
  have hbB : BlkAt (Y.alloc (.cells #[.int .i64 h.kd, .string h.s, .int .i64 h.n, .slice h.a h.k.length h.c] 76)) w.heap.size w5.heap.size _ _ := ⟨hb5, hD⟩
  refine ⟨hx3.obj hp, .mk _ _ _ _ _ _ (hbB.rd (by rw [cellsL_one]; rfl) (cellsL_len [h])) (Nat.le_refl _) (by unfold maxLen; omega) (fun ad e => by injection e with e; subst e; exact ⟨by simp only; omega, rfl⟩) (fun x hx => ?_), hx2.trans hx3⟩
  rw [List.mem_singleton.1 hx]
  exact (hi2.ext hx3).weak (fun y hy => by omega)

set_option maxRecDepth 100000 in
set_option maxHeartbeats 3200000 in
theorem pobs_calls (k : Nat) : ∀ (o : Ob) (w : World), SizeOf.sizeOf o < k → o.wf → Calls Try.prog 105 #[o.val] w fun e w' => RetH w o.tr e w' := by
  induction k with
  | zero => intro o w h; omega
  | succ k ih =>
    intro o w hk hwf
    cases o with
    | const n =>
      clear ih
      simp only [Ob.val, Ob.tr]
      go_enter Try.func105, Try.ntmps105
      go_wp2
      apply bodyPost_ret (v := (HT.mk 11 ⟨#[]⟩ n none 0 []).val)
      · exact results_cell_row rfl _ _ w.heap.size _ _ _ _ rfl (((Ext.refl _).alloc _).obj (heap_alloc_new _ _)) Try.underlying76 rfl (by kernel_rfl)
      · rfl
      exact ⟨_, rfl, rfl, HT.leaf_in _ _ _ _ _, ((Ext.refl w).alloc _).alloc _⟩
    | fix s =>
      clear ih
      simp only [Ob.val, Ob.tr]
      go_enter Try.func105, Try.ntmps105
      go_wp2
      apply bodyPost_ret (v := (HT.mk 12 s 0 none 0 []).val)
      · exact results_cell_row rfl _ _ w.heap.size _ _ _ _ rfl (((Ext.refl _).alloc _).obj (heap_alloc_new _ _)) Try.underlying76 rfl (by kernel_rfl)
      · rfl
      exact ⟨_, rfl, rfl, HT.leaf_in _ _ _ _ _, ((Ext.refl w).alloc _).alloc _⟩
    | odd v =>
      clear ih
      simp only [Ob.val, Ob.tr]
      rcases hwf with rfl | ⟨t, x, rfl, q1, q2, q3, q4, q5, q6⟩
      all_goals
        go_enter Try.func105, Try.ntmps105
        go_wp2
        apply bodyPost_ret (v := (HT.mk 0 ⟨#[]⟩ 0 none 0 []).val)
        · exact results_cell_row rfl _ _ w.heap.size _ _ _ _ rfl (heap_alloc_new _ _) Try.underlying76 rfl (by kernel_rfl)
        · rfl
        exact ⟨_, rfl, rfl, HT.leaf_in _ _ _ _ _, (Ext.refl w).alloc _⟩
    | neg o =>
      have H1 := fun W => ih o W (by simp at hk; omega) hwf
      have f1 := Ob.form (o := o) hwf
      clear ih hk hwf
      simp only [Ob.val, Ob.tr]
      generalize o.val = lv at *
      generalize o.tr = lt at *
      rcases f1 with rfl | ⟨t1, x1, rfl⟩
      all_goals
        go_enter Try.func105, Try.ntmps105
        (go_wp2_with fail; (with_reducible refine (H1 _).mono ?_); rintro e w5 ⟨h, rfl, ht, hin, hx⟩)
        unfold HT.val
        have hx5 : Ext w w5 := ((by repeat' (first | (with_reducible exact Ext.refl _) | (with_reducible assumption) | (with_reducible refine Ext.alloc ?_ _) | (with_reducible refine Ext.drew ?_) | (with_reducible refine Ext.drewN ?_ _) | (with_reducible refine Ext.setCell ?_ (by first | exact Nat.le_refl _ | (simp; done) | (simp; omega) | omega) _) | (with_reducible refine Ext.trans ?_ (by assumption)))))
        have hF := (four_at (w := w)).ext (Ext.trans ((Ext.refl _).alloc _) hx)
        obtain ⟨⟨y0, d0⟩, ⟨y1, d1⟩, ⟨y2, d2⟩, ⟨y3, d3⟩, hfz⟩ := hF.cells
        have hb5 : w.heap.size < w5.heap.size := by have := hx.le; (try simp at this); omega
        have hin2 := hin.weak (q' := (w.heap.size < ·)) (fun y hy => by simp at hy; omega)
        have HE := Lib.hid (And.intro hx5 (And.intro hF (And.intro hb5 (And.intro hin2 ht))))
        clear hx hx5 hF hin hin2 ht
        go_wp2
        have hZ := one_end HE.out.1 HE.out.2.1 HE.out.2.2.1 14 ⟨#[]⟩ 0 h HE.out.2.2.2.1 rfl
        apply bodyPost_ret (v := (HT.mk 14 ⟨#[]⟩ 0 (some ⟨w5.heap.size, 0, none⟩) 1 [h]).val)
        · exact results_cell_row rfl _ _ w.heap.size _ _ _ _ rfl hZ.1 Try.underlying76 rfl (by kernel_rfl)
        · rfl
        exact ⟨_, rfl, by rw [← HE.out.2.2.2.2]; rfl, hZ.2.1, hZ.2.2⟩
    | add l r =>
      have H1 := fun W => ih l W (by simp at hk; omega) hwf.1
      have H2 := fun W => ih r W (by simp at hk; omega) hwf.2
      obtain ⟨f1, f2⟩ := And.intro (Ob.form hwf.1) (Ob.form hwf.2)
      clear ih hk hwf
      simp only [Ob.val, Ob.tr]
      generalize l.val = v1 at *
      generalize r.val = v2 at *
      generalize l.tr = lt at *
      generalize r.tr = rt at *
      obtain ⟨lv, hlv⟩ : ∃ lv, lv = v1 := ⟨_, rfl⟩
      obtain ⟨rv, hrv⟩ : ∃ rv, rv = v2 := ⟨_, rfl⟩
      obtain ⟨X, hXe⟩ : ∃ X, X = (w.alloc fourZ).alloc (.cells #[v1, v2] 55) := ⟨_, rfl⟩
      have hs1 : (w.alloc fourZ).heap.size = w.heap.size + 1 := by simp
      have hs : X.heap.size = w.heap.size + 1 + 1 := by rw [hXe]; simp
      have hX : Ext w X := by rw [hXe]; exact ((Ext.refl w).alloc fourZ).alloc _
      have hF0 : Four X w.heap.size := by rw [hXe]; exact (four_at (w := w)).ext ((Ext.refl _).alloc _)
      have c0 : X.cell? ⟨w.heap.size + 1, 0, none⟩ = some lv := by rw [hXe, hlv, ← hs1]; exact World.cell?_alloc_new (w.alloc fourZ) #[v1, v2] 55 0
      have c1 : X.cell? ⟨w.heap.size + 1, 1, none⟩ = some rv := by rw [hXe, hrv, ← hs1]; exact World.cell?_alloc_new (w.alloc fourZ) #[v1, v2] 55 1
      have hbX : w.heap.size < X.heap.size := by omega
      rw [← hlv] at H1
      rw [← hrv] at H2
      have hXe := Lib.hid hXe
      clear hs hs1 hlv hrv
      rcases f1 with rfl | ⟨t1, x1, rfl⟩ <;> rcases f2 with rfl | ⟨t2, x2, rfl⟩
      all_goals
        go_enter Try.func105, Try.ntmps105
        go_upto_region 10 with fail
        rw [← hXe.out]
        clear hXe
        refine wp_region_slots 7 [0, 1, 2, 3, 4, 5, 6] _ [25, 26, 27, 28, 29, 30, 31] (plF w.heap.size (w.heap.size + 1) 0 1 lv rv lt rt (.mk 13 ⟨#[]⟩ 0 [lt, rt])) (fun _ W => Ext X W) (by kernel_rfl) rfl (by kernel_rfl) (by kernel_rfl) rfl rfl rfl (by decide) rfl ?_ ?_ ?_
        · exact (Ext.refl _).drew
        · refine slots_cons rfl ?_ (slots_cons rfl ?_ (slots_cons rfl ?_ (slots_cons rfl ?_ (slots_cons rfl ?_ (slots_cons rfl ?_ (slots_cons rfl ?_ slots_nil))))))
          · intro l a W hs ho hG hd hne K' hK
            have b5 : a.tmps[5]?.getD undef = .pointer (some ⟨w.heap.size + 1, 0, none⟩) := ho.ev 5 rfl
            clear hd ho hne
            go_simp
            exact hK _ _ rfl hG (fun j' v' _ hf => hf)
          · intro l a W hs ho hG hd hne K' hK
            have e0 : a.tmps[25]?.getD undef = .pointer (some ⟨w.heap.size + 1, 0, none⟩) := hd ⟨0, .data⟩ (by simp) rfl
            have hc := hG.cell c0
            clear hd ho hne
            go_simp
            exact hK _ _ rfl hG (fun j' v' _ hf => hf)
          · intro l a W hs ho hG hd hne K' hK
            have e1 : a.tmps[26]?.getD undef = _ := hd ⟨1, .data⟩ (by simp) rfl
            clear hd ho hne
            go_simp
            go_at_call 105
            (with_reducible refine (H1 W).mono ?_)
            rintro e W2 hr
            obtain ⟨h, rfl, ht, hin, hx⟩ := hr.weak hG hbX
            go_simp
            exact hK _ _ ⟨h, rfl, ht, hin⟩ (hG.trans hx) (fun j' v' _ hf => plF_ext j' v' hx hf)
          · intro l a W hs ho hG hd hne K' hK
            have b5 : a.tmps[5]?.getD undef = .pointer (some ⟨w.heap.size + 1, 0, none⟩) := ho.ev 5 rfl
            clear hd ho hne
            go_simp
            exact hK _ _ rfl hG (fun j' v' _ hf => hf)
          · intro l a W hs ho hG hd hne K' hK
            have e3 : a.tmps[28]?.getD undef = .pointer (some ⟨w.heap.size + 1, 1, none⟩) := hd ⟨3, .data⟩ (by simp) rfl
            have hc := hG.cell c1
            clear hd ho hne
            go_simp
            exact hK _ _ rfl hG (fun j' v' _ hf => hf)
          · intro l a W hs ho hG hd hne K' hK
            have e4 : a.tmps[29]?.getD undef = _ := hd ⟨4, .data⟩ (by simp) rfl
            clear hd ho hne
            go_simp
            go_at_call 105
            (with_reducible refine (H2 W).mono ?_)
            rintro e W2 hr
            obtain ⟨h, rfl, ht, hin, hx⟩ := hr.weak hG hbX
            go_simp
            exact hK _ _ ⟨h, rfl, ht, hin⟩ (hG.trans hx) (fun j' v' _ hf => plF_ext j' v' hx hf)
          · intro l a W hs ho hG hd hne K' hK
            have d2 := hd ⟨2, .data⟩ (by simp) rfl
            obtain ⟨h1, e2, t1', i1⟩ := d2
            replace e2 : a.tmps[27]?.getD undef = h1.val := e2
            have d5 := hd ⟨5, .data⟩ (by simp) rfl
            obtain ⟨h2, e5, t2', i2⟩ := d5
            replace e5 : a.tmps[30]?.getD undef = h2.val := e5
            clear hd ho hne
            go_simp
            go_at_call 135
            (with_reducible refine (two_calls (w.heap.size < ·) 13 h1 h2 W i1 i2).mono ?_)
            rintro e W2 ⟨h, rfl, ht, hin, hx⟩
            go_simp
            exact hK _ _ ⟨h, rfl, by rw [ht, t1', t2'], hin.weak (fun y hy => hy.elim id (fun hy => Nat.lt_of_lt_of_le hbX (Nat.le_trans hG.le hy)))⟩ (hG.trans hx) (fun j' v' _ hf => plF_ext j' v' hx hf)
        · intro l a W ho hG hall hF K' hK
          have d6 := hF 6 (by omega)
          obtain ⟨h, e6, ht, hin⟩ := d6
          unfold HT.val at e6
          replace e6 : a.tmps[31]?.getD undef = .agg #[.int .i64 h.kd, .string h.s, .int .i64 h.n, .slice h.a h.k.length h.c] := e6
          have b2 : a.tmps[2]?.getD undef = .pointer (some ⟨w.heap.size, 0, none⟩) := ho.ev 2 rfl
          have hdf : a.defers = [] := ho.defers
          have hF4 := hF0.ext hG
          have hxw := hX.trans hG
          obtain ⟨⟨y0, d0⟩, ⟨y1, d1⟩, ⟨y2, d2⟩, ⟨y3, d3⟩, hfz⟩ := hF4.cells
          have HE := Lib.hid (And.intro hF4 (And.intro hxw (And.intro hin ht)))
          clear hF ho hall hG hin ht hF4 hxw
          go_simp
          refine hK _ _ ?_
          go_wp2
          apply bodyPost_ret (v := h.val)
          · exact put4_at HE.out.1 h _ 0 _ 2 rfl (by simpa using b2)
          · exact hdf
          exact ⟨h, rfl, HE.out.2.2.2, ((HE.out.2.2.1.grown (fun y hy => by omega) (put4_grown _ _ _ _ _ _)).weak (fun y hy => by omega)), put4_ext HE.out.2.1 (Nat.le_refl _) _ _ _ _⟩

    | mul l r =>
      have H1 := fun W => ih l W (by simp at hk; omega) hwf.1
      have H2 := fun W => ih r W (by simp at hk; omega) hwf.2
      obtain ⟨f1, f2⟩ := And.intro (Ob.form hwf.1) (Ob.form hwf.2)
      clear ih hk hwf
      simp only [Ob.val, Ob.tr]
      generalize l.val = v1 at *
      generalize r.val = v2 at *
      generalize l.tr = lt at *
      generalize r.tr = rt at *
      obtain ⟨lv, hlv⟩ : ∃ lv, lv = v1 := ⟨_, rfl⟩
      obtain ⟨rv, hrv⟩ : ∃ rv, rv = v2 := ⟨_, rfl⟩
      obtain ⟨X, hXe⟩ : ∃ X, X = (w.alloc fourZ).alloc (.cells #[v1, v2] 68) := ⟨_, rfl⟩
      have hs1 : (w.alloc fourZ).heap.size = w.heap.size + 1 := by simp
      have hs : X.heap.size = w.heap.size + 1 + 1 := by rw [hXe]; simp
      have hX : Ext w X := by rw [hXe]; exact ((Ext.refl w).alloc fourZ).alloc _
      have hF0 : Four X w.heap.size := by rw [hXe]; exact (four_at (w := w)).ext ((Ext.refl _).alloc _)
      have c0 : X.cell? ⟨w.heap.size + 1, 0, none⟩ = some lv := by rw [hXe, hlv, ← hs1]; exact World.cell?_alloc_new (w.alloc fourZ) #[v1, v2] 68 0
      have c1 : X.cell? ⟨w.heap.size + 1, 1, none⟩ = some rv := by rw [hXe, hrv, ← hs1]; exact World.cell?_alloc_new (w.alloc fourZ) #[v1, v2] 68 1
      have hbX : w.heap.size < X.heap.size := by omega
      rw [← hlv] at H1
      rw [← hrv] at H2
      have hXe := Lib.hid hXe
      clear hs hs1 hlv hrv
      rcases f1 with rfl | ⟨t1, x1, rfl⟩ <;> rcases f2 with rfl | ⟨t2, x2, rfl⟩
      all_goals
        go_enter Try.func105, Try.ntmps105
        go_upto_region 16 with fail
        rw [← hXe.out]
        clear hXe
        refine wp_region_slots 7 [0, 1, 2, 3, 4, 5, 6] _ [43, 44, 45, 46, 47, 48, 49] (plF w.heap.size (w.heap.size + 1) 0 1 lv rv lt rt (.mk 15 ⟨#[]⟩ 0 [lt, rt])) (fun _ W => Ext X W) (by kernel_rfl) rfl (by kernel_rfl) (by kernel_rfl) rfl rfl rfl (by decide) rfl ?_ ?_ ?_
        · exact (Ext.refl _).drew
        · refine slots_cons rfl ?_ (slots_cons rfl ?_ (slots_cons rfl ?_ (slots_cons rfl ?_ (slots_cons rfl ?_ (slots_cons rfl ?_ (slots_cons rfl ?_ slots_nil))))))
          · intro l a W hs ho hG hd hne K' hK
            have b7 : a.tmps[7]?.getD undef = .pointer (some ⟨w.heap.size + 1, 0, none⟩) := ho.ev 7 rfl
            clear hd ho hne
            go_simp
            exact hK _ _ rfl hG (fun j' v' _ hf => hf)
          · intro l a W hs ho hG hd hne K' hK
            have e0 : a.tmps[43]?.getD undef = .pointer (some ⟨w.heap.size + 1, 0, none⟩) := hd ⟨0, .data⟩ (by simp) rfl
            have hc := hG.cell c0
            clear hd ho hne
            go_simp
            exact hK _ _ rfl hG (fun j' v' _ hf => hf)
          · intro l a W hs ho hG hd hne K' hK
            have e1 : a.tmps[44]?.getD undef = _ := hd ⟨1, .data⟩ (by simp) rfl
            clear hd ho hne
            go_simp
            go_at_call 105
            (with_reducible refine (H1 W).mono ?_)
            rintro e W2 hr
            obtain ⟨h, rfl, ht, hin, hx⟩ := hr.weak hG hbX
            go_simp
            exact hK _ _ ⟨h, rfl, ht, hin⟩ (hG.trans hx) (fun j' v' _ hf => plF_ext j' v' hx hf)
          · intro l a W hs ho hG hd hne K' hK
            have b7 : a.tmps[7]?.getD undef = .pointer (some ⟨w.heap.size + 1, 0, none⟩) := ho.ev 7 rfl
            clear hd ho hne
            go_simp
            exact hK _ _ rfl hG (fun j' v' _ hf => hf)
          · intro l a W hs ho hG hd hne K' hK
            have e3 : a.tmps[46]?.getD undef = .pointer (some ⟨w.heap.size + 1, 1, none⟩) := hd ⟨3, .data⟩ (by simp) rfl
            have hc := hG.cell c1
            clear hd ho hne
            go_simp
            exact hK _ _ rfl hG (fun j' v' _ hf => hf)
          · intro l a W hs ho hG hd hne K' hK
            have e4 : a.tmps[47]?.getD undef = _ := hd ⟨4, .data⟩ (by simp) rfl
            clear hd ho hne
            go_simp
            go_at_call 105
            (with_reducible refine (H2 W).mono ?_)
            rintro e W2 hr
            obtain ⟨h, rfl, ht, hin, hx⟩ := hr.weak hG hbX
            go_simp
            exact hK _ _ ⟨h, rfl, ht, hin⟩ (hG.trans hx) (fun j' v' _ hf => plF_ext j' v' hx hf)
          · intro l a W hs ho hG hd hne K' hK
            have d2 := hd ⟨2, .data⟩ (by simp) rfl
            obtain ⟨h1, e2, t1', i1⟩ := d2
            replace e2 : a.tmps[45]?.getD undef = h1.val := e2
            have d5 := hd ⟨5, .data⟩ (by simp) rfl
            obtain ⟨h2, e5, t2', i2⟩ := d5
            replace e5 : a.tmps[48]?.getD undef = h2.val := e5
            clear hd ho hne
            go_simp
            go_at_call 135
            (with_reducible refine (two_calls (w.heap.size < ·) 15 h1 h2 W i1 i2).mono ?_)
            rintro e W2 ⟨h, rfl, ht, hin, hx⟩
            go_simp
            exact hK _ _ ⟨h, rfl, by rw [ht, t1', t2'], hin.weak (fun y hy => hy.elim id (fun hy => Nat.lt_of_lt_of_le hbX (Nat.le_trans hG.le hy)))⟩ (hG.trans hx) (fun j' v' _ hf => plF_ext j' v' hx hf)
        · intro l a W ho hG hall hF K' hK
          have d6 := hF 6 (by omega)
          obtain ⟨h, e6, ht, hin⟩ := d6
          unfold HT.val at e6
          replace e6 : a.tmps[49]?.getD undef = .agg #[.int .i64 h.kd, .string h.s, .int .i64 h.n, .slice h.a h.k.length h.c] := e6
          have b2 : a.tmps[2]?.getD undef = .pointer (some ⟨w.heap.size, 0, none⟩) := ho.ev 2 rfl
          have hdf : a.defers = [] := ho.defers
          have hF4 := hF0.ext hG
          have hxw := hX.trans hG
          obtain ⟨⟨y0, d0⟩, ⟨y1, d1⟩, ⟨y2, d2⟩, ⟨y3, d3⟩, hfz⟩ := hF4.cells
          have HE := Lib.hid (And.intro hF4 (And.intro hxw (And.intro hin ht)))
          clear hF ho hall hG hin ht hF4 hxw
          go_simp
          refine hK _ _ ?_
          go_wp2
          apply bodyPost_ret (v := h.val)
          · exact put4_at HE.out.1 h _ 0 _ 2 rfl (by simpa using b2)
          · exact hdf
          exact ⟨h, rfl, HE.out.2.2.2, ((HE.out.2.2.1.grown (fun y hy => by omega) (put4_grown _ _ _ _ _ _)).weak (fun y hy => by omega)), put4_ext HE.out.2.1 (Nat.le_refl _) _ _ _ _⟩

    | max l r =>
      have H1 := fun W => ih l W (by simp at hk; omega) hwf.1
      have H2 := fun W => ih r W (by simp at hk; omega) hwf.2
      obtain ⟨f1, f2⟩ := And.intro (Ob.form hwf.1) (Ob.form hwf.2)
      clear ih hk hwf
      simp only [Ob.val, Ob.tr]
      generalize l.val = v1 at *
      generalize r.val = v2 at *
      generalize l.tr = lt at *
      generalize r.tr = rt at *
      obtain ⟨lv, hlv⟩ : ∃ lv, lv = v1 := ⟨_, rfl⟩
      obtain ⟨rv, hrv⟩ : ∃ rv, rv = v2 := ⟨_, rfl⟩
      obtain ⟨X, hXe⟩ : ∃ X, X = (w.alloc fourZ).alloc (.cells #[v1, v2] 79) := ⟨_, rfl⟩
      have hs1 : (w.alloc fourZ).heap.size = w.heap.size + 1 := by simp
      have hs : X.heap.size = w.heap.size + 1 + 1 := by rw [hXe]; simp
      have hX : Ext w X := by rw [hXe]; exact ((Ext.refl w).alloc fourZ).alloc _
      have hF0 : Four X w.heap.size := by rw [hXe]; exact (four_at (w := w)).ext ((Ext.refl _).alloc _)
      have c0 : X.cell? ⟨w.heap.size + 1, 0, none⟩ = some lv := by rw [hXe, hlv, ← hs1]; exact World.cell?_alloc_new (w.alloc fourZ) #[v1, v2] 79 0
      have c1 : X.cell? ⟨w.heap.size + 1, 1, none⟩ = some rv := by rw [hXe, hrv, ← hs1]; exact World.cell?_alloc_new (w.alloc fourZ) #[v1, v2] 79 1
      have hbX : w.heap.size < X.heap.size := by omega
      rw [← hlv] at H1
      rw [← hrv] at H2
      have hXe := Lib.hid hXe
      clear hs hs1 hlv hrv
      rcases f1 with rfl | ⟨t1, x1, rfl⟩ <;> rcases f2 with rfl | ⟨t2, x2, rfl⟩
      all_goals
        go_enter Try.func105, Try.ntmps105
        go_upto_region 19 with fail
        rw [← hXe.out]
        clear hXe
        refine wp_region_slots 7 [0, 1, 2, 3, 4, 5, 6] _ [53, 54, 55, 56, 57, 58, 59] (plF w.heap.size (w.heap.size + 1) 0 1 lv rv lt rt (.mk 16 ⟨#[]⟩ 0 [lt, rt])) (fun _ W => Ext X W) (by kernel_rfl) rfl (by kernel_rfl) (by kernel_rfl) rfl rfl rfl (by decide) rfl ?_ ?_ ?_
        · exact (Ext.refl _).drew
        · refine slots_cons rfl ?_ (slots_cons rfl ?_ (slots_cons rfl ?_ (slots_cons rfl ?_ (slots_cons rfl ?_ (slots_cons rfl ?_ (slots_cons rfl ?_ slots_nil))))))
          · intro l a W hs ho hG hd hne K' hK
            have b8 : a.tmps[8]?.getD undef = .pointer (some ⟨w.heap.size + 1, 0, none⟩) := ho.ev 8 rfl
            clear hd ho hne
            go_simp
            exact hK _ _ rfl hG (fun j' v' _ hf => hf)
          · intro l a W hs ho hG hd hne K' hK
            have e0 : a.tmps[53]?.getD undef = .pointer (some ⟨w.heap.size + 1, 0, none⟩) := hd ⟨0, .data⟩ (by simp) rfl
            have hc := hG.cell c0
            clear hd ho hne
            go_simp
            exact hK _ _ rfl hG (fun j' v' _ hf => hf)
          · intro l a W hs ho hG hd hne K' hK
            have e1 : a.tmps[54]?.getD undef = _ := hd ⟨1, .data⟩ (by simp) rfl
            clear hd ho hne
            go_simp
            go_at_call 105
            (with_reducible refine (H1 W).mono ?_)
            rintro e W2 hr
            obtain ⟨h, rfl, ht, hin, hx⟩ := hr.weak hG hbX
            go_simp
            exact hK _ _ ⟨h, rfl, ht, hin⟩ (hG.trans hx) (fun j' v' _ hf => plF_ext j' v' hx hf)
          · intro l a W hs ho hG hd hne K' hK
            have b8 : a.tmps[8]?.getD undef = .pointer (some ⟨w.heap.size + 1, 0, none⟩) := ho.ev 8 rfl
            clear hd ho hne
            go_simp
            exact hK _ _ rfl hG (fun j' v' _ hf => hf)
          · intro l a W hs ho hG hd hne K' hK
            have e3 : a.tmps[56]?.getD undef = .pointer (some ⟨w.heap.size + 1, 1, none⟩) := hd ⟨3, .data⟩ (by simp) rfl
            have hc := hG.cell c1
            clear hd ho hne
            go_simp
            exact hK _ _ rfl hG (fun j' v' _ hf => hf)
          · intro l a W hs ho hG hd hne K' hK
            have e4 : a.tmps[57]?.getD undef = _ := hd ⟨4, .data⟩ (by simp) rfl
            clear hd ho hne
            go_simp
            go_at_call 105
            (with_reducible refine (H2 W).mono ?_)
            rintro e W2 hr
            obtain ⟨h, rfl, ht, hin, hx⟩ := hr.weak hG hbX
            go_simp
            exact hK _ _ ⟨h, rfl, ht, hin⟩ (hG.trans hx) (fun j' v' _ hf => plF_ext j' v' hx hf)
          · intro l a W hs ho hG hd hne K' hK
            have d2 := hd ⟨2, .data⟩ (by simp) rfl
            obtain ⟨h1, e2, t1', i1⟩ := d2
            replace e2 : a.tmps[55]?.getD undef = h1.val := e2
            have d5 := hd ⟨5, .data⟩ (by simp) rfl
            obtain ⟨h2, e5, t2', i2⟩ := d5
            replace e5 : a.tmps[58]?.getD undef = h2.val := e5
            clear hd ho hne
            go_simp
            go_at_call 135
            (with_reducible refine (two_calls (w.heap.size < ·) 16 h1 h2 W i1 i2).mono ?_)
            rintro e W2 ⟨h, rfl, ht, hin, hx⟩
            go_simp
            exact hK _ _ ⟨h, rfl, by rw [ht, t1', t2'], hin.weak (fun y hy => hy.elim id (fun hy => Nat.lt_of_lt_of_le hbX (Nat.le_trans hG.le hy)))⟩ (hG.trans hx) (fun j' v' _ hf => plF_ext j' v' hx hf)
        · intro l a W ho hG hall hF K' hK
          have d6 := hF 6 (by omega)
          obtain ⟨h, e6, ht, hin⟩ := d6
          unfold HT.val at e6
          replace e6 : a.tmps[59]?.getD undef = .agg #[.int .i64 h.kd, .string h.s, .int .i64 h.n, .slice h.a h.k.length h.c] := e6
          have b2 : a.tmps[2]?.getD undef = .pointer (some ⟨w.heap.size, 0, none⟩) := ho.ev 2 rfl
          have hdf : a.defers = [] := ho.defers
          have hF4 := hF0.ext hG
          have hxw := hX.trans hG
          obtain ⟨⟨y0, d0⟩, ⟨y1, d1⟩, ⟨y2, d2⟩, ⟨y3, d3⟩, hfz⟩ := hF4.cells
          have HE := Lib.hid (And.intro hF4 (And.intro hxw (And.intro hin ht)))
          clear hF ho hall hG hin ht hF4 hxw
          go_simp
          refine hK _ _ ?_
          go_wp2
          apply bodyPost_ret (v := h.val)
          · exact put4_at HE.out.1 h _ 0 _ 2 rfl (by simpa using b2)
          · exact hdf
          exact ⟨h, rfl, HE.out.2.2.2, ((HE.out.2.2.1.grown (fun y hy => by omega) (put4_grown _ _ _ _ _ _)).weak (fun y hy => by omega)), put4_ext HE.out.2.1 (Nat.le_refl _) _ _ _ _⟩


end Go.Proofs.Ytgjjngkmbplijaa
