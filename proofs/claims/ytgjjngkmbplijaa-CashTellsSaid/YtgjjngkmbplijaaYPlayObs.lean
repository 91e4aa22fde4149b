/- Package play: the number of a plan; a number of api's of its tree. -/
import Derived.Test.YtgjjngkmbplijaaYMaker2
import Derived.Deep.RegionHeld3

namespace Go.Proofs.Ytgjjngkmbplijaa
open Go.RowKit
set_option linter.unusedSimpArgs false
set_option linter.unusedVariables false

/-- A tree comes back; nothing that was there has turned. -/
def RetH (w : World) (t : Tr) (e : Ending) (w' : World) : Prop := ∃ h : HT, e = .returned h.val ∧ h.tr = t ∧ h.In (w.heap.size ≤ ·) w' ∧ Ext w w'
theorem put4_ext {w w2 : World} {b : Nat} (h : Ext w w2) (hb : w.heap.size ≤ b) (kd : Int) (s : ByteArray) (n : Int) (sl : Value) : Ext w (put4 w2 b kd s n sl) :=
  (((h.setCell (p := ⟨b, 0, none⟩) hb _).setCell (p := ⟨b, 1, none⟩) hb _).setCell (p := ⟨b, 2, none⟩) hb _).setCell (p := ⟨b, 3, none⟩) hb _
theorem put4_at {w2 : World} {b : Nat} (hF : Four w2 b) (t : HT) (fn : Func) (T : TypeId) (tmps : Array Value) (k : Nat) (hr : fn.results = #[.cell k 76]) (ht : tmps.getD k undef = .pointer (some ⟨b, 0, none⟩)) :
    (results fn tmps).run Try.prog (put4 w2 b t.kd t.s t.n (.slice t.a t.k.length t.c)) = .ok t.val (put4 w2 b t.kd t.s t.n (.slice t.a t.k.length t.c)) :=
  results_cell_row hr tmps _ b _ _ _ _ ht (hF.put _ _ _ _) Try.underlying76 rfl (by kernel_rfl)

theorem Pl.In.weak {q q' : Nat → Prop} {w : World} {p : Pl} (h : p.In q w) (hq : ∀ b, q b → q' b) : p.In q' w := ⟨h.rn, h.nc, h.cm, h.wf, h.rw, h.nc2, h.cm2, h.wf2, fun ad e hn => hq _ (h.qn ad e hn), fun ad e hn => hq _ (h.qw ad e hn)⟩
theorem mk_new {w W : World} {p : Pl} (hp : p.In (· < w.heap.size) w) (hx : Ext w W) (left : Int) : Mk (W.alloc (.cells #[.slice p.a p.n p.c, .slice p.a2 p.n2 p.c2, .int .i64 0, .int .i64 left, .int .i64 0] 192)) W.heap.size p 0 left 0 :=
  ⟨heap_alloc_new _ _, ((hp.ext hx).ext ((Ext.refl W).alloc _)).weak (fun y hy => Nat.lt_of_lt_of_le hy hx.le)⟩

set_option maxRecDepth 100000 in
set_option maxHeartbeats 800000 in
theorem number_calls (p : Pl) (w : World) (hp : p.In (· < w.heap.size) w) : Calls Try.prog 54 #[p.val] w fun e w' => RetH w (obsT p 4 0 16).1 e w' := by
  have hx : Ext w ((w.alloc (.cells #[.slice p.a p.n p.c, .slice p.a2 p.n2 p.c2] 72)).alloc fourZ) := ((Ext.refl w).alloc _).alloc _
  have hM := mk_new hp hx 16
  have hs : ((w.alloc (.cells #[.slice p.a p.n p.c, .slice p.a2 p.n2 p.c2] 72)).alloc fourZ).heap.size = w.heap.size + 1 + 1 := by simp
  have hF : Four ((w.alloc (.cells #[.slice p.a p.n p.c, .slice p.a2 p.n2 p.c2] 72)).alloc fourZ) (w.heap.size + 1) := ⟨_, _, _, _, by
    have h := heap_alloc_new (w.alloc (.cells #[.slice p.a p.n p.c, .slice p.a2 p.n2 p.c2] 72)) fourZ
    have e : (w.alloc (.cells #[.slice p.a p.n p.c, .slice p.a2 p.n2 p.c2] 72)).heap.size = w.heap.size + 1 := by simp
    rwa [e] at h⟩
  rw [hs] at hM
  have hF2 := hF.ext ((Ext.refl _).alloc (.cells #[.slice p.a p.n p.c, .slice p.a2 p.n2 p.c2, .int .i64 0, .int .i64 16, .int .i64 0] 192))
  have hx2 := hx.alloc (.cells #[.slice p.a p.n p.c, .slice p.a2 p.n2 p.c2, .int .i64 0, .int .i64 16, .int .i64 0] 192)
  have H := mobs_calls p 0 4 _ _ 0 16 hM (by decide) (by decide) (by decide) (by decide)
  have hs2 := hx2.le
  rw [show ((4 : Nat) : Int) = 4 from rfl] at H
  have HH := Lib.hid (And.intro hF2 hx2)
  have HL := Lib.hid hs2
  clear hp hx hM hs hF hF2 hx2 hs2
  unfold Pl.val
  generalize obsT p 4 0 16 = r at *
  go_enter Try.func54, Try.ntmps54
  (go_wp2_with fail; (with_reducible refine (H).mono ?_); rintro e w' ⟨t, rfl, ht, hin, hM2, hg2⟩)
  clear H hM2
  have hF3 := HH.out.1.grown hg2 (by omega)
  have hx3 := HH.out.2.grown hg2 (fun k e => by injection e with e; omega)
  have hin2 := hin.weak (q' := fun x => w.heap.size ≤ x ∧ x ≠ w.heap.size + 1) (fun y hy => by simp at hy; omega)
  obtain ⟨⟨y0, d0⟩, ⟨y1, d1⟩, ⟨y2, d2⟩, ⟨y3, d3⟩, hfz⟩ := hF3.cells
  have HE := Lib.hid (And.intro hF3 (And.intro hx3 (And.intro hin2 ht)))
  clear hF3 hx3 hin hin2 hg2 ht
  unfold HT.val
  go_wp2
  apply bodyPost_ret (v := t.val)
  · exact put4_at HE.out.1 t _ 0 _ 2 rfl rfl
  · rfl
  exact ⟨t, rfl, HE.out.2.2.2, ((HE.out.2.2.1.grown (fun y hy => hy.2) (put4_grown _ _ _ _ _ _)).weak (fun y hy => hy.1)), put4_ext HE.out.2.1 (by omega) _ _ _ _⟩

/-- A value comes back; nothing that was there has turned. -/
def RetV (w : World) (v : Value) (e : Ending) (w' : World) : Prop := e = .returned v ∧ Ext w w'
theorem map_two {k : List HT} {l r : Tr} (h : k.map HT.tr = [l, r]) : ∃ x y, k = [x, y] ∧ x.tr = l ∧ y.tr = r := by
  match k, h with
  | [x, y], h => simp at h; exact ⟨x, y, rfl, h.1, h.2⟩
theorem map_one {k : List HT} {l : Tr} (h : k.map HT.tr = [l]) : ∃ x, k = [x] ∧ x.tr = l := by
  match k, h with
  | [x], h => simp at h; exact ⟨x, rfl, h⟩
theorem map_three {k : List HT} {l r t : Tr} (h : k.map HT.tr = [l, r, t]) : ∃ x y z, k = [x, y, z] ∧ x.tr = l ∧ y.tr = r ∧ z.tr = t := by
  match k, h with
  | [x, y, z], h => simp at h; exact ⟨x, y, z, rfl, h.1, h.2.1, h.2.2⟩
/-- The contract of Obs at a tree. -/
def ObsAt (t : Tr) (o : Ob) : Prop := o.wf → ∀ (h : HT) (q : Nat → Prop) (w : World), h.tr = t → h.In q w → Calls Try.prog 53 #[h.val] w fun e w' => RetV w o.val e w'

set_option maxRecDepth 100000 in
set_option maxHeartbeats 800000 in
theorem pobs_none (kd : Int) (s : ByteArray) (n : Int) (k : List Tr) (hk : kd < 11 ∨ 16 < kd) : ObsAt (.mk kd s n k) (.odd .nilIface) := by
  intro _ h q w ht hin
  obtain ⟨h1, h2, h3, h4⟩ := HT.tr_inv ht
  unfold HT.val
  rw [h1, h2, h3]
  clear h1 h2 h3 h4 hin ht
  have u1 : (kd == 11) = false := by simp; omega
  have u2 : (kd == 12) = false := by simp; omega
  have u3 : (kd == 13) = false := by simp; omega
  have u4 : (kd == 14) = false := by simp; omega
  have u5 : (kd == 15) = false := by simp; omega
  have u6 : (kd == 16) = false := by simp; omega
  clear hk
  simp only [Ob.val]
  go_enter Try.func53, Try.ntmps53
  go_wp2
  go_ret
  exact ⟨rfl, (by repeat' (first | (with_reducible exact Ext.refl _) | (with_reducible assumption) | (with_reducible refine Ext.alloc ?_ _) | (with_reducible refine Ext.drew ?_) | (with_reducible refine Ext.drewN ?_ _) | (with_reducible refine Ext.setCell ?_ (by first | exact Nat.le_refl _ | (simp; done) | (simp; omega) | omega) _) | (with_reducible refine Ext.trans ?_ (by assumption))))⟩
set_option maxRecDepth 100000 in
set_option maxHeartbeats 800000 in
theorem pobs_const (s : ByteArray) (n : Int) (k : List Tr) : ObsAt (.mk 11 s n k) (.const n) := by
  intro _ h q w ht hin
  obtain ⟨h1, h2, h3, h4⟩ := HT.tr_inv ht
  unfold HT.val
  rw [h1, h2, h3]
  clear h1 h2 h3 h4 hin ht
  simp only [Ob.val]
  go_enter Try.func53, Try.ntmps53
  go_wp2
  go_ret
  exact ⟨rfl, (by repeat' (first | (with_reducible exact Ext.refl _) | (with_reducible assumption) | (with_reducible refine Ext.alloc ?_ _) | (with_reducible refine Ext.drew ?_) | (with_reducible refine Ext.drewN ?_ _) | (with_reducible refine Ext.setCell ?_ (by first | exact Nat.le_refl _ | (simp; done) | (simp; omega) | omega) _) | (with_reducible refine Ext.trans ?_ (by assumption))))⟩
set_option maxRecDepth 100000 in
set_option maxHeartbeats 800000 in
theorem pobs_fix (s : ByteArray) (n : Int) (k : List Tr) : ObsAt (.mk 12 s n k) (.fix s) := by
  intro _ h q w ht hin
  obtain ⟨h1, h2, h3, h4⟩ := HT.tr_inv ht
  unfold HT.val
  rw [h1, h2, h3]
  clear h1 h2 h3 h4 hin ht
  simp only [Ob.val]
  go_enter Try.func53, Try.ntmps53
  go_wp2
  go_ret
  exact ⟨rfl, (by repeat' (first | (with_reducible exact Ext.refl _) | (with_reducible assumption) | (with_reducible refine Ext.alloc ?_ _) | (with_reducible refine Ext.drew ?_) | (with_reducible refine Ext.drewN ?_ _) | (with_reducible refine Ext.setCell ?_ (by first | exact Nat.le_refl _ | (simp; done) | (simp; omega) | omega) _) | (with_reducible refine Ext.trans ?_ (by assumption))))⟩
set_option maxRecDepth 100000 in
set_option maxHeartbeats 800000 in
theorem pobs_neg (s : ByteArray) (n : Int) (l : Tr) (a : Ob) (ih : ObsAt l a) : ObsAt (.mk 14 s n [l]) (.neg a) := by
  intro hwf h q w ht hin
  obtain ⟨h1, h2, h3, h4⟩ := HT.tr_inv ht
  obtain ⟨x, hk, hx⟩ := map_one h4
  obtain ⟨g, x', ha, hg, hx', hin1, c0, c1, c2, c3⟩ := hin.at (i := 0) (by rw [hk]; simp)
  rw [hk] at hx'
  obtain rfl : x = x' := by simpa using hx'
  have H1 := fun W (hW : Ext w W) => ih hwf x q W hx (hin1.ext hW)
  unfold HT.val at *
  rw [h1, h2, h3, ha, hk]
  simp only [List.length_cons, List.length_nil]
  have hgw := World.block_lt_of_cell? w _ c0
  have hwf' : a.wf := hwf
  clear h1 h2 h3 h4 hin ht hk hx hx' hin1 ih ha hg hwf
  generalize x.kd = k0 at *
  generalize x.s = k1 at *
  generalize x.n = k2 at *
  generalize x.a = k3 at *
  generalize x.k.length = k4 at *
  generalize x.c = k5 at *
  simp only [Ob.val]
  rcases Ob.form hwf' with e | ⟨t1, x1, e⟩ <;>
  ( rw [e] at H1 ⊢
    clear e hwf'
    go_enter Try.func53, Try.ntmps53
    (go_wp2_with fail; (with_reducible refine (H1 _ ((by repeat' (first | (with_reducible exact Ext.refl _) | (with_reducible assumption) | (with_reducible refine Ext.alloc ?_ _) | (with_reducible refine Ext.drew ?_) | (with_reducible refine Ext.drewN ?_ _) | (with_reducible refine Ext.setCell ?_ (by first | exact Nat.le_refl _ | (simp; done) | (simp; omega) | omega) _) | (with_reducible refine Ext.trans ?_ (by assumption)))))).mono ?_); rintro e w' ⟨rfl, hv⟩)
    go_wp2
    go_ret
    exact ⟨rfl, (by repeat' (first | (with_reducible exact Ext.refl _) | (with_reducible assumption) | (with_reducible refine Ext.alloc ?_ _) | (with_reducible refine Ext.drew ?_) | (with_reducible refine Ext.drewN ?_ _) | (with_reducible refine Ext.setCell ?_ (by first | exact Nat.le_refl _ | (simp; done) | (simp; omega) | omega) _) | (with_reducible refine Ext.trans ?_ (by assumption))))⟩)
set_option maxRecDepth 100000 in
set_option maxHeartbeats 1600000 in
theorem pobs_add (s : ByteArray) (n : Int) (l r : Tr) (a b : Ob) (ih1 : ObsAt l a) (ih2 : ObsAt r b) : ObsAt (.mk 13 s n [l, r]) (.add a b) := by
  intro hwf h q w ht hin
  obtain ⟨h1, h2, h3, h4⟩ := HT.tr_inv ht
  obtain ⟨x, y, hk, hx, hy⟩ := map_two h4
  obtain ⟨g, x', ha, hg, hx', hin1, c0, c1, c2, c3⟩ := hin.at (i := 0) (by rw [hk]; simp)
  obtain ⟨g', y', ha', _, hy', hin2, c4, c5, c6, c7⟩ := hin.at (i := 1) (by rw [hk]; simp)
  rw [hk] at hx' hy'
  obtain rfl : x = x' := by simpa using hx'
  obtain rfl : y = y' := by simpa using hy'
  obtain rfl : g = g' := by rw [ha] at ha'; injection ha' with e; injection e
  have H1 := fun W (hW : Ext w W) => ih1 hwf.1 x q W hx (hin1.ext hW)
  have H2 := fun W (hW : Ext w W) => ih2 hwf.2 y q W hy (hin2.ext hW)
  unfold HT.val at *
  rw [h1, h2, h3, ha, hk]
  simp only [List.length_cons, List.length_nil]
  have hgw := World.block_lt_of_cell? w _ c0
  have hf1 := hwf.1
  have hf2 := hwf.2
  clear h1 h2 h3 h4 hin ht hk hx hx' hin1 ih1 ha hg hwf hy hy' hin2 ih2 ha'
  generalize x.kd = k0 at *
  generalize x.s = k1 at *
  generalize x.n = k2 at *
  generalize x.a = k3 at *
  generalize x.k.length = k4 at *
  generalize x.c = k5 at *
  generalize y.kd = m0 at *
  generalize y.s = m1 at *
  generalize y.n = m2 at *
  generalize y.a = m3 at *
  generalize y.k.length = m4 at *
  generalize y.c = m5 at *
  generalize h.c = hc at *
  simp only [Ob.val]
  simp only [Nat.zero_mul, Nat.one_mul, Nat.zero_add, Nat.reduceAdd] at c0 c1 c2 c3 c4 c5 c6 c7 hgw
  rcases Ob.form hf1 with e1 | ⟨t1, x1, e1⟩ <;> rcases Ob.form hf2 with e2 | ⟨t2, x2, e2⟩ <;>
  ( rw [e1] at H1 ⊢
    rw [e2] at H2 ⊢
    clear e1 e2 hf1 hf2
    have hgw2 : g < w.heap.size + 1 := by omega
    go_enter Try.func53, Try.ntmps53
    go_wp2_with fail
    go_region_held3 (fun W => W.cell? ⟨w.heap.size, 3, none⟩ = some (.slice (some ⟨g, 0, none⟩) 2 hc) ∧ W.cell? ⟨g, 0, none⟩ = some (.int .i64 k0) ∧ W.cell? ⟨g, 1, none⟩ = some (.string k1) ∧ W.cell? ⟨g, 2, none⟩ = some (.int .i64 k2) ∧ W.cell? ⟨g, 3, none⟩ = some (.slice k3 k4 k5) ∧ W.cell? ⟨g, 4, none⟩ = some (.int .i64 m0) ∧ W.cell? ⟨g, 5, none⟩ = some (.string m1) ∧ W.cell? ⟨g, 6, none⟩ = some (.int .i64 m2) ∧ W.cell? ⟨g, 7, none⟩ = some (.slice m3 m4 m5)) (go_keep)
      (first | (go_at_call 53; (with_reducible refine (H1 _ ((by repeat' (first | (with_reducible exact Ext.refl _) | (with_reducible assumption) | (with_reducible refine Ext.alloc ?_ _) | (with_reducible refine Ext.drew ?_) | (with_reducible refine Ext.drewN ?_ _) | (with_reducible refine Ext.setCell ?_ (by first | exact Nat.le_refl _ | (simp; done) | (simp; omega) | omega) _) | (with_reducible refine Ext.trans ?_ (by assumption)))))).mono ?_); rintro e w5 ⟨rfl, hv⟩; obtain ⟨hc, hf⟩ := hv.cells; have hgl : g < w5.heap.size := by { have := hv.le; simp at this; omega }; have hbl : w.heap.size < w5.heap.size := by { have := hv.le; simp at this; omega }) | (go_at_call 53; (with_reducible refine (H2 _ ((by repeat' (first | (with_reducible exact Ext.refl _) | (with_reducible assumption) | (with_reducible refine Ext.alloc ?_ _) | (with_reducible refine Ext.drew ?_) | (with_reducible refine Ext.drewN ?_ _) | (with_reducible refine Ext.setCell ?_ (by first | exact Nat.le_refl _ | (simp; done) | (simp; omega) | omega) _) | (with_reducible refine Ext.trans ?_ (by assumption)))))).mono ?_); rintro e w6 ⟨rfl, hv6⟩; obtain ⟨hc6, hf6⟩ := hv6.cells))
    go_wp2
    go_ret
    exact ⟨rfl, (by repeat' (first | (with_reducible exact Ext.refl _) | (with_reducible assumption) | (with_reducible refine Ext.alloc ?_ _) | (with_reducible refine Ext.drew ?_) | (with_reducible refine Ext.drewN ?_ _) | (with_reducible refine Ext.setCell ?_ (by first | exact Nat.le_refl _ | (simp; done) | (simp; omega) | omega) _) | (with_reducible refine Ext.trans ?_ (by assumption))))⟩)
set_option maxRecDepth 100000 in
set_option maxHeartbeats 1600000 in
theorem pobs_mul (s : ByteArray) (n : Int) (l r : Tr) (a b : Ob) (ih1 : ObsAt l a) (ih2 : ObsAt r b) : ObsAt (.mk 15 s n [l, r]) (.mul a b) := by
  intro hwf h q w ht hin
  obtain ⟨h1, h2, h3, h4⟩ := HT.tr_inv ht
  obtain ⟨x, y, hk, hx, hy⟩ := map_two h4
  obtain ⟨g, x', ha, hg, hx', hin1, c0, c1, c2, c3⟩ := hin.at (i := 0) (by rw [hk]; simp)
  obtain ⟨g', y', ha', _, hy', hin2, c4, c5, c6, c7⟩ := hin.at (i := 1) (by rw [hk]; simp)
  rw [hk] at hx' hy'
  obtain rfl : x = x' := by simpa using hx'
  obtain rfl : y = y' := by simpa using hy'
  obtain rfl : g = g' := by rw [ha] at ha'; injection ha' with e; injection e
  have H1 := fun W (hW : Ext w W) => ih1 hwf.1 x q W hx (hin1.ext hW)
  have H2 := fun W (hW : Ext w W) => ih2 hwf.2 y q W hy (hin2.ext hW)
  unfold HT.val at *
  rw [h1, h2, h3, ha, hk]
  simp only [List.length_cons, List.length_nil]
  have hgw := World.block_lt_of_cell? w _ c0
  have hf1 := hwf.1
  have hf2 := hwf.2
  clear h1 h2 h3 h4 hin ht hk hx hx' hin1 ih1 ha hg hwf hy hy' hin2 ih2 ha'
  generalize x.kd = k0 at *
  generalize x.s = k1 at *
  generalize x.n = k2 at *
  generalize x.a = k3 at *
  generalize x.k.length = k4 at *
  generalize x.c = k5 at *
  generalize y.kd = m0 at *
  generalize y.s = m1 at *
  generalize y.n = m2 at *
  generalize y.a = m3 at *
  generalize y.k.length = m4 at *
  generalize y.c = m5 at *
  generalize h.c = hc at *
  simp only [Ob.val]
  simp only [Nat.zero_mul, Nat.one_mul, Nat.zero_add, Nat.reduceAdd] at c0 c1 c2 c3 c4 c5 c6 c7 hgw
  rcases Ob.form hf1 with e1 | ⟨t1, x1, e1⟩ <;> rcases Ob.form hf2 with e2 | ⟨t2, x2, e2⟩ <;>
  ( rw [e1] at H1 ⊢
    rw [e2] at H2 ⊢
    clear e1 e2 hf1 hf2
    have hgw2 : g < w.heap.size + 1 := by omega
    go_enter Try.func53, Try.ntmps53
    go_wp2_with fail
    go_region_held3 (fun W => W.cell? ⟨w.heap.size, 3, none⟩ = some (.slice (some ⟨g, 0, none⟩) 2 hc) ∧ W.cell? ⟨g, 0, none⟩ = some (.int .i64 k0) ∧ W.cell? ⟨g, 1, none⟩ = some (.string k1) ∧ W.cell? ⟨g, 2, none⟩ = some (.int .i64 k2) ∧ W.cell? ⟨g, 3, none⟩ = some (.slice k3 k4 k5) ∧ W.cell? ⟨g, 4, none⟩ = some (.int .i64 m0) ∧ W.cell? ⟨g, 5, none⟩ = some (.string m1) ∧ W.cell? ⟨g, 6, none⟩ = some (.int .i64 m2) ∧ W.cell? ⟨g, 7, none⟩ = some (.slice m3 m4 m5)) (go_keep)
      (first | (go_at_call 53; (with_reducible refine (H1 _ ((by repeat' (first | (with_reducible exact Ext.refl _) | (with_reducible assumption) | (with_reducible refine Ext.alloc ?_ _) | (with_reducible refine Ext.drew ?_) | (with_reducible refine Ext.drewN ?_ _) | (with_reducible refine Ext.setCell ?_ (by first | exact Nat.le_refl _ | (simp; done) | (simp; omega) | omega) _) | (with_reducible refine Ext.trans ?_ (by assumption)))))).mono ?_); rintro e w5 ⟨rfl, hv⟩; obtain ⟨hc, hf⟩ := hv.cells; have hgl : g < w5.heap.size := by { have := hv.le; simp at this; omega }; have hbl : w.heap.size < w5.heap.size := by { have := hv.le; simp at this; omega }) | (go_at_call 53; (with_reducible refine (H2 _ ((by repeat' (first | (with_reducible exact Ext.refl _) | (with_reducible assumption) | (with_reducible refine Ext.alloc ?_ _) | (with_reducible refine Ext.drew ?_) | (with_reducible refine Ext.drewN ?_ _) | (with_reducible refine Ext.setCell ?_ (by first | exact Nat.le_refl _ | (simp; done) | (simp; omega) | omega) _) | (with_reducible refine Ext.trans ?_ (by assumption)))))).mono ?_); rintro e w6 ⟨rfl, hv6⟩; obtain ⟨hc6, hf6⟩ := hv6.cells))
    go_wp2
    go_ret
    exact ⟨rfl, (by repeat' (first | (with_reducible exact Ext.refl _) | (with_reducible assumption) | (with_reducible refine Ext.alloc ?_ _) | (with_reducible refine Ext.drew ?_) | (with_reducible refine Ext.drewN ?_ _) | (with_reducible refine Ext.setCell ?_ (by first | exact Nat.le_refl _ | (simp; done) | (simp; omega) | omega) _) | (with_reducible refine Ext.trans ?_ (by assumption))))⟩)
set_option maxRecDepth 100000 in
set_option maxHeartbeats 1600000 in
theorem pobs_max (s : ByteArray) (n : Int) (l r : Tr) (a b : Ob) (ih1 : ObsAt l a) (ih2 : ObsAt r b) : ObsAt (.mk 16 s n [l, r]) (.max a b) := by
  intro hwf h q w ht hin
  obtain ⟨h1, h2, h3, h4⟩ := HT.tr_inv ht
  obtain ⟨x, y, hk, hx, hy⟩ := map_two h4
  obtain ⟨g, x', ha, hg, hx', hin1, c0, c1, c2, c3⟩ := hin.at (i := 0) (by rw [hk]; simp)
  obtain ⟨g', y', ha', _, hy', hin2, c4, c5, c6, c7⟩ := hin.at (i := 1) (by rw [hk]; simp)
  rw [hk] at hx' hy'
  obtain rfl : x = x' := by simpa using hx'
  obtain rfl : y = y' := by simpa using hy'
  obtain rfl : g = g' := by rw [ha] at ha'; injection ha' with e; injection e
  have H1 := fun W (hW : Ext w W) => ih1 hwf.1 x q W hx (hin1.ext hW)
  have H2 := fun W (hW : Ext w W) => ih2 hwf.2 y q W hy (hin2.ext hW)
  unfold HT.val at *
  rw [h1, h2, h3, ha, hk]
  simp only [List.length_cons, List.length_nil]
  have hgw := World.block_lt_of_cell? w _ c0
  have hf1 := hwf.1
  have hf2 := hwf.2
  clear h1 h2 h3 h4 hin ht hk hx hx' hin1 ih1 ha hg hwf hy hy' hin2 ih2 ha'
  generalize x.kd = k0 at *
  generalize x.s = k1 at *
  generalize x.n = k2 at *
  generalize x.a = k3 at *
  generalize x.k.length = k4 at *
  generalize x.c = k5 at *
  generalize y.kd = m0 at *
  generalize y.s = m1 at *
  generalize y.n = m2 at *
  generalize y.a = m3 at *
  generalize y.k.length = m4 at *
  generalize y.c = m5 at *
  generalize h.c = hc at *
  simp only [Ob.val]
  simp only [Nat.zero_mul, Nat.one_mul, Nat.zero_add, Nat.reduceAdd] at c0 c1 c2 c3 c4 c5 c6 c7 hgw
  rcases Ob.form hf1 with e1 | ⟨t1, x1, e1⟩ <;> rcases Ob.form hf2 with e2 | ⟨t2, x2, e2⟩ <;>
  ( rw [e1] at H1 ⊢
    rw [e2] at H2 ⊢
    clear e1 e2 hf1 hf2
    have hgw2 : g < w.heap.size + 1 := by omega
    go_enter Try.func53, Try.ntmps53
    go_wp2_with fail
    go_region_held3 (fun W => W.cell? ⟨w.heap.size, 3, none⟩ = some (.slice (some ⟨g, 0, none⟩) 2 hc) ∧ W.cell? ⟨g, 0, none⟩ = some (.int .i64 k0) ∧ W.cell? ⟨g, 1, none⟩ = some (.string k1) ∧ W.cell? ⟨g, 2, none⟩ = some (.int .i64 k2) ∧ W.cell? ⟨g, 3, none⟩ = some (.slice k3 k4 k5) ∧ W.cell? ⟨g, 4, none⟩ = some (.int .i64 m0) ∧ W.cell? ⟨g, 5, none⟩ = some (.string m1) ∧ W.cell? ⟨g, 6, none⟩ = some (.int .i64 m2) ∧ W.cell? ⟨g, 7, none⟩ = some (.slice m3 m4 m5)) (go_keep)
      (first | (go_at_call 53; (with_reducible refine (H1 _ ((by repeat' (first | (with_reducible exact Ext.refl _) | (with_reducible assumption) | (with_reducible refine Ext.alloc ?_ _) | (with_reducible refine Ext.drew ?_) | (with_reducible refine Ext.drewN ?_ _) | (with_reducible refine Ext.setCell ?_ (by first | exact Nat.le_refl _ | (simp; done) | (simp; omega) | omega) _) | (with_reducible refine Ext.trans ?_ (by assumption)))))).mono ?_); rintro e w5 ⟨rfl, hv⟩; obtain ⟨hc, hf⟩ := hv.cells; have hgl : g < w5.heap.size := by { have := hv.le; simp at this; omega }; have hbl : w.heap.size < w5.heap.size := by { have := hv.le; simp at this; omega }) | (go_at_call 53; (with_reducible refine (H2 _ ((by repeat' (first | (with_reducible exact Ext.refl _) | (with_reducible assumption) | (with_reducible refine Ext.alloc ?_ _) | (with_reducible refine Ext.drew ?_) | (with_reducible refine Ext.drewN ?_ _) | (with_reducible refine Ext.setCell ?_ (by first | exact Nat.le_refl _ | (simp; done) | (simp; omega) | omega) _) | (with_reducible refine Ext.trans ?_ (by assumption)))))).mono ?_); rintro e w6 ⟨rfl, hv6⟩; obtain ⟨hc6, hf6⟩ := hv6.cells))
    go_wp2
    go_ret
    exact ⟨rfl, (by repeat' (first | (with_reducible exact Ext.refl _) | (with_reducible assumption) | (with_reducible refine Ext.alloc ?_ _) | (with_reducible refine Ext.drew ?_) | (with_reducible refine Ext.drewN ?_ _) | (with_reducible refine Ext.setCell ?_ (by first | exact Nat.le_refl _ | (simp; done) | (simp; omega) | omega) _) | (with_reducible refine Ext.trans ?_ (by assumption))))⟩)
theorem pobs_at {t : Tr} {o : Ob} (h : IsOb t o) : ObsAt t o := by
  induction h with
  | const s n k => exact pobs_const s n k
  | fix s n k => exact pobs_fix s n k
  | add s n l r a b _ _ ih1 ih2 => exact pobs_add s n l r a b ih1 ih2
  | neg s n l a _ ih => exact pobs_neg s n l a ih
  | mul s n l r a b _ _ ih1 ih2 => exact pobs_mul s n l r a b ih1 ih2
  | max s n l r a b _ _ ih1 ih2 => exact pobs_max s n l r a b ih1 ih2
  | none kd s n k hk => exact pobs_none kd s n k hk

end Go.Proofs.Ytgjjngkmbplijaa
