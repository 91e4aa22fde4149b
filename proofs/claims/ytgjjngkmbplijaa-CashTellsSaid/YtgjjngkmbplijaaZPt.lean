/- Texts put together: PlayTerm, PlayTermB, PlayTermC, PlayTermD. -/
import Derived.Test.YtgjjngkmbplijaaYPlayObs
import Derived.Test.YtgjjngkmbplijaaZPl
import Derived.Deep.RegionHeld3
/- Package play: a contract of api's of its tree. -/
namespace Go.Proofs.Ytgjjngkmbplijaa
open Go.RowKit
set_option linter.unusedSimpArgs false
set_option linter.unusedVariables false

/-- The contract of Term at a tree. -/
def TeAt (t : Tr) (o : Te) : Prop := o.wf → ∀ (h : HT) (q : Nat → Prop) (w : World), h.tr = t → h.In q w → Calls Try.prog 66 #[h.val] w fun e w' => RetV w o.val e w'

set_option maxRecDepth 100000 in
set_option maxHeartbeats 800000 in
theorem pterm_none (kd : Int) (s : ByteArray) (n : Int) (k : List Tr) (hk : kd < 1 ∨ 8 < kd) : TeAt (.mk kd s n k) (.odd .nilIface) := by
  intro _ h q w ht hin
  obtain ⟨h1, h2, h3, h4⟩ := HT.tr_inv ht
  unfold HT.val
  rw [h1, h2, h3]
  clear h1 h2 h3 h4 hin ht
  have u1 : (kd == 1) = false := by simp; omega
  have u2 : (kd == 2) = false := by simp; omega
  have u3 : (kd == 3) = false := by simp; omega
  have u4 : (kd == 4) = false := by simp; omega
  have u5 : (kd == 5) = false := by simp; omega
  have u6 : (kd == 6) = false := by simp; omega
  have u7 : (kd == 7) = false := by simp; omega
  have u8 : (kd == 8) = false := by simp; omega
  clear hk
  simp only [Te.val]
  go_enter Try.func66, Try.ntmps66
  go_wp2
  go_ret
  exact ⟨rfl, (by repeat' (first | (with_reducible exact Ext.refl _) | (with_reducible assumption) | (with_reducible refine Ext.alloc ?_ _) | (with_reducible refine Ext.drew ?_) | (with_reducible refine Ext.drewN ?_ _) | (with_reducible refine Ext.setCell ?_ (by first | exact Nat.le_refl _ | (simp; done) | (simp; omega) | omega) _) | (with_reducible refine Ext.trans ?_ (by assumption))))⟩
set_option maxRecDepth 100000 in
set_option maxHeartbeats 800000 in
theorem pterm_zero (s : ByteArray) (n : Int) (k : List Tr) : TeAt (.mk 1 s n k) .zero := by
  intro _ h q w ht hin
  obtain ⟨h1, h2, h3, h4⟩ := HT.tr_inv ht
  unfold HT.val
  rw [h1, h2, h3]
  clear h1 h2 h3 h4 hin ht
  simp only [Te.val]
  go_enter Try.func66, Try.ntmps66
  go_wp2
  go_ret
  exact ⟨rfl, (by repeat' (first | (with_reducible exact Ext.refl _) | (with_reducible assumption) | (with_reducible refine Ext.alloc ?_ _) | (with_reducible refine Ext.drew ?_) | (with_reducible refine Ext.drewN ?_ _) | (with_reducible refine Ext.setCell ?_ (by first | exact Nat.le_refl _ | (simp; done) | (simp; omega) | omega) _) | (with_reducible refine Ext.trans ?_ (by assumption))))⟩
set_option maxRecDepth 100000 in
set_option maxHeartbeats 800000 in
theorem pterm_one (s : ByteArray) (n : Int) (k : List Tr) : TeAt (.mk 2 s n k) (.one s) := by
  intro _ h q w ht hin
  obtain ⟨h1, h2, h3, h4⟩ := HT.tr_inv ht
  unfold HT.val
  rw [h1, h2, h3]
  clear h1 h2 h3 h4 hin ht
  simp only [Te.val]
  go_enter Try.func66, Try.ntmps66
  go_wp2
  go_ret
  exact ⟨rfl, (by repeat' (first | (with_reducible exact Ext.refl _) | (with_reducible assumption) | (with_reducible refine Ext.alloc ?_ _) | (with_reducible refine Ext.drew ?_) | (with_reducible refine Ext.drewN ?_ _) | (with_reducible refine Ext.setCell ?_ (by first | exact Nat.le_refl _ | (simp; done) | (simp; omega) | omega) _) | (with_reducible refine Ext.trans ?_ (by assumption))))⟩
set_option maxRecDepth 100000 in
set_option maxHeartbeats 3200000 in
theorem pterm_give (s : ByteArray) (n : Int) (l : Tr) (a : Te) (ih0 : TeAt l a) : TeAt (.mk 3 s n [l]) (.give a) := by
  intro hwf h q w ht hin
  obtain ⟨h1, h2, h3, h4⟩ := HT.tr_inv ht
  obtain ⟨x, hk, hx0⟩ := map_one h4
  obtain ⟨g0, x', ha0, hg0, hx', hin0, c00, c01, c02, c03⟩ := hin.at (i := 0) (by rw [hk]; simp)
  rw [hk] at hx'
  obtain rfl : x = x' := by simpa using hx'
  clear hx'
  have H0 := fun W (hW : Ext w W) => ih0 (show a.wf from hwf) x q W hx0 (hin0.ext hW)
  have hf0 := (show a.wf from hwf)
  unfold HT.val at *
  rw [h1, h2, h3, ha0, hk]
  simp only [List.length_cons, List.length_nil]
  have hgw := World.block_lt_of_cell? w _ c00
  clear h1 h2 h3 h4 hin ht hk hwf hx0 hin0 ih0 ha0 hg0
  generalize x.kd = p0k at *
  generalize x.s = p0s at *
  generalize x.n = p0n at *
  generalize x.a = p0a at *
  generalize x.k.length = p0l at *
  generalize x.c = p0c at *
  generalize h.c = hc at *
  simp only [Te.val]
  simp only [Nat.zero_mul, Nat.one_mul, Nat.zero_add, Nat.reduceAdd, Nat.reduceMul] at c00 c01 c02 c03 hgw
  rcases Te.form hf0 with e0 | ⟨t0, x0, e0⟩ <;>
  ( rw [e0] at H0 ⊢
    clear e0 hf0
    have hgw2 : g0 < w.heap.size + 1 := by omega
    go_enter Try.func66, Try.ntmps66
    (go_wp2_with fail; (with_reducible refine (H0 _ ((by repeat' (first | (with_reducible exact Ext.refl _) | (with_reducible assumption) | (with_reducible refine Ext.alloc ?_ _) | (with_reducible refine Ext.drew ?_) | (with_reducible refine Ext.drewN ?_ _) | (with_reducible refine Ext.setCell ?_ (by first | exact Nat.le_refl _ | (simp; done) | (simp; omega) | omega) _) | (with_reducible refine Ext.trans ?_ (by assumption)))))).mono ?_); rintro e w' ⟨rfl, hv⟩)
    go_wp2
    go_ret
    exact ⟨rfl, (by repeat' (first | (with_reducible exact Ext.refl _) | (with_reducible assumption) | (with_reducible refine Ext.alloc ?_ _) | (with_reducible refine Ext.drew ?_) | (with_reducible refine Ext.drewN ?_ _) | (with_reducible refine Ext.setCell ?_ (by first | exact Nat.le_refl _ | (simp; done) | (simp; omega) | omega) _) | (with_reducible refine Ext.trans ?_ (by assumption))))⟩)
set_option maxRecDepth 100000 in
set_option maxHeartbeats 3200000 in
theorem pterm_whn (s : ByteArray) (n : Int) (l : Tr) (a : Te) (ih0 : TeAt l a) : TeAt (.mk 7 s n [l]) (.whn n a) := by
  intro hwf h q w ht hin
  obtain ⟨h1, h2, h3, h4⟩ := HT.tr_inv ht
  obtain ⟨x, hk, hx0⟩ := map_one h4
  obtain ⟨g0, x', ha0, hg0, hx', hin0, c00, c01, c02, c03⟩ := hin.at (i := 0) (by rw [hk]; simp)
  rw [hk] at hx'
  obtain rfl : x = x' := by simpa using hx'
  clear hx'
  have H0 := fun W (hW : Ext w W) => ih0 hwf.2 x q W hx0 (hin0.ext hW)
  have hf0 := hwf.2
  unfold HT.val at *
  rw [h1, h2, h3, ha0, hk]
  simp only [List.length_cons, List.length_nil]
  have hgw := World.block_lt_of_cell? w _ c00
  clear h1 h2 h3 h4 hin ht hk hwf hx0 hin0 ih0 ha0 hg0
  generalize x.kd = p0k at *
  generalize x.s = p0s at *
  generalize x.n = p0n at *
  generalize x.a = p0a at *
  generalize x.k.length = p0l at *
  generalize x.c = p0c at *
  generalize h.c = hc at *
  simp only [Te.val]
  simp only [Nat.zero_mul, Nat.one_mul, Nat.zero_add, Nat.reduceAdd, Nat.reduceMul] at c00 c01 c02 c03 hgw
  rcases Te.form hf0 with e0 | ⟨t0, x0, e0⟩ <;>
  ( rw [e0] at H0 ⊢
    clear e0 hf0
    have hgw2 : g0 < w.heap.size + 1 := by omega
    go_enter Try.func66, Try.ntmps66
    go_wp2_with fail
    go_region_held3 (fun W => W.cell? ⟨w.heap.size, 3, none⟩ = some (.slice (some ⟨g0, 0, none⟩) 1 hc) ∧ W.cell? ⟨w.heap.size, 2, none⟩ = some (.int .i64 n) ∧ W.cell? ⟨g0, 0, none⟩ = some (.int .i64 p0k) ∧ W.cell? ⟨g0, 1, none⟩ = some (.string p0s) ∧ W.cell? ⟨g0, 2, none⟩ = some (.int .i64 p0n) ∧ W.cell? ⟨g0, 3, none⟩ = some (.slice p0a p0l p0c)) (go_keep)
      (first | (go_at_call 66; (with_reducible refine (H0 _ ((by repeat' (first | (with_reducible exact Ext.refl _) | (with_reducible assumption) | (with_reducible refine Ext.alloc ?_ _) | (with_reducible refine Ext.drew ?_) | (with_reducible refine Ext.drewN ?_ _) | (with_reducible refine Ext.setCell ?_ (by first | exact Nat.le_refl _ | (simp; done) | (simp; omega) | omega) _) | (with_reducible refine Ext.trans ?_ (by assumption)))))).mono ?_); rintro e w5 ⟨rfl, hv0⟩; obtain ⟨hc0, hf0⟩ := hv0.cells; have hgl0 : g0 < w5.heap.size := by { have := hv0.le; (try simp at this); omega }; have hbl0 : w.heap.size < w5.heap.size := by { have := hv0.le; (try simp at this); omega }))
    go_wp2
    go_ret
    exact ⟨rfl, (by repeat' (first | (with_reducible exact Ext.refl _) | (with_reducible assumption) | (with_reducible refine Ext.alloc ?_ _) | (with_reducible refine Ext.drew ?_) | (with_reducible refine Ext.drewN ?_ _) | (with_reducible refine Ext.setCell ?_ (by first | exact Nat.le_refl _ | (simp; done) | (simp; omega) | omega) _) | (with_reducible refine Ext.trans ?_ (by assumption))))⟩)

end Go.Proofs.Ytgjjngkmbplijaa

/- Package play: a contract of api's of its tree. -/
namespace Go.Proofs.Ytgjjngkmbplijaa
open Go.RowKit
set_option linter.unusedSimpArgs false
set_option linter.unusedVariables false

set_option maxRecDepth 100000 in
set_option maxHeartbeats 3200000 in
theorem pterm_and (s : ByteArray) (n : Int) (l r : Tr) (a : Te) (b : Te) (ih0 : TeAt l a) (ih1 : TeAt r b) : TeAt (.mk 4 s n [l, r]) (.and a b) := by
  intro hwf h q w ht hin
  obtain ⟨h1, h2, h3, h4⟩ := HT.tr_inv ht
  obtain ⟨x, y, hk, hx0, hx1⟩ := map_two h4
  obtain ⟨g0, x', ha0, hg0, hx', hin0, c00, c01, c02, c03⟩ := hin.at (i := 0) (by rw [hk]; simp)
  rw [hk] at hx'
  obtain rfl : x = x' := by simpa using hx'
  clear hx'
  obtain ⟨g1, x', ha1, hg1, hx', hin1, c10, c11, c12, c13⟩ := hin.at (i := 1) (by rw [hk]; simp)
  rw [hk] at hx'
  obtain rfl : y = x' := by simpa using hx'
  clear hx'
  obtain rfl : g0 = g1 := by rw [ha0] at ha1; injection ha1 with e; injection e
  have H0 := fun W (hW : Ext w W) => ih0 hwf.1 x q W hx0 (hin0.ext hW)
  have H1 := fun W (hW : Ext w W) => ih1 hwf.2 y q W hx1 (hin1.ext hW)
  have hf0 := hwf.1
  have hf1 := hwf.2
  unfold HT.val at *
  rw [h1, h2, h3, ha0, hk]
  simp only [List.length_cons, List.length_nil]
  have hgw := World.block_lt_of_cell? w _ c00
  clear h1 h2 h3 h4 hin ht hk hwf hx0 hin0 ih0 ha0 hg0 hx1 hin1 ih1 ha1 hg1
  generalize x.kd = p0k at *
  generalize x.s = p0s at *
  generalize x.n = p0n at *
  generalize x.a = p0a at *
  generalize x.k.length = p0l at *
  generalize x.c = p0c at *
  generalize y.kd = p1k at *
  generalize y.s = p1s at *
  generalize y.n = p1n at *
  generalize y.a = p1a at *
  generalize y.k.length = p1l at *
  generalize y.c = p1c at *
  generalize h.c = hc at *
  simp only [Te.val]
  simp only [Nat.zero_mul, Nat.one_mul, Nat.zero_add, Nat.reduceAdd, Nat.reduceMul] at c00 c01 c02 c03 c10 c11 c12 c13 hgw
  rcases Te.form hf0 with e0 | ⟨t0, x0, e0⟩ <;> rcases Te.form hf1 with e1 | ⟨t1, x1, e1⟩ <;>
  ( rw [e0] at H0 ⊢
    rw [e1] at H1 ⊢
    clear e0 hf0 e1 hf1
    have hgw2 : g0 < w.heap.size + 1 := by omega
    go_enter Try.func66, Try.ntmps66
    go_wp2_with fail
    go_region_held3 (fun W => W.cell? ⟨w.heap.size, 3, none⟩ = some (.slice (some ⟨g0, 0, none⟩) 2 hc) ∧ W.cell? ⟨g0, 0, none⟩ = some (.int .i64 p0k) ∧ W.cell? ⟨g0, 1, none⟩ = some (.string p0s) ∧ W.cell? ⟨g0, 2, none⟩ = some (.int .i64 p0n) ∧ W.cell? ⟨g0, 3, none⟩ = some (.slice p0a p0l p0c) ∧ W.cell? ⟨g0, 4, none⟩ = some (.int .i64 p1k) ∧ W.cell? ⟨g0, 5, none⟩ = some (.string p1s) ∧ W.cell? ⟨g0, 6, none⟩ = some (.int .i64 p1n) ∧ W.cell? ⟨g0, 7, none⟩ = some (.slice p1a p1l p1c)) (go_keep)
      (first | (go_at_call 66; (with_reducible refine (H0 _ ((by repeat' (first | (with_reducible exact Ext.refl _) | (with_reducible assumption) | (with_reducible refine Ext.alloc ?_ _) | (with_reducible refine Ext.drew ?_) | (with_reducible refine Ext.drewN ?_ _) | (with_reducible refine Ext.setCell ?_ (by first | exact Nat.le_refl _ | (simp; done) | (simp; omega) | omega) _) | (with_reducible refine Ext.trans ?_ (by assumption)))))).mono ?_); rintro e w5 ⟨rfl, hv0⟩; obtain ⟨hc0, hf0⟩ := hv0.cells; have hgl0 : g0 < w5.heap.size := by { have := hv0.le; (try simp at this); omega }; have hbl0 : w.heap.size < w5.heap.size := by { have := hv0.le; (try simp at this); omega }) | (go_at_call 66; (with_reducible refine (H1 _ ((by repeat' (first | (with_reducible exact Ext.refl _) | (with_reducible assumption) | (with_reducible refine Ext.alloc ?_ _) | (with_reducible refine Ext.drew ?_) | (with_reducible refine Ext.drewN ?_ _) | (with_reducible refine Ext.setCell ?_ (by first | exact Nat.le_refl _ | (simp; done) | (simp; omega) | omega) _) | (with_reducible refine Ext.trans ?_ (by assumption)))))).mono ?_); rintro e w6 ⟨rfl, hv1⟩; obtain ⟨hc1, hf1⟩ := hv1.cells; have hgl1 : g0 < w6.heap.size := by { have := hv1.le; (try simp at this); omega }; have hbl1 : w.heap.size < w6.heap.size := by { have := hv1.le; (try simp at this); omega }))
    go_wp2
    go_ret
    exact ⟨rfl, (by repeat' (first | (with_reducible exact Ext.refl _) | (with_reducible assumption) | (with_reducible refine Ext.alloc ?_ _) | (with_reducible refine Ext.drew ?_) | (with_reducible refine Ext.drewN ?_ _) | (with_reducible refine Ext.setCell ?_ (by first | exact Nat.le_refl _ | (simp; done) | (simp; omega) | omega) _) | (with_reducible refine Ext.trans ?_ (by assumption))))⟩)
set_option maxRecDepth 100000 in
set_option maxHeartbeats 3200000 in
theorem pterm_or (s : ByteArray) (n : Int) (l r : Tr) (a : Te) (b : Te) (ih0 : TeAt l a) (ih1 : TeAt r b) : TeAt (.mk 5 s n [l, r]) (.or s a b) := by
  intro hwf h q w ht hin
  obtain ⟨h1, h2, h3, h4⟩ := HT.tr_inv ht
  obtain ⟨x, y, hk, hx0, hx1⟩ := map_two h4
  obtain ⟨g0, x', ha0, hg0, hx', hin0, c00, c01, c02, c03⟩ := hin.at (i := 0) (by rw [hk]; simp)
  rw [hk] at hx'
  obtain rfl : x = x' := by simpa using hx'
  clear hx'
  obtain ⟨g1, x', ha1, hg1, hx', hin1, c10, c11, c12, c13⟩ := hin.at (i := 1) (by rw [hk]; simp)
  rw [hk] at hx'
  obtain rfl : y = x' := by simpa using hx'
  clear hx'
  obtain rfl : g0 = g1 := by rw [ha0] at ha1; injection ha1 with e; injection e
  have H0 := fun W (hW : Ext w W) => ih0 hwf.2.1 x q W hx0 (hin0.ext hW)
  have H1 := fun W (hW : Ext w W) => ih1 hwf.2.2 y q W hx1 (hin1.ext hW)
  have hf0 := hwf.2.1
  have hf1 := hwf.2.2
  unfold HT.val at *
  rw [h1, h2, h3, ha0, hk]
  simp only [List.length_cons, List.length_nil]
  have hgw := World.block_lt_of_cell? w _ c00
  clear h1 h2 h3 h4 hin ht hk hwf hx0 hin0 ih0 ha0 hg0 hx1 hin1 ih1 ha1 hg1
  generalize x.kd = p0k at *
  generalize x.s = p0s at *
  generalize x.n = p0n at *
  generalize x.a = p0a at *
  generalize x.k.length = p0l at *
  generalize x.c = p0c at *
  generalize y.kd = p1k at *
  generalize y.s = p1s at *
  generalize y.n = p1n at *
  generalize y.a = p1a at *
  generalize y.k.length = p1l at *
  generalize y.c = p1c at *
  generalize h.c = hc at *
  simp only [Te.val]
  simp only [Nat.zero_mul, Nat.one_mul, Nat.zero_add, Nat.reduceAdd, Nat.reduceMul] at c00 c01 c02 c03 c10 c11 c12 c13 hgw
  rcases Te.form hf0 with e0 | ⟨t0, x0, e0⟩ <;> rcases Te.form hf1 with e1 | ⟨t1, x1, e1⟩ <;>
  ( rw [e0] at H0 ⊢
    rw [e1] at H1 ⊢
    clear e0 hf0 e1 hf1
    have hgw2 : g0 < w.heap.size + 1 := by omega
    go_enter Try.func66, Try.ntmps66
    go_wp2_with fail
    go_region_held3 (fun W => W.cell? ⟨w.heap.size, 3, none⟩ = some (.slice (some ⟨g0, 0, none⟩) 2 hc) ∧ W.cell? ⟨w.heap.size, 1, none⟩ = some (.string s) ∧ W.cell? ⟨g0, 0, none⟩ = some (.int .i64 p0k) ∧ W.cell? ⟨g0, 1, none⟩ = some (.string p0s) ∧ W.cell? ⟨g0, 2, none⟩ = some (.int .i64 p0n) ∧ W.cell? ⟨g0, 3, none⟩ = some (.slice p0a p0l p0c) ∧ W.cell? ⟨g0, 4, none⟩ = some (.int .i64 p1k) ∧ W.cell? ⟨g0, 5, none⟩ = some (.string p1s) ∧ W.cell? ⟨g0, 6, none⟩ = some (.int .i64 p1n) ∧ W.cell? ⟨g0, 7, none⟩ = some (.slice p1a p1l p1c)) (go_keep)
      (first | (go_at_call 66; (with_reducible refine (H0 _ ((by repeat' (first | (with_reducible exact Ext.refl _) | (with_reducible assumption) | (with_reducible refine Ext.alloc ?_ _) | (with_reducible refine Ext.drew ?_) | (with_reducible refine Ext.drewN ?_ _) | (with_reducible refine Ext.setCell ?_ (by first | exact Nat.le_refl _ | (simp; done) | (simp; omega) | omega) _) | (with_reducible refine Ext.trans ?_ (by assumption)))))).mono ?_); rintro e w5 ⟨rfl, hv0⟩; obtain ⟨hc0, hf0⟩ := hv0.cells; have hgl0 : g0 < w5.heap.size := by { have := hv0.le; (try simp at this); omega }; have hbl0 : w.heap.size < w5.heap.size := by { have := hv0.le; (try simp at this); omega }) | (go_at_call 66; (with_reducible refine (H1 _ ((by repeat' (first | (with_reducible exact Ext.refl _) | (with_reducible assumption) | (with_reducible refine Ext.alloc ?_ _) | (with_reducible refine Ext.drew ?_) | (with_reducible refine Ext.drewN ?_ _) | (with_reducible refine Ext.setCell ?_ (by first | exact Nat.le_refl _ | (simp; done) | (simp; omega) | omega) _) | (with_reducible refine Ext.trans ?_ (by assumption)))))).mono ?_); rintro e w6 ⟨rfl, hv1⟩; obtain ⟨hc1, hf1⟩ := hv1.cells; have hgl1 : g0 < w6.heap.size := by { have := hv1.le; (try simp at this); omega }; have hbl1 : w.heap.size < w6.heap.size := by { have := hv1.le; (try simp at this); omega }))
    go_wp2
    go_ret
    exact ⟨rfl, (by repeat' (first | (with_reducible exact Ext.refl _) | (with_reducible assumption) | (with_reducible refine Ext.alloc ?_ _) | (with_reducible refine Ext.drew ?_) | (with_reducible refine Ext.drewN ?_ _) | (with_reducible refine Ext.setCell ?_ (by first | exact Nat.le_refl _ | (simp; done) | (simp; omega) | omega) _) | (with_reducible refine Ext.trans ?_ (by assumption))))⟩)

end Go.Proofs.Ytgjjngkmbplijaa

/- Package play: a contract of api's of its tree. -/
namespace Go.Proofs.Ytgjjngkmbplijaa
open Go.RowKit
set_option linter.unusedSimpArgs false
set_option linter.unusedVariables false

set_option maxRecDepth 100000 in
set_option maxHeartbeats 3200000 in
theorem pterm_scale (s : ByteArray) (n : Int) (l r : Tr) (a : Ob) (b : Te) (ih0 : IsOb l a) (ih1 : TeAt r b) : TeAt (.mk 6 s n [l, r]) (.scale a b) := by
  intro hwf h q w ht hin
  obtain ⟨h1, h2, h3, h4⟩ := HT.tr_inv ht
  obtain ⟨x, y, hk, hx0, hx1⟩ := map_two h4
  obtain ⟨g0, x', ha0, hg0, hx', hin0, c00, c01, c02, c03⟩ := hin.at (i := 0) (by rw [hk]; simp)
  rw [hk] at hx'
  obtain rfl : x = x' := by simpa using hx'
  clear hx'
  obtain ⟨g1, x', ha1, hg1, hx', hin1, c10, c11, c12, c13⟩ := hin.at (i := 1) (by rw [hk]; simp)
  rw [hk] at hx'
  obtain rfl : y = x' := by simpa using hx'
  clear hx'
  obtain rfl : g0 = g1 := by rw [ha0] at ha1; injection ha1 with e; injection e
  have H0 := fun W (hW : Ext w W) => pobs_at ih0 hwf.1 x q W hx0 (hin0.ext hW)
  have H1 := fun W (hW : Ext w W) => ih1 hwf.2 y q W hx1 (hin1.ext hW)
  have hf0 := hwf.1
  have hf1 := hwf.2
  unfold HT.val at *
  rw [h1, h2, h3, ha0, hk]
  simp only [List.length_cons, List.length_nil]
  have hgw := World.block_lt_of_cell? w _ c00
  clear h1 h2 h3 h4 hin ht hk hwf hx0 hin0 ih0 ha0 hg0 hx1 hin1 ih1 ha1 hg1
  generalize x.kd = p0k at *
  generalize x.s = p0s at *
  generalize x.n = p0n at *
  generalize x.a = p0a at *
  generalize x.k.length = p0l at *
  generalize x.c = p0c at *
  generalize y.kd = p1k at *
  generalize y.s = p1s at *
  generalize y.n = p1n at *
  generalize y.a = p1a at *
  generalize y.k.length = p1l at *
  generalize y.c = p1c at *
  generalize h.c = hc at *
  simp only [Te.val]
  simp only [Nat.zero_mul, Nat.one_mul, Nat.zero_add, Nat.reduceAdd, Nat.reduceMul] at c00 c01 c02 c03 c10 c11 c12 c13 hgw
  rcases Ob.form hf0 with e0 | ⟨t0, x0, e0⟩ <;> rcases Te.form hf1 with e1 | ⟨t1, x1, e1⟩ <;>
  ( rw [e0] at H0 ⊢
    rw [e1] at H1 ⊢
    clear e0 hf0 e1 hf1
    have hgw2 : g0 < w.heap.size + 1 := by omega
    go_enter Try.func66, Try.ntmps66
    go_wp2_with fail
    go_region_held3 (fun W => W.cell? ⟨w.heap.size, 3, none⟩ = some (.slice (some ⟨g0, 0, none⟩) 2 hc) ∧ W.cell? ⟨g0, 0, none⟩ = some (.int .i64 p0k) ∧ W.cell? ⟨g0, 1, none⟩ = some (.string p0s) ∧ W.cell? ⟨g0, 2, none⟩ = some (.int .i64 p0n) ∧ W.cell? ⟨g0, 3, none⟩ = some (.slice p0a p0l p0c) ∧ W.cell? ⟨g0, 4, none⟩ = some (.int .i64 p1k) ∧ W.cell? ⟨g0, 5, none⟩ = some (.string p1s) ∧ W.cell? ⟨g0, 6, none⟩ = some (.int .i64 p1n) ∧ W.cell? ⟨g0, 7, none⟩ = some (.slice p1a p1l p1c)) (go_keep)
      (first | (go_at_call 53; (with_reducible refine (H0 _ ((by repeat' (first | (with_reducible exact Ext.refl _) | (with_reducible assumption) | (with_reducible refine Ext.alloc ?_ _) | (with_reducible refine Ext.drew ?_) | (with_reducible refine Ext.drewN ?_ _) | (with_reducible refine Ext.setCell ?_ (by first | exact Nat.le_refl _ | (simp; done) | (simp; omega) | omega) _) | (with_reducible refine Ext.trans ?_ (by assumption)))))).mono ?_); rintro e w5 ⟨rfl, hv0⟩; obtain ⟨hc0, hf0⟩ := hv0.cells; have hgl0 : g0 < w5.heap.size := by { have := hv0.le; (try simp at this); omega }; have hbl0 : w.heap.size < w5.heap.size := by { have := hv0.le; (try simp at this); omega }) | (go_at_call 66; (with_reducible refine (H1 _ ((by repeat' (first | (with_reducible exact Ext.refl _) | (with_reducible assumption) | (with_reducible refine Ext.alloc ?_ _) | (with_reducible refine Ext.drew ?_) | (with_reducible refine Ext.drewN ?_ _) | (with_reducible refine Ext.setCell ?_ (by first | exact Nat.le_refl _ | (simp; done) | (simp; omega) | omega) _) | (with_reducible refine Ext.trans ?_ (by assumption)))))).mono ?_); rintro e w6 ⟨rfl, hv1⟩; obtain ⟨hc1, hf1⟩ := hv1.cells; have hgl1 : g0 < w6.heap.size := by { have := hv1.le; (try simp at this); omega }; have hbl1 : w.heap.size < w6.heap.size := by { have := hv1.le; (try simp at this); omega }))
    go_wp2
    go_ret
    exact ⟨rfl, (by repeat' (first | (with_reducible exact Ext.refl _) | (with_reducible assumption) | (with_reducible refine Ext.alloc ?_ _) | (with_reducible refine Ext.drew ?_) | (with_reducible refine Ext.drewN ?_ _) | (with_reducible refine Ext.setCell ?_ (by first | exact Nat.le_refl _ | (simp; done) | (simp; omega) | omega) _) | (with_reducible refine Ext.trans ?_ (by assumption))))⟩)
set_option maxRecDepth 100000 in
set_option maxHeartbeats 3200000 in
theorem pterm_cond (s : ByteArray) (n : Int) (l r z : Tr) (a : Ob) (b : Te) (c : Te) (ih0 : IsOb l a) (ih1 : TeAt r b) (ih2 : TeAt z c) : TeAt (.mk 8 s n [l, r, z]) (.cond a b c) := by
  intro hwf h q w ht hin
  obtain ⟨h1, h2, h3, h4⟩ := HT.tr_inv ht
  obtain ⟨x, y, v, hk, hx0, hx1, hx2⟩ := map_three h4
  obtain ⟨g0, x', ha0, hg0, hx', hin0, c00, c01, c02, c03⟩ := hin.at (i := 0) (by rw [hk]; simp)
  rw [hk] at hx'
  obtain rfl : x = x' := by simpa using hx'
  clear hx'
  obtain ⟨g1, x', ha1, hg1, hx', hin1, c10, c11, c12, c13⟩ := hin.at (i := 1) (by rw [hk]; simp)
  rw [hk] at hx'
  obtain rfl : y = x' := by simpa using hx'
  clear hx'
  obtain rfl : g0 = g1 := by rw [ha0] at ha1; injection ha1 with e; injection e
  obtain ⟨g2, x', ha2, hg2, hx', hin2, c20, c21, c22, c23⟩ := hin.at (i := 2) (by rw [hk]; simp)
  rw [hk] at hx'
  obtain rfl : v = x' := by simpa using hx'
  clear hx'
  obtain rfl : g0 = g2 := by rw [ha0] at ha2; injection ha2 with e; injection e
  have H0 := fun W (hW : Ext w W) => pobs_at ih0 hwf.1 x q W hx0 (hin0.ext hW)
  have H1 := fun W (hW : Ext w W) => ih1 hwf.2.1 y q W hx1 (hin1.ext hW)
  have H2 := fun W (hW : Ext w W) => ih2 hwf.2.2 v q W hx2 (hin2.ext hW)
  have hf0 := hwf.1
  have hf1 := hwf.2.1
  have hf2 := hwf.2.2
  unfold HT.val at *
  rw [h1, h2, h3, ha0, hk]
  simp only [List.length_cons, List.length_nil]
  have hgw := World.block_lt_of_cell? w _ c00
  clear h1 h2 h3 h4 hin ht hk hwf hx0 hin0 ih0 ha0 hg0 hx1 hin1 ih1 ha1 hg1 hx2 hin2 ih2 ha2 hg2
  generalize x.kd = p0k at *
  generalize x.s = p0s at *
  generalize x.n = p0n at *
  generalize x.a = p0a at *
  generalize x.k.length = p0l at *
  generalize x.c = p0c at *
  generalize y.kd = p1k at *
  generalize y.s = p1s at *
  generalize y.n = p1n at *
  generalize y.a = p1a at *
  generalize y.k.length = p1l at *
  generalize y.c = p1c at *
  generalize v.kd = p2k at *
  generalize v.s = p2s at *
  generalize v.n = p2n at *
  generalize v.a = p2a at *
  generalize v.k.length = p2l at *
  generalize v.c = p2c at *
  generalize h.c = hc at *
  simp only [Te.val]
  simp only [Nat.zero_mul, Nat.one_mul, Nat.zero_add, Nat.reduceAdd, Nat.reduceMul] at c00 c01 c02 c03 c10 c11 c12 c13 c20 c21 c22 c23 hgw
  rcases Ob.form hf0 with e0 | ⟨t0, x0, e0⟩ <;> rcases Te.form hf1 with e1 | ⟨t1, x1, e1⟩ <;> rcases Te.form hf2 with e2 | ⟨t2, x2, e2⟩ <;>
  ( rw [e0] at H0 ⊢
    rw [e1] at H1 ⊢
    rw [e2] at H2 ⊢
    clear e0 hf0 e1 hf1 e2 hf2
    have hgw2 : g0 < w.heap.size + 1 := by omega
    go_enter Try.func66, Try.ntmps66
    go_wp2_with fail
    go_region_held3 (fun W => W.cell? ⟨w.heap.size, 3, none⟩ = some (.slice (some ⟨g0, 0, none⟩) 3 hc) ∧ W.cell? ⟨g0, 0, none⟩ = some (.int .i64 p0k) ∧ W.cell? ⟨g0, 1, none⟩ = some (.string p0s) ∧ W.cell? ⟨g0, 2, none⟩ = some (.int .i64 p0n) ∧ W.cell? ⟨g0, 3, none⟩ = some (.slice p0a p0l p0c) ∧ W.cell? ⟨g0, 4, none⟩ = some (.int .i64 p1k) ∧ W.cell? ⟨g0, 5, none⟩ = some (.string p1s) ∧ W.cell? ⟨g0, 6, none⟩ = some (.int .i64 p1n) ∧ W.cell? ⟨g0, 7, none⟩ = some (.slice p1a p1l p1c) ∧ W.cell? ⟨g0, 8, none⟩ = some (.int .i64 p2k) ∧ W.cell? ⟨g0, 9, none⟩ = some (.string p2s) ∧ W.cell? ⟨g0, 10, none⟩ = some (.int .i64 p2n) ∧ W.cell? ⟨g0, 11, none⟩ = some (.slice p2a p2l p2c)) (go_keep)
      (first | (go_at_call 53; (with_reducible refine (H0 _ ((by repeat' (first | (with_reducible exact Ext.refl _) | (with_reducible assumption) | (with_reducible refine Ext.alloc ?_ _) | (with_reducible refine Ext.drew ?_) | (with_reducible refine Ext.drewN ?_ _) | (with_reducible refine Ext.setCell ?_ (by first | exact Nat.le_refl _ | (simp; done) | (simp; omega) | omega) _) | (with_reducible refine Ext.trans ?_ (by assumption)))))).mono ?_); rintro e w5 ⟨rfl, hv0⟩; obtain ⟨hc0, hf0⟩ := hv0.cells; have hgl0 : g0 < w5.heap.size := by { have := hv0.le; (try simp at this); omega }; have hbl0 : w.heap.size < w5.heap.size := by { have := hv0.le; (try simp at this); omega }) | (go_at_call 66; (with_reducible refine (H1 _ ((by repeat' (first | (with_reducible exact Ext.refl _) | (with_reducible assumption) | (with_reducible refine Ext.alloc ?_ _) | (with_reducible refine Ext.drew ?_) | (with_reducible refine Ext.drewN ?_ _) | (with_reducible refine Ext.setCell ?_ (by first | exact Nat.le_refl _ | (simp; done) | (simp; omega) | omega) _) | (with_reducible refine Ext.trans ?_ (by assumption)))))).mono ?_); rintro e w6 ⟨rfl, hv1⟩; obtain ⟨hc1, hf1⟩ := hv1.cells; have hgl1 : g0 < w6.heap.size := by { have := hv1.le; (try simp at this); omega }; have hbl1 : w.heap.size < w6.heap.size := by { have := hv1.le; (try simp at this); omega }) | (go_at_call 66; (with_reducible refine (H2 _ ((by repeat' (first | (with_reducible exact Ext.refl _) | (with_reducible assumption) | (with_reducible refine Ext.alloc ?_ _) | (with_reducible refine Ext.drew ?_) | (with_reducible refine Ext.drewN ?_ _) | (with_reducible refine Ext.setCell ?_ (by first | exact Nat.le_refl _ | (simp; done) | (simp; omega) | omega) _) | (with_reducible refine Ext.trans ?_ (by assumption)))))).mono ?_); rintro e w7 ⟨rfl, hv2⟩; obtain ⟨hc2, hf2⟩ := hv2.cells; have hgl2 : g0 < w7.heap.size := by { have := hv2.le; (try simp at this); omega }; have hbl2 : w.heap.size < w7.heap.size := by { have := hv2.le; (try simp at this); omega }))
    go_wp2
    go_ret
    exact ⟨rfl, (by repeat' (first | (with_reducible exact Ext.refl _) | (with_reducible assumption) | (with_reducible refine Ext.alloc ?_ _) | (with_reducible refine Ext.drew ?_) | (with_reducible refine Ext.drewN ?_ _) | (with_reducible refine Ext.setCell ?_ (by first | exact Nat.le_refl _ | (simp; done) | (simp; omega) | omega) _) | (with_reducible refine Ext.trans ?_ (by assumption))))⟩)

end Go.Proofs.Ytgjjngkmbplijaa

/- Package play: a contract of api's of its tree: all cases. -/
namespace Go.Proofs.Ytgjjngkmbplijaa
theorem pterm_at {t : Tr} {o : Te} (h : IsTe t o) : TeAt t o := by
  induction h with
  | zero s n k => exact pterm_zero s n k
  | one s n k => exact pterm_one s n k
  | give s n l a _ ih => exact pterm_give s n l a ih
  | and s n l r a b _ _ ih1 ih2 => exact pterm_and s n l r a b ih1 ih2
  | or s n l r a b _ _ ih1 ih2 => exact pterm_or s n l r a b ih1 ih2
  | scale s n l r a b ho _ ih => exact pterm_scale s n l r a b ho ih
  | whn s n l a _ ih => exact pterm_whn s n l a ih
  | cond s n o l r x a b ho _ _ ih1 ih2 => exact pterm_cond s n o l r x a b ho ih1 ih2
  | none kd s n k hk => exact pterm_none kd s n k hk

end Go.Proofs.Ytgjjngkmbplijaa
