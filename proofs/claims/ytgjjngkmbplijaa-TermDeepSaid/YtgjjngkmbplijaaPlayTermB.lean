/- Package play: a contract of api's of its tree. -/
import Derived.Test.YtgjjngkmbplijaaPlayTerm
import Derived.Test.YtgjjngkmbplijaaPlay2
import Derived.Deep.RegionHeld3
namespace Go.Proofs.Ytgjjngkmbplijaa
open Go.RowKit
set_option linter.unusedSimpArgs false
set_option linter.unusedVariables false

set_option maxRecDepth 100000 in
set_option maxHeartbeats 3200000 in
theorem pterm_and (s : ByteArray) (n : Int) (l r : Tr) (a : Te) (b : Te) (ih0 : TeAt l a) (ih1 : TeAt r b) : TeAt (.mk 4 s n [l, r]) (.and a b) := by
  intro hwf h q w ht hin
  obtain ⟨h1, h2, h3, h4⟩ := HT.tr_inv ht
  obtain ⟨x, y, hk, hx0, hx1⟩ := map_two h4
  obtain ⟨g0, x', ha0, hg0, hx', hin0, c00, c01, c02, c03⟩ := hin.at (i := 0) (by rw [hk]; simp)
  rw [hk] at hx'
  obtain rfl : x = x' := by simpa using hx'
  clear hx'
  obtain ⟨g1, x', ha1, hg1, hx', hin1, c10, c11, c12, c13⟩ := hin.at (i := 1) (by rw [hk]; simp)
  rw [hk] at hx'
  obtain rfl : y = x' := by simpa using hx'
  clear hx'
  obtain rfl : g0 = g1 := by rw [ha0] at ha1; injection ha1 with e; injection e
  have H0 := fun W (hW : Ext w W) => ih0 hwf.1 x q W hx0 (hin0.ext hW)
  have H1 := fun W (hW : Ext w W) => ih1 hwf.2 y q W hx1 (hin1.ext hW)
  have hf0 := hwf.1
  have hf1 := hwf.2
  unfold HT.val at *
  rw [h1, h2, h3, ha0, hk]
  simp only [List.length_cons, List.length_nil]
  have hgw := World.block_lt_of_cell? w _ c00
  clear h1 h2 h3 h4 hin ht hk hwf hx0 hin0 ih0 ha0 hg0 hx1 hin1 ih1 ha1 hg1
  generalize x.kd = p0k at *
  generalize x.s = p0s at *
  generalize x.n = p0n at *
  generalize x.a = p0a at *
  generalize x.k.length = p0l at *
  generalize x.c = p0c at *
  generalize y.kd = p1k at *
  generalize y.s = p1s at *
  generalize y.n = p1n at *
  generalize y.a = p1a at *
  generalize y.k.length = p1l at *
  generalize y.c = p1c at *
  generalize h.c = hc at *
  simp only [Te.val]
  simp only [Nat.zero_mul, Nat.one_mul, Nat.zero_add, Nat.reduceAdd, Nat.reduceMul] at c00 c01 c02 c03 c10 c11 c12 c13 hgw
  rcases Te.form hf0 with e0 | ⟨t0, x0, e0⟩ <;> rcases Te.form hf1 with e1 | ⟨t1, x1, e1⟩ <;>
  ( rw [e0] at H0 ⊢
    rw [e1] at H1 ⊢
    clear e0 hf0 e1 hf1
    have hgw2 : g0 < w.heap.size + 1 := by omega
    go_enter Try.func66, Try.ntmps66
    go_wp2_with fail
    go_region_held3 (fun W => W.cell? ⟨w.heap.size, 3, none⟩ = some (.slice (some ⟨g0, 0, none⟩) 2 hc) ∧ W.cell? ⟨g0, 0, none⟩ = some (.int .i64 p0k) ∧ W.cell? ⟨g0, 1, none⟩ = some (.string p0s) ∧ W.cell? ⟨g0, 2, none⟩ = some (.int .i64 p0n) ∧ W.cell? ⟨g0, 3, none⟩ = some (.slice p0a p0l p0c) ∧ W.cell? ⟨g0, 4, none⟩ = some (.int .i64 p1k) ∧ W.cell? ⟨g0, 5, none⟩ = some (.string p1s) ∧ W.cell? ⟨g0, 6, none⟩ = some (.int .i64 p1n) ∧ W.cell? ⟨g0, 7, none⟩ = some (.slice p1a p1l p1c)) (go_keep)
      (first | (go_at_call 66; (with_reducible refine (H0 _ ((by repeat' (first | (with_reducible exact Ext.refl _) | (with_reducible assumption) | (with_reducible refine Ext.alloc ?_ _) | (with_reducible refine Ext.drew ?_) | (with_reducible refine Ext.drewN ?_ _) | (with_reducible refine Ext.setCell ?_ (by first | exact Nat.le_refl _ | (simp; done) | (simp; omega) | omega) _) | (with_reducible refine Ext.trans ?_ (by assumption)))))).mono ?_); rintro e w5 ⟨rfl, hv0⟩; obtain ⟨hc0, hf0⟩ := hv0.cells; have hgl0 : g0 < w5.heap.size := by { have := hv0.le; (try simp at this); omega }; have hbl0 : w.heap.size < w5.heap.size := by { have := hv0.le; (try simp at this); omega }) | (go_at_call 66; (with_reducible refine (H1 _ ((by repeat' (first | (with_reducible exact Ext.refl _) | (with_reducible assumption) | (with_reducible refine Ext.alloc ?_ _) | (with_reducible refine Ext.drew ?_) | (with_reducible refine Ext.drewN ?_ _) | (with_reducible refine Ext.setCell ?_ (by first | exact Nat.le_refl _ | (simp; done) | (simp; omega) | omega) _) | (with_reducible refine Ext.trans ?_ (by assumption)))))).mono ?_); rintro e w6 ⟨rfl, hv1⟩; obtain ⟨hc1, hf1⟩ := hv1.cells; have hgl1 : g0 < w6.heap.size := by { have := hv1.le; (try simp at this); omega }; have hbl1 : w.heap.size < w6.heap.size := by { have := hv1.le; (try simp at this); omega }))
    go_wp2
    go_ret
    exact ⟨rfl, (by repeat' (first | (with_reducible exact Ext.refl _) | (with_reducible assumption) | (with_reducible refine Ext.alloc ?_ _) | (with_reducible refine Ext.drew ?_) | (with_reducible refine Ext.drewN ?_ _) | (with_reducible refine Ext.setCell ?_ (by first | exact Nat.le_refl _ | (simp; done) | (simp; omega) | omega) _) | (with_reducible refine Ext.trans ?_ (by assumption))))⟩)
set_option maxRecDepth 100000 in
set_option maxHeartbeats 3200000 in
theorem pterm_or (s : ByteArray) (n : Int) (l r : Tr) (a : Te) (b : Te) (ih0 : TeAt l a) (ih1 : TeAt r b) : TeAt (.mk 5 s n [l, r]) (.or s a b) := by
  intro hwf h q w ht hin
  obtain ⟨h1, h2, h3, h4⟩ := HT.tr_inv ht
  obtain ⟨x, y, hk, hx0, hx1⟩ := map_two h4
  obtain ⟨g0, x', ha0, hg0, hx', hin0, c00, c01, c02, c03⟩ := hin.at (i := 0) (by rw [hk]; simp)
  rw [hk] at hx'
  obtain rfl : x = x' := by simpa using hx'
  clear hx'
  obtain ⟨g1, x', ha1, hg1, hx', hin1, c10, c11, c12, c13⟩ := hin.at (i := 1) (by rw [hk]; simp)
  rw [hk] at hx'
  obtain rfl : y = x' := by simpa using hx'
  clear hx'
  obtain rfl : g0 = g1 := by rw [ha0] at ha1; injection ha1 with e; injection e
  have H0 := fun W (hW : Ext w W) => ih0 hwf.2.1 x q W hx0 (hin0.ext hW)
  have H1 := fun W (hW : Ext w W) => ih1 hwf.2.2 y q W hx1 (hin1.ext hW)
  have hf0 := hwf.2.1
  have hf1 := hwf.2.2
  unfold HT.val at *
  rw [h1, h2, h3, ha0, hk]
  simp only [List.length_cons, List.length_nil]
  have hgw := World.block_lt_of_cell? w _ c00
  clear h1 h2 h3 h4 hin ht hk hwf hx0 hin0 ih0 ha0 hg0 hx1 hin1 ih1 ha1 hg1
  generalize x.kd = p0k at *
  generalize x.s = p0s at *
  generalize x.n = p0n at *
  generalize x.a = p0a at *
  generalize x.k.length = p0l at *
  generalize x.c = p0c at *
  generalize y.kd = p1k at *
  generalize y.s = p1s at *
  generalize y.n = p1n at *
  generalize y.a = p1a at *
  generalize y.k.length = p1l at *
  generalize y.c = p1c at *
  generalize h.c = hc at *
  simp only [Te.val]
  simp only [Nat.zero_mul, Nat.one_mul, Nat.zero_add, Nat.reduceAdd, Nat.reduceMul] at c00 c01 c02 c03 c10 c11 c12 c13 hgw
  rcases Te.form hf0 with e0 | ⟨t0, x0, e0⟩ <;> rcases Te.form hf1 with e1 | ⟨t1, x1, e1⟩ <;>
  ( rw [e0] at H0 ⊢
    rw [e1] at H1 ⊢
    clear e0 hf0 e1 hf1
    have hgw2 : g0 < w.heap.size + 1 := by omega
    go_enter Try.func66, Try.ntmps66
    go_wp2_with fail
    go_region_held3 (fun W => W.cell? ⟨w.heap.size, 3, none⟩ = some (.slice (some ⟨g0, 0, none⟩) 2 hc) ∧ W.cell? ⟨w.heap.size, 1, none⟩ = some (.string s) ∧ W.cell? ⟨g0, 0, none⟩ = some (.int .i64 p0k) ∧ W.cell? ⟨g0, 1, none⟩ = some (.string p0s) ∧ W.cell? ⟨g0, 2, none⟩ = some (.int .i64 p0n) ∧ W.cell? ⟨g0, 3, none⟩ = some (.slice p0a p0l p0c) ∧ W.cell? ⟨g0, 4, none⟩ = some (.int .i64 p1k) ∧ W.cell? ⟨g0, 5, none⟩ = some (.string p1s) ∧ W.cell? ⟨g0, 6, none⟩ = some (.int .i64 p1n) ∧ W.cell? ⟨g0, 7, none⟩ = some (.slice p1a p1l p1c)) (go_keep)
      (first | (go_at_call 66; (with_reducible refine (H0 _ ((by repeat' (first | (with_reducible exact Ext.refl _) | (with_reducible assumption) | (with_reducible refine Ext.alloc ?_ _) | (with_reducible refine Ext.drew ?_) | (with_reducible refine Ext.drewN ?_ _) | (with_reducible refine Ext.setCell ?_ (by first | exact Nat.le_refl _ | (simp; done) | (simp; omega) | omega) _) | (with_reducible refine Ext.trans ?_ (by assumption)))))).mono ?_); rintro e w5 ⟨rfl, hv0⟩; obtain ⟨hc0, hf0⟩ := hv0.cells; have hgl0 : g0 < w5.heap.size := by { have := hv0.le; (try simp at this); omega }; have hbl0 : w.heap.size < w5.heap.size := by { have := hv0.le; (try simp at this); omega }) | (go_at_call 66; (with_reducible refine (H1 _ ((by repeat' (first | (with_reducible exact Ext.refl _) | (with_reducible assumption) | (with_reducible refine Ext.alloc ?_ _) | (with_reducible refine Ext.drew ?_) | (with_reducible refine Ext.drewN ?_ _) | (with_reducible refine Ext.setCell ?_ (by first | exact Nat.le_refl _ | (simp; done) | (simp; omega) | omega) _) | (with_reducible refine Ext.trans ?_ (by assumption)))))).mono ?_); rintro e w6 ⟨rfl, hv1⟩; obtain ⟨hc1, hf1⟩ := hv1.cells; have hgl1 : g0 < w6.heap.size := by { have := hv1.le; (try simp at this); omega }; have hbl1 : w.heap.size < w6.heap.size := by { have := hv1.le; (try simp at this); omega }))
    go_wp2
    go_ret
    exact ⟨rfl, (by repeat' (first | (with_reducible exact Ext.refl _) | (with_reducible assumption) | (with_reducible refine Ext.alloc ?_ _) | (with_reducible refine Ext.drew ?_) | (with_reducible refine Ext.drewN ?_ _) | (with_reducible refine Ext.setCell ?_ (by first | exact Nat.le_refl _ | (simp; done) | (simp; omega) | omega) _) | (with_reducible refine Ext.trans ?_ (by assumption))))⟩)

end Go.Proofs.Ytgjjngkmbplijaa
