/- Package play: a contract of api's of its tree. -/
import Derived.Test.YtgjjngkmbplijaaPlayObs
import Derived.Test.YtgjjngkmbplijaaPlay2
import Derived.Deep.RegionHeld3
namespace Go.Proofs.Ytgjjngkmbplijaa
open Go.RowKit
set_option linter.unusedSimpArgs false
set_option linter.unusedVariables false

/-- The contract of Term at a tree. -/
def TeAt (t : Tr) (o : Te) : Prop := o.wf → ∀ (h : HT) (q : Nat → Prop) (w : World), h.tr = t → h.In q w → Calls Try.prog 66 #[h.val] w fun e w' => RetV w o.val e w'

set_option maxRecDepth 100000 in
set_option maxHeartbeats 800000 in
theorem pterm_none (kd : Int) (s : ByteArray) (n : Int) (k : List Tr) (hk : kd < 1 ∨ 8 < kd) : TeAt (.mk kd s n k) (.odd .nilIface) := by
  intro _ h q w ht hin
  obtain ⟨h1, h2, h3, h4⟩ := HT.tr_inv ht
  unfold HT.val
  rw [h1, h2, h3]
  clear h1 h2 h3 h4 hin ht
  have u1 : (kd == 1) = false := by simp; omega
  have u2 : (kd == 2) = false := by simp; omega
  have u3 : (kd == 3) = false := by simp; omega
  have u4 : (kd == 4) = false := by simp; omega
  have u5 : (kd == 5) = false := by simp; omega
  have u6 : (kd == 6) = false := by simp; omega
  have u7 : (kd == 7) = false := by simp; omega
  have u8 : (kd == 8) = false := by simp; omega
  clear hk
  simp only [Te.val]
  go_enter Try.func66, Try.ntmps66
  go_wp2
  go_ret
  exact ⟨rfl, (by repeat' (first | (with_reducible exact Ext.refl _) | (with_reducible assumption) | (with_reducible refine Ext.alloc ?_ _) | (with_reducible refine Ext.drew ?_) | (with_reducible refine Ext.drewN ?_ _) | (with_reducible refine Ext.setCell ?_ (by first | exact Nat.le_refl _ | (simp; done) | (simp; omega) | omega) _) | (with_reducible refine Ext.trans ?_ (by assumption))))⟩
set_option maxRecDepth 100000 in
set_option maxHeartbeats 800000 in
theorem pterm_zero (s : ByteArray) (n : Int) (k : List Tr) : TeAt (.mk 1 s n k) .zero := by
  intro _ h q w ht hin
  obtain ⟨h1, h2, h3, h4⟩ := HT.tr_inv ht
  unfold HT.val
  rw [h1, h2, h3]
  clear h1 h2 h3 h4 hin ht
  simp only [Te.val]
  go_enter Try.func66, Try.ntmps66
  go_wp2
  go_ret
  exact ⟨rfl, (by repeat' (first | (with_reducible exact Ext.refl _) | (with_reducible assumption) | (with_reducible refine Ext.alloc ?_ _) | (with_reducible refine Ext.drew ?_) | (with_reducible refine Ext.drewN ?_ _) | (with_reducible refine Ext.setCell ?_ (by first | exact Nat.le_refl _ | (simp; done) | (simp; omega) | omega) _) | (with_reducible refine Ext.trans ?_ (by assumption))))⟩
set_option maxRecDepth 100000 in
set_option maxHeartbeats 800000 in
theorem pterm_one (s : ByteArray) (n : Int) (k : List Tr) : TeAt (.mk 2 s n k) (.one s) := by
  intro _ h q w ht hin
  obtain ⟨h1, h2, h3, h4⟩ := HT.tr_inv ht
  unfold HT.val
  rw [h1, h2, h3]
  clear h1 h2 h3 h4 hin ht
  simp only [Te.val]
  go_enter Try.func66, Try.ntmps66
  go_wp2
  go_ret
  exact ⟨rfl, (by repeat' (first | (with_reducible exact Ext.refl _) | (with_reducible assumption) | (with_reducible refine Ext.alloc ?_ _) | (with_reducible refine Ext.drew ?_) | (with_reducible refine Ext.drewN ?_ _) | (with_reducible refine Ext.setCell ?_ (by first | exact Nat.le_refl _ | (simp; done) | (simp; omega) | omega) _) | (with_reducible refine Ext.trans ?_ (by assumption))))⟩
set_option maxRecDepth 100000 in
set_option maxHeartbeats 3200000 in
theorem pterm_give (s : ByteArray) (n : Int) (l : Tr) (a : Te) (ih0 : TeAt l a) : TeAt (.mk 3 s n [l]) (.give a) := by
  intro hwf h q w ht hin
  obtain ⟨h1, h2, h3, h4⟩ := HT.tr_inv ht
  obtain ⟨x, hk, hx0⟩ := map_one h4
  obtain ⟨g0, x', ha0, hg0, hx', hin0, c00, c01, c02, c03⟩ := hin.at (i := 0) (by rw [hk]; simp)
  rw [hk] at hx'
  obtain rfl : x = x' := by simpa using hx'
  clear hx'
  have H0 := fun W (hW : Ext w W) => ih0 (show a.wf from hwf) x q W hx0 (hin0.ext hW)
  have hf0 := (show a.wf from hwf)
  unfold HT.val at *
  rw [h1, h2, h3, ha0, hk]
  simp only [List.length_cons, List.length_nil]
  have hgw := World.block_lt_of_cell? w _ c00
  clear h1 h2 h3 h4 hin ht hk hwf hx0 hin0 ih0 ha0 hg0
  generalize x.kd = p0k at *
  generalize x.s = p0s at *
  generalize x.n = p0n at *
  generalize x.a = p0a at *
  generalize x.k.length = p0l at *
  generalize x.c = p0c at *
  generalize h.c = hc at *
  simp only [Te.val]
  simp only [Nat.zero_mul, Nat.one_mul, Nat.zero_add, Nat.reduceAdd, Nat.reduceMul] at c00 c01 c02 c03 hgw
  rcases Te.form hf0 with e0 | ⟨t0, x0, e0⟩ <;>
  ( rw [e0] at H0 ⊢
    clear e0 hf0
    have hgw2 : g0 < w.heap.size + 1 := by omega
    go_enter Try.func66, Try.ntmps66
    (go_wp2_with fail; (with_reducible refine (H0 _ ((by repeat' (first | (with_reducible exact Ext.refl _) | (with_reducible assumption) | (with_reducible refine Ext.alloc ?_ _) | (with_reducible refine Ext.drew ?_) | (with_reducible refine Ext.drewN ?_ _) | (with_reducible refine Ext.setCell ?_ (by first | exact Nat.le_refl _ | (simp; done) | (simp; omega) | omega) _) | (with_reducible refine Ext.trans ?_ (by assumption)))))).mono ?_); rintro e w' ⟨rfl, hv⟩)
    go_wp2
    go_ret
    exact ⟨rfl, (by repeat' (first | (with_reducible exact Ext.refl _) | (with_reducible assumption) | (with_reducible refine Ext.alloc ?_ _) | (with_reducible refine Ext.drew ?_) | (with_reducible refine Ext.drewN ?_ _) | (with_reducible refine Ext.setCell ?_ (by first | exact Nat.le_refl _ | (simp; done) | (simp; omega) | omega) _) | (with_reducible refine Ext.trans ?_ (by assumption))))⟩)
set_option maxRecDepth 100000 in
set_option maxHeartbeats 3200000 in
theorem pterm_whn (s : ByteArray) (n : Int) (l : Tr) (a : Te) (ih0 : TeAt l a) : TeAt (.mk 7 s n [l]) (.whn n a) := by
  intro hwf h q w ht hin
  obtain ⟨h1, h2, h3, h4⟩ := HT.tr_inv ht
  obtain ⟨x, hk, hx0⟩ := map_one h4
  obtain ⟨g0, x', ha0, hg0, hx', hin0, c00, c01, c02, c03⟩ := hin.at (i := 0) (by rw [hk]; simp)
  rw [hk] at hx'
  obtain rfl : x = x' := by simpa using hx'
  clear hx'
  have H0 := fun W (hW : Ext w W) => ih0 hwf.2 x q W hx0 (hin0.ext hW)
  have hf0 := hwf.2
  unfold HT.val at *
  rw [h1, h2, h3, ha0, hk]
  simp only [List.length_cons, List.length_nil]
  have hgw := World.block_lt_of_cell? w _ c00
  clear h1 h2 h3 h4 hin ht hk hwf hx0 hin0 ih0 ha0 hg0
  generalize x.kd = p0k at *
  generalize x.s = p0s at *
  generalize x.n = p0n at *
  generalize x.a = p0a at *
  generalize x.k.length = p0l at *
  generalize x.c = p0c at *
  generalize h.c = hc at *
  simp only [Te.val]
  simp only [Nat.zero_mul, Nat.one_mul, Nat.zero_add, Nat.reduceAdd, Nat.reduceMul] at c00 c01 c02 c03 hgw
  rcases Te.form hf0 with e0 | ⟨t0, x0, e0⟩ <;>
  ( rw [e0] at H0 ⊢
    clear e0 hf0
    have hgw2 : g0 < w.heap.size + 1 := by omega
    go_enter Try.func66, Try.ntmps66
    go_wp2_with fail
    go_region_held3 (fun W => W.cell? ⟨w.heap.size, 3, none⟩ = some (.slice (some ⟨g0, 0, none⟩) 1 hc) ∧ W.cell? ⟨w.heap.size, 2, none⟩ = some (.int .i64 n) ∧ W.cell? ⟨g0, 0, none⟩ = some (.int .i64 p0k) ∧ W.cell? ⟨g0, 1, none⟩ = some (.string p0s) ∧ W.cell? ⟨g0, 2, none⟩ = some (.int .i64 p0n) ∧ W.cell? ⟨g0, 3, none⟩ = some (.slice p0a p0l p0c)) (go_keep)
      (first | (go_at_call 66; (with_reducible refine (H0 _ ((by repeat' (first | (with_reducible exact Ext.refl _) | (with_reducible assumption) | (with_reducible refine Ext.alloc ?_ _) | (with_reducible refine Ext.drew ?_) | (with_reducible refine Ext.drewN ?_ _) | (with_reducible refine Ext.setCell ?_ (by first | exact Nat.le_refl _ | (simp; done) | (simp; omega) | omega) _) | (with_reducible refine Ext.trans ?_ (by assumption)))))).mono ?_); rintro e w5 ⟨rfl, hv0⟩; obtain ⟨hc0, hf0⟩ := hv0.cells; have hgl0 : g0 < w5.heap.size := by { have := hv0.le; (try simp at this); omega }; have hbl0 : w.heap.size < w5.heap.size := by { have := hv0.le; (try simp at this); omega }))
    go_wp2
    go_ret
    exact ⟨rfl, (by repeat' (first | (with_reducible exact Ext.refl _) | (with_reducible assumption) | (with_reducible refine Ext.alloc ?_ _) | (with_reducible refine Ext.drew ?_) | (with_reducible refine Ext.drewN ?_ _) | (with_reducible refine Ext.setCell ?_ (by first | exact Nat.le_refl _ | (simp; done) | (simp; omega) | omega) _) | (with_reducible refine Ext.trans ?_ (by assumption))))⟩)

end Go.Proofs.Ytgjjngkmbplijaa
