/- The maker of package play: contracts: leaves. -/
import Derived.Test.YtgjjngkmbplijaaMTerm
import Derived.Test.YtgjjngkmbplijaaMTerm2
import Derived.Laws.Rows
import Derived.Deep.RegionHeld3
namespace Go.Proofs.Ytgjjngkmbplijaa
open Go.RowKit
set_option linter.unusedSimpArgs false
set_option linter.unusedVariables false

set_option maxRecDepth 100000 in
set_option maxHeartbeats 3200000 in
theorem mterm_zero (p : Pl) (w : World) (m i : Nat) (left : Int) (lab : Nat) (h : Mk w m p i left lab) (hi : i + 2 ≤ 2 ^ 30) (hl1 : -(2 ^ 40) + 2 ≤ left) (hl2 : left ≤ 2 ^ 40) :
    Calls Try.prog 114 #[.pointer (some ⟨m, 0, none⟩), .int .i64 0] w fun e w' => RetTm w m p (termT p 0 i left lab) e w' := by
  have hm : m < w.heap.size := (Array.getElem?_eq_some_iff.1 h.blk).1
  obtain ⟨c0, c1, c2, c3, c4, hf⟩ := h.cells
  have k1 := nextN_lo p i 13 (by omega)
  have k2 := nextN_hi p i 13 (by omega)
  have H1 := mn_calls _ m p i (left - 1) lab 13 ((h.setLeft (left - 1)).ext ((Ext.refl _).alloc fourZ)) (by omega) (by omega) (by omega)
  have HF := four_new w m (left - 1)
  clear h c0 c1 c2 c4
  have HR := Lib.hid (show termT p 0 i left lab = ((termLeaf p (nextN p i 13 % 3) (i + 1)).1, (termLeaf p (nextN p i 13 % 3) (i + 1)).2, left - 1, lab) by rfl)
  generalize termT p 0 i left lab = r at *
  generalize hk0 : nextN p i 13 = k at *
  obtain ⟨q, hq, hqt⟩ : ∃ q, k % 3 = q ∧ k.tmod 3 = q := ⟨k % 3, rfl, Int.tmod_eq_emod_of_nonneg (by omega)⟩
  rw [hq] at HR
  have hq2 : q = 0 ∨ q = 1 ∨ q = 2 := by omega
  clear hk0
  rcases hq2 with rfl | rfl | rfl
  · have HR := Lib.hid (show r = (Tr.mk 2 (wordB p (i + 1) curs3) 0 [], i + 2, left - 1, lab) by rw [HR.out]; rfl)
    go_enter Try.func114, Try.ntmps114
    (go_wp2_with fail; (with_reducible refine H1.mono ?_); rintro e w1 ⟨rfl, hM1, hg1⟩)
    have hFb := HF.1.grown hg1 (by omega)
    have hgA := grown_trans HF.2 hg1
    clear H1 HF hg1 c3 hf
    have c3 := hM1.cells.2.2.2.1
    generalize hb : w.heap.size = b at hFb hm ⊢
    have hbw1 : b < w1.heap.size := by obtain ⟨x0, x1, x2, x3, h⟩ := hFb; exact (Array.getElem?_eq_some_iff.1 h).1
    have hM1' := hM1.ext ((Ext.refl w1).alloc fourZ)
    have hH1 := Lib.hid (And.intro (Z4.new w1) (And.intro (hFb.ext ((Ext.refl w1).alloc fourZ)) (grown_trans hgA (grown_ext ((Ext.refl w1).alloc fourZ) _))))
    have hsz1 : (w1.alloc fourZ).heap.size = w1.heap.size + 1 := by simp
    have hz1 := Lib.hid hsz1
    clear hFb hgA hM1 hsz1
    have HWd := word3c hM1' (by omega)
    rw [hz1.out] at HWd
    (go_wp2_with fail; (with_reducible refine HWd.mono ?_); rintro e w2 ⟨rfl, hM2, hg2⟩)
    have hbt : w1.heap.size < w2.heap.size := by have h1 := hg2.size; simp at h1; omega
    have hH2 := Lib.hid (And.intro ((hH1.out.1.ext ((Ext.refl _).alloc _)).grown hg2 (by omega)) (And.intro ((hH1.out.2.1.ext ((Ext.refl _).alloc _)).grown hg2 (by omega)) (grown_trans (grown_trans hH1.out.2.2 (grown_ext ((Ext.refl _).alloc _) _)) hg2)))
    obtain ⟨⟨y0, d0⟩, ⟨y1, d1⟩, ⟨y2, d2⟩, ⟨y3, d3⟩, hfz⟩ := hH2.out.2.1.cells
    obtain ⟨z0, z1, z2, z3, hfz2⟩ := hH2.out.1.cells
    have hE0 := Lib.hid (fun (V : World) (hV : w2.grownBy V (some w1.heap.size)) (hs : V.heap.size = w2.heap.size) => leaf_fin hM2 hH2.out.2.2 hb hm hbw1 hH2.out.2.1 hV (2) (wordB p (i + 1) curs3) 0)
    have hbw2 : b < w2.heap.size := by omega
    have hne1 : b ≠ w1.heap.size := by omega
    have hne2 : w1.heap.size ≠ b := by omega
    clear hM1' hM2 hg2 hH1 hH2 hz1
    generalize wordB p (i + 1) curs3 = wd at *
    go_wp2
    apply bodyPost_ret
    · exact (hE0.out _ (by repeat' (first | (with_reducible exact World.grownBy.refl _ _) | (with_reducible refine grown_trans ?_ (setCell_grown _ _ _ _)))) (by simp only [setCell_size])).2 _ _ 4 rfl rfl
    · rfl
    have e : r = (Tr.mk 2 wd 0 [], i + 2, left - 1, lab) := by rw [HR.out]
    rw [e]
    exact (hE0.out _ (by repeat' (first | (with_reducible exact World.grownBy.refl _ _) | (with_reducible refine grown_trans ?_ (setCell_grown _ _ _ _)))) (by simp only [setCell_size])).1
  · have HR := Lib.hid (show r = (Tr.mk 2 (wordB p (i + 1) curs3) 0 [], i + 2, left - 1, lab) by rw [HR.out]; rfl)
    go_enter Try.func114, Try.ntmps114
    (go_wp2_with fail; (with_reducible refine H1.mono ?_); rintro e w1 ⟨rfl, hM1, hg1⟩)
    have hFb := HF.1.grown hg1 (by omega)
    have hgA := grown_trans HF.2 hg1
    clear H1 HF hg1 c3 hf
    have c3 := hM1.cells.2.2.2.1
    generalize hb : w.heap.size = b at hFb hm ⊢
    have hbw1 : b < w1.heap.size := by obtain ⟨x0, x1, x2, x3, h⟩ := hFb; exact (Array.getElem?_eq_some_iff.1 h).1
    have hM1' := hM1.ext ((Ext.refl w1).alloc fourZ)
    have hH1 := Lib.hid (And.intro (Z4.new w1) (And.intro (hFb.ext ((Ext.refl w1).alloc fourZ)) (grown_trans hgA (grown_ext ((Ext.refl w1).alloc fourZ) _))))
    have hsz1 : (w1.alloc fourZ).heap.size = w1.heap.size + 1 := by simp
    have hz1 := Lib.hid hsz1
    clear hFb hgA hM1 hsz1
    have HWd := word3c hM1' (by omega)
    rw [hz1.out] at HWd
    (go_wp2_with fail; (with_reducible refine HWd.mono ?_); rintro e w2 ⟨rfl, hM2, hg2⟩)
    have hbt : w1.heap.size < w2.heap.size := by have h1 := hg2.size; simp at h1; omega
    have hH2 := Lib.hid (And.intro ((hH1.out.1.ext ((Ext.refl _).alloc _)).grown hg2 (by omega)) (And.intro ((hH1.out.2.1.ext ((Ext.refl _).alloc _)).grown hg2 (by omega)) (grown_trans (grown_trans hH1.out.2.2 (grown_ext ((Ext.refl _).alloc _) _)) hg2)))
    obtain ⟨⟨y0, d0⟩, ⟨y1, d1⟩, ⟨y2, d2⟩, ⟨y3, d3⟩, hfz⟩ := hH2.out.2.1.cells
    obtain ⟨z0, z1, z2, z3, hfz2⟩ := hH2.out.1.cells
    have hE0 := Lib.hid (fun (V : World) (hV : w2.grownBy V (some w1.heap.size)) (hs : V.heap.size = w2.heap.size) => leaf_fin hM2 hH2.out.2.2 hb hm hbw1 hH2.out.2.1 hV (2) (wordB p (i + 1) curs3) 0)
    have hbw2 : b < w2.heap.size := by omega
    have hne1 : b ≠ w1.heap.size := by omega
    have hne2 : w1.heap.size ≠ b := by omega
    clear hM1' hM2 hg2 hH1 hH2 hz1
    generalize wordB p (i + 1) curs3 = wd at *
    go_wp2
    apply bodyPost_ret
    · exact (hE0.out _ (by repeat' (first | (with_reducible exact World.grownBy.refl _ _) | (with_reducible refine grown_trans ?_ (setCell_grown _ _ _ _)))) (by simp only [setCell_size])).2 _ _ 4 rfl rfl
    · rfl
    have e : r = (Tr.mk 2 wd 0 [], i + 2, left - 1, lab) := by rw [HR.out]
    rw [e]
    exact (hE0.out _ (by repeat' (first | (with_reducible exact World.grownBy.refl _ _) | (with_reducible refine grown_trans ?_ (setCell_grown _ _ _ _)))) (by simp only [setCell_size])).1
  · have HR := Lib.hid (show r = (Tr.mk 1 ⟨#[]⟩ 0 [], i + 1, left - 1, lab) by rw [HR.out]; rfl)
    go_enter Try.func114, Try.ntmps114
    (go_wp2_with fail; (with_reducible refine H1.mono ?_); rintro e w1 ⟨rfl, hM1, hg1⟩)
    have hFb := HF.1.grown hg1 (by omega)
    have hgA := grown_trans HF.2 hg1
    clear H1 HF hg1 c3 hf
    have c3 := hM1.cells.2.2.2.1
    generalize hb : w.heap.size = b at hFb hm ⊢
    have hbw1 : b < w1.heap.size := by obtain ⟨x0, x1, x2, x3, h⟩ := hFb; exact (Array.getElem?_eq_some_iff.1 h).1
    have hM1' := hM1.ext ((Ext.refl w1).alloc fourZ)
    have hH1 := Lib.hid (And.intro (Z4.new w1) (And.intro (hFb.ext ((Ext.refl w1).alloc fourZ)) (grown_trans hgA (grown_ext ((Ext.refl w1).alloc fourZ) _))))
    have hsz1 : (w1.alloc fourZ).heap.size = w1.heap.size + 1 := by simp
    have hz1 := Lib.hid hsz1
    have hE0 := Lib.hid (And.intro ((obs_end hM1 hgA hb hm (HT.mk 1 ⟨#[]⟩ 0 none 0 []) (HT.leaf_in _ _ _ _ _)).ext ((Ext.refl _).alloc (.cells #[.int .i64 1, .string ⟨#[]⟩, .int .i64 0, .slice none 0 0] 76))) hFb)
    clear hFb hgA hM1 hsz1
    obtain ⟨⟨y0, d0⟩, ⟨y1, d1⟩, ⟨y2, d2⟩, ⟨y3, d3⟩, hfz⟩ := hE0.out.2.cells
    have hbw2 : b < w1.heap.size := by omega
    have hne1 : b ≠ w1.heap.size := by omega
    have hne2 : w1.heap.size ≠ b := by omega
    clear hM1' hH1 hz1
    go_wp2
    apply bodyPost_ret (v := .agg #[.int .i64 1, .string ⟨#[]⟩, .int .i64 0, .slice none 0 0])
    · exact results_cell_row rfl _ _ b _ _ _ _ rfl (((Ext.refl _).alloc _).obj (hE0.out.2.put 1 ⟨#[]⟩ 0 (.slice none 0 0))) Try.underlying76 rfl (by kernel_rfl)
    · rfl
    have e : r = (Tr.mk 1 ⟨#[]⟩ 0 [], i + 1, left - 1, lab) := by rw [HR.out]
    rw [e]
    exact hE0.out.1

set_option maxRecDepth 100000 in
set_option maxHeartbeats 3200000 in
theorem mterm_low (p : Pl) (d : Nat) (w : World) (m i : Nat) (left : Int) (lab : Nat) (h : Mk w m p i left lab) (hi : i + 2 ≤ 2 ^ 30) (hl1 : -(2 ^ 40) + 2 ≤ left) (hl2 : left ≤ 2 ^ 40) (hd : d ≤ 10) (hlow : left - 1 ≤ 0) :
    Calls Try.prog 114 #[.pointer (some ⟨m, 0, none⟩), .int .i64 (d + 1 : Nat)] w fun e w' => RetTm w m p (termT p (d + 1) i left lab) e w' := by
  have hd1 : decide (((d : Int) + 1) ≤ 0) = false := by simp <;> omega
  have hd2 : decide (left - 1 ≤ 0) = true := by simp; omega
  have hm : m < w.heap.size := (Array.getElem?_eq_some_iff.1 h.blk).1
  obtain ⟨c0, c1, c2, c3, c4, hf⟩ := h.cells
  have k1 := nextN_lo p i 13 (by omega)
  have k2 := nextN_hi p i 13 (by omega)
  have H1 := mn_calls _ m p i (left - 1) lab 13 ((h.setLeft (left - 1)).ext ((Ext.refl _).alloc fourZ)) (by omega) (by omega) (by omega)
  have HF := four_new w m (left - 1)
  clear h c0 c1 c2 c4
  have HR := Lib.hid (show termT p (d + 1) i left lab = ((termLeaf p (nextN p i 13 % 3) (i + 1)).1, (termLeaf p (nextN p i 13 % 3) (i + 1)).2, left - 1, lab) by simp only [termT]; rw [if_pos hlow])
  generalize termT p (d + 1) i left lab = r at *
  generalize hk0 : nextN p i 13 = k at *
  obtain ⟨q, hq, hqt⟩ : ∃ q, k % 3 = q ∧ k.tmod 3 = q := ⟨k % 3, rfl, Int.tmod_eq_emod_of_nonneg (by omega)⟩
  rw [hq] at HR
  have hq2 : q = 0 ∨ q = 1 ∨ q = 2 := by omega
  clear hk0
  rcases hq2 with rfl | rfl | rfl
  · have HR := Lib.hid (show r = (Tr.mk 2 (wordB p (i + 1) curs3) 0 [], i + 2, left - 1, lab) by rw [HR.out]; rfl)
    go_enter Try.func114, Try.ntmps114
    (go_wp2_with fail; (with_reducible refine H1.mono ?_); rintro e w1 ⟨rfl, hM1, hg1⟩)
    have hFb := HF.1.grown hg1 (by omega)
    have hgA := grown_trans HF.2 hg1
    clear H1 HF hg1 c3 hf
    have c3 := hM1.cells.2.2.2.1
    generalize hb : w.heap.size = b at hFb hm ⊢
    have hbw1 : b < w1.heap.size := by obtain ⟨x0, x1, x2, x3, h⟩ := hFb; exact (Array.getElem?_eq_some_iff.1 h).1
    have hM1' := hM1.ext ((Ext.refl w1).alloc fourZ)
    have hH1 := Lib.hid (And.intro (Z4.new w1) (And.intro (hFb.ext ((Ext.refl w1).alloc fourZ)) (grown_trans hgA (grown_ext ((Ext.refl w1).alloc fourZ) _))))
    have hsz1 : (w1.alloc fourZ).heap.size = w1.heap.size + 1 := by simp
    have hz1 := Lib.hid hsz1
    clear hFb hgA hM1 hsz1
    have HWd := word3c hM1' (by omega)
    rw [hz1.out] at HWd
    (go_wp2_with fail; (with_reducible refine HWd.mono ?_); rintro e w2 ⟨rfl, hM2, hg2⟩)
    have hbt : w1.heap.size < w2.heap.size := by have h1 := hg2.size; simp at h1; omega
    have hH2 := Lib.hid (And.intro ((hH1.out.1.ext ((Ext.refl _).alloc _)).grown hg2 (by omega)) (And.intro ((hH1.out.2.1.ext ((Ext.refl _).alloc _)).grown hg2 (by omega)) (grown_trans (grown_trans hH1.out.2.2 (grown_ext ((Ext.refl _).alloc _) _)) hg2)))
    obtain ⟨⟨y0, d0⟩, ⟨y1, d1⟩, ⟨y2, d2⟩, ⟨y3, d3⟩, hfz⟩ := hH2.out.2.1.cells
    obtain ⟨z0, z1, z2, z3, hfz2⟩ := hH2.out.1.cells
    have hE0 := Lib.hid (fun (V : World) (hV : w2.grownBy V (some w1.heap.size)) (hs : V.heap.size = w2.heap.size) => leaf_fin hM2 hH2.out.2.2 hb hm hbw1 hH2.out.2.1 hV (2) (wordB p (i + 1) curs3) 0)
    have hbw2 : b < w2.heap.size := by omega
    have hne1 : b ≠ w1.heap.size := by omega
    have hne2 : w1.heap.size ≠ b := by omega
    clear hM1' hM2 hg2 hH1 hH2 hz1
    generalize wordB p (i + 1) curs3 = wd at *
    go_wp2
    apply bodyPost_ret
    · exact (hE0.out _ (by repeat' (first | (with_reducible exact World.grownBy.refl _ _) | (with_reducible refine grown_trans ?_ (setCell_grown _ _ _ _)))) (by simp only [setCell_size])).2 _ _ 4 rfl rfl
    · rfl
    have e : r = (Tr.mk 2 wd 0 [], i + 2, left - 1, lab) := by rw [HR.out]
    rw [e]
    exact (hE0.out _ (by repeat' (first | (with_reducible exact World.grownBy.refl _ _) | (with_reducible refine grown_trans ?_ (setCell_grown _ _ _ _)))) (by simp only [setCell_size])).1
  · have HR := Lib.hid (show r = (Tr.mk 2 (wordB p (i + 1) curs3) 0 [], i + 2, left - 1, lab) by rw [HR.out]; rfl)
    go_enter Try.func114, Try.ntmps114
    (go_wp2_with fail; (with_reducible refine H1.mono ?_); rintro e w1 ⟨rfl, hM1, hg1⟩)
    have hFb := HF.1.grown hg1 (by omega)
    have hgA := grown_trans HF.2 hg1
    clear H1 HF hg1 c3 hf
    have c3 := hM1.cells.2.2.2.1
    generalize hb : w.heap.size = b at hFb hm ⊢
    have hbw1 : b < w1.heap.size := by obtain ⟨x0, x1, x2, x3, h⟩ := hFb; exact (Array.getElem?_eq_some_iff.1 h).1
    have hM1' := hM1.ext ((Ext.refl w1).alloc fourZ)
    have hH1 := Lib.hid (And.intro (Z4.new w1) (And.intro (hFb.ext ((Ext.refl w1).alloc fourZ)) (grown_trans hgA (grown_ext ((Ext.refl w1).alloc fourZ) _))))
    have hsz1 : (w1.alloc fourZ).heap.size = w1.heap.size + 1 := by simp
    have hz1 := Lib.hid hsz1
    clear hFb hgA hM1 hsz1
    have HWd := word3c hM1' (by omega)
    rw [hz1.out] at HWd
    (go_wp2_with fail; (with_reducible refine HWd.mono ?_); rintro e w2 ⟨rfl, hM2, hg2⟩)
    have hbt : w1.heap.size < w2.heap.size := by have h1 := hg2.size; simp at h1; omega
    have hH2 := Lib.hid (And.intro ((hH1.out.1.ext ((Ext.refl _).alloc _)).grown hg2 (by omega)) (And.intro ((hH1.out.2.1.ext ((Ext.refl _).alloc _)).grown hg2 (by omega)) (grown_trans (grown_trans hH1.out.2.2 (grown_ext ((Ext.refl _).alloc _) _)) hg2)))
    obtain ⟨⟨y0, d0⟩, ⟨y1, d1⟩, ⟨y2, d2⟩, ⟨y3, d3⟩, hfz⟩ := hH2.out.2.1.cells
    obtain ⟨z0, z1, z2, z3, hfz2⟩ := hH2.out.1.cells
    have hE0 := Lib.hid (fun (V : World) (hV : w2.grownBy V (some w1.heap.size)) (hs : V.heap.size = w2.heap.size) => leaf_fin hM2 hH2.out.2.2 hb hm hbw1 hH2.out.2.1 hV (2) (wordB p (i + 1) curs3) 0)
    have hbw2 : b < w2.heap.size := by omega
    have hne1 : b ≠ w1.heap.size := by omega
    have hne2 : w1.heap.size ≠ b := by omega
    clear hM1' hM2 hg2 hH1 hH2 hz1
    generalize wordB p (i + 1) curs3 = wd at *
    go_wp2
    apply bodyPost_ret
    · exact (hE0.out _ (by repeat' (first | (with_reducible exact World.grownBy.refl _ _) | (with_reducible refine grown_trans ?_ (setCell_grown _ _ _ _)))) (by simp only [setCell_size])).2 _ _ 4 rfl rfl
    · rfl
    have e : r = (Tr.mk 2 wd 0 [], i + 2, left - 1, lab) := by rw [HR.out]
    rw [e]
    exact (hE0.out _ (by repeat' (first | (with_reducible exact World.grownBy.refl _ _) | (with_reducible refine grown_trans ?_ (setCell_grown _ _ _ _)))) (by simp only [setCell_size])).1
  · have HR := Lib.hid (show r = (Tr.mk 1 ⟨#[]⟩ 0 [], i + 1, left - 1, lab) by rw [HR.out]; rfl)
    go_enter Try.func114, Try.ntmps114
    (go_wp2_with fail; (with_reducible refine H1.mono ?_); rintro e w1 ⟨rfl, hM1, hg1⟩)
    have hFb := HF.1.grown hg1 (by omega)
    have hgA := grown_trans HF.2 hg1
    clear H1 HF hg1 c3 hf
    have c3 := hM1.cells.2.2.2.1
    generalize hb : w.heap.size = b at hFb hm ⊢
    have hbw1 : b < w1.heap.size := by obtain ⟨x0, x1, x2, x3, h⟩ := hFb; exact (Array.getElem?_eq_some_iff.1 h).1
    have hM1' := hM1.ext ((Ext.refl w1).alloc fourZ)
    have hH1 := Lib.hid (And.intro (Z4.new w1) (And.intro (hFb.ext ((Ext.refl w1).alloc fourZ)) (grown_trans hgA (grown_ext ((Ext.refl w1).alloc fourZ) _))))
    have hsz1 : (w1.alloc fourZ).heap.size = w1.heap.size + 1 := by simp
    have hz1 := Lib.hid hsz1
    have hE0 := Lib.hid (And.intro ((obs_end hM1 hgA hb hm (HT.mk 1 ⟨#[]⟩ 0 none 0 []) (HT.leaf_in _ _ _ _ _)).ext ((Ext.refl _).alloc (.cells #[.int .i64 1, .string ⟨#[]⟩, .int .i64 0, .slice none 0 0] 76))) hFb)
    clear hFb hgA hM1 hsz1
    obtain ⟨⟨y0, d0⟩, ⟨y1, d1⟩, ⟨y2, d2⟩, ⟨y3, d3⟩, hfz⟩ := hE0.out.2.cells
    have hbw2 : b < w1.heap.size := by omega
    have hne1 : b ≠ w1.heap.size := by omega
    have hne2 : w1.heap.size ≠ b := by omega
    clear hM1' hH1 hz1
    go_wp2
    apply bodyPost_ret (v := .agg #[.int .i64 1, .string ⟨#[]⟩, .int .i64 0, .slice none 0 0])
    · exact results_cell_row rfl _ _ b _ _ _ _ rfl (((Ext.refl _).alloc _).obj (hE0.out.2.put 1 ⟨#[]⟩ 0 (.slice none 0 0))) Try.underlying76 rfl (by kernel_rfl)
    · rfl
    have e : r = (Tr.mk 1 ⟨#[]⟩ 0 [], i + 1, left - 1, lab) := by rw [HR.out]
    rw [e]
    exact hE0.out.1

set_option maxRecDepth 100000 in
set_option maxHeartbeats 3200000 in
theorem mterm_mid (p : Pl) (d : Nat) (w : World) (m i : Nat) (left : Int) (lab : Nat) (h : Mk w m p i left lab) (hi : i + 2 ≤ 2 ^ 30) (hl1 : -(2 ^ 40) + 2 ≤ left) (hl2 : left ≤ 2 ^ 40) (hd : d ≤ 10) (hlow : 0 < left - 1) (hk : nextN p i 13 ≤ 2) :
    Calls Try.prog 114 #[.pointer (some ⟨m, 0, none⟩), .int .i64 (d + 1 : Nat)] w fun e w' => RetTm w m p (termT p (d + 1) i left lab) e w' := by
  have hd1 : decide (((d : Int) + 1) ≤ 0) = false := by simp <;> omega
  have hd2 : decide (left - 1 ≤ 0) = false := by simp; omega
  have hm : m < w.heap.size := (Array.getElem?_eq_some_iff.1 h.blk).1
  obtain ⟨c0, c1, c2, c3, c4, hf⟩ := h.cells
  have k1 := nextN_lo p i 13 (by omega)
  have k2 := nextN_hi p i 13 (by omega)
  have H1 := mn_calls _ m p i (left - 1) lab 13 ((h.setLeft (left - 1)).ext ((Ext.refl _).alloc fourZ)) (by omega) (by omega) (by omega)
  have HF := four_new w m (left - 1)
  clear h c0 c1 c2 c4
  have HR := Lib.hid (show termT p (d + 1) i left lab = ((termLeaf p (nextN p i 13) (i + 1)).1, (termLeaf p (nextN p i 13) (i + 1)).2, left - 1, lab) by simp only [termT]; rw [if_neg (by omega), if_pos hk])
  generalize termT p (d + 1) i left lab = r at *
  generalize hk0 : nextN p i 13 = k at *
  have hq2 : k = 0 ∨ k = 1 ∨ k = 2 := by omega
  clear hk0
  rcases hq2 with rfl | rfl | rfl
  · have HR := Lib.hid (show r = (Tr.mk 2 (wordB p (i + 1) curs3) 0 [], i + 2, left - 1, lab) by rw [HR.out]; rfl)
    go_enter Try.func114, Try.ntmps114
    (go_wp2_with fail; (with_reducible refine H1.mono ?_); rintro e w1 ⟨rfl, hM1, hg1⟩)
    have hFb := HF.1.grown hg1 (by omega)
    have hgA := grown_trans HF.2 hg1
    clear H1 HF hg1 c3 hf
    have c3 := hM1.cells.2.2.2.1
    generalize hb : w.heap.size = b at hFb hm ⊢
    have hbw1 : b < w1.heap.size := by obtain ⟨x0, x1, x2, x3, h⟩ := hFb; exact (Array.getElem?_eq_some_iff.1 h).1
    have hM1' := hM1.ext ((Ext.refl w1).alloc fourZ)
    have hH1 := Lib.hid (And.intro (Z4.new w1) (And.intro (hFb.ext ((Ext.refl w1).alloc fourZ)) (grown_trans hgA (grown_ext ((Ext.refl w1).alloc fourZ) _))))
    have hsz1 : (w1.alloc fourZ).heap.size = w1.heap.size + 1 := by simp
    have hz1 := Lib.hid hsz1
    clear hFb hgA hM1 hsz1
    have HWd := word3c hM1' (by omega)
    rw [hz1.out] at HWd
    (go_wp2_with fail; (with_reducible refine HWd.mono ?_); rintro e w2 ⟨rfl, hM2, hg2⟩)
    have hbt : w1.heap.size < w2.heap.size := by have h1 := hg2.size; simp at h1; omega
    have hH2 := Lib.hid (And.intro ((hH1.out.1.ext ((Ext.refl _).alloc _)).grown hg2 (by omega)) (And.intro ((hH1.out.2.1.ext ((Ext.refl _).alloc _)).grown hg2 (by omega)) (grown_trans (grown_trans hH1.out.2.2 (grown_ext ((Ext.refl _).alloc _) _)) hg2)))
    obtain ⟨⟨y0, d0⟩, ⟨y1, d1⟩, ⟨y2, d2⟩, ⟨y3, d3⟩, hfz⟩ := hH2.out.2.1.cells
    obtain ⟨z0, z1, z2, z3, hfz2⟩ := hH2.out.1.cells
    have hE0 := Lib.hid (fun (V : World) (hV : w2.grownBy V (some w1.heap.size)) (hs : V.heap.size = w2.heap.size) => leaf_fin hM2 hH2.out.2.2 hb hm hbw1 hH2.out.2.1 hV (2) (wordB p (i + 1) curs3) 0)
    have hbw2 : b < w2.heap.size := by omega
    have hne1 : b ≠ w1.heap.size := by omega
    have hne2 : w1.heap.size ≠ b := by omega
    clear hM1' hM2 hg2 hH1 hH2 hz1
    generalize wordB p (i + 1) curs3 = wd at *
    go_wp2
    apply bodyPost_ret
    · exact (hE0.out _ (by repeat' (first | (with_reducible exact World.grownBy.refl _ _) | (with_reducible refine grown_trans ?_ (setCell_grown _ _ _ _)))) (by simp only [setCell_size])).2 _ _ 4 rfl rfl
    · rfl
    have e : r = (Tr.mk 2 wd 0 [], i + 2, left - 1, lab) := by rw [HR.out]
    rw [e]
    exact (hE0.out _ (by repeat' (first | (with_reducible exact World.grownBy.refl _ _) | (with_reducible refine grown_trans ?_ (setCell_grown _ _ _ _)))) (by simp only [setCell_size])).1
  · have HR := Lib.hid (show r = (Tr.mk 2 (wordB p (i + 1) curs3) 0 [], i + 2, left - 1, lab) by rw [HR.out]; rfl)
    go_enter Try.func114, Try.ntmps114
    (go_wp2_with fail; (with_reducible refine H1.mono ?_); rintro e w1 ⟨rfl, hM1, hg1⟩)
    have hFb := HF.1.grown hg1 (by omega)
    have hgA := grown_trans HF.2 hg1
    clear H1 HF hg1 c3 hf
    have c3 := hM1.cells.2.2.2.1
    generalize hb : w.heap.size = b at hFb hm ⊢
    have hbw1 : b < w1.heap.size := by obtain ⟨x0, x1, x2, x3, h⟩ := hFb; exact (Array.getElem?_eq_some_iff.1 h).1
    have hM1' := hM1.ext ((Ext.refl w1).alloc fourZ)
    have hH1 := Lib.hid (And.intro (Z4.new w1) (And.intro (hFb.ext ((Ext.refl w1).alloc fourZ)) (grown_trans hgA (grown_ext ((Ext.refl w1).alloc fourZ) _))))
    have hsz1 : (w1.alloc fourZ).heap.size = w1.heap.size + 1 := by simp
    have hz1 := Lib.hid hsz1
    clear hFb hgA hM1 hsz1
    have HWd := word3c hM1' (by omega)
    rw [hz1.out] at HWd
    (go_wp2_with fail; (with_reducible refine HWd.mono ?_); rintro e w2 ⟨rfl, hM2, hg2⟩)
    have hbt : w1.heap.size < w2.heap.size := by have h1 := hg2.size; simp at h1; omega
    have hH2 := Lib.hid (And.intro ((hH1.out.1.ext ((Ext.refl _).alloc _)).grown hg2 (by omega)) (And.intro ((hH1.out.2.1.ext ((Ext.refl _).alloc _)).grown hg2 (by omega)) (grown_trans (grown_trans hH1.out.2.2 (grown_ext ((Ext.refl _).alloc _) _)) hg2)))
    obtain ⟨⟨y0, d0⟩, ⟨y1, d1⟩, ⟨y2, d2⟩, ⟨y3, d3⟩, hfz⟩ := hH2.out.2.1.cells
    obtain ⟨z0, z1, z2, z3, hfz2⟩ := hH2.out.1.cells
    have hE0 := Lib.hid (fun (V : World) (hV : w2.grownBy V (some w1.heap.size)) (hs : V.heap.size = w2.heap.size) => leaf_fin hM2 hH2.out.2.2 hb hm hbw1 hH2.out.2.1 hV (2) (wordB p (i + 1) curs3) 0)
    have hbw2 : b < w2.heap.size := by omega
    have hne1 : b ≠ w1.heap.size := by omega
    have hne2 : w1.heap.size ≠ b := by omega
    clear hM1' hM2 hg2 hH1 hH2 hz1
    generalize wordB p (i + 1) curs3 = wd at *
    go_wp2
    apply bodyPost_ret
    · exact (hE0.out _ (by repeat' (first | (with_reducible exact World.grownBy.refl _ _) | (with_reducible refine grown_trans ?_ (setCell_grown _ _ _ _)))) (by simp only [setCell_size])).2 _ _ 4 rfl rfl
    · rfl
    have e : r = (Tr.mk 2 wd 0 [], i + 2, left - 1, lab) := by rw [HR.out]
    rw [e]
    exact (hE0.out _ (by repeat' (first | (with_reducible exact World.grownBy.refl _ _) | (with_reducible refine grown_trans ?_ (setCell_grown _ _ _ _)))) (by simp only [setCell_size])).1
  · have HR := Lib.hid (show r = (Tr.mk 1 ⟨#[]⟩ 0 [], i + 1, left - 1, lab) by rw [HR.out]; rfl)
    go_enter Try.func114, Try.ntmps114
    (go_wp2_with fail; (with_reducible refine H1.mono ?_); rintro e w1 ⟨rfl, hM1, hg1⟩)
    have hFb := HF.1.grown hg1 (by omega)
    have hgA := grown_trans HF.2 hg1
    clear H1 HF hg1 c3 hf
    have c3 := hM1.cells.2.2.2.1
    generalize hb : w.heap.size = b at hFb hm ⊢
    have hbw1 : b < w1.heap.size := by obtain ⟨x0, x1, x2, x3, h⟩ := hFb; exact (Array.getElem?_eq_some_iff.1 h).1
    have hM1' := hM1.ext ((Ext.refl w1).alloc fourZ)
    have hH1 := Lib.hid (And.intro (Z4.new w1) (And.intro (hFb.ext ((Ext.refl w1).alloc fourZ)) (grown_trans hgA (grown_ext ((Ext.refl w1).alloc fourZ) _))))
    have hsz1 : (w1.alloc fourZ).heap.size = w1.heap.size + 1 := by simp
    have hz1 := Lib.hid hsz1
    have hE0 := Lib.hid (And.intro ((obs_end hM1 hgA hb hm (HT.mk 1 ⟨#[]⟩ 0 none 0 []) (HT.leaf_in _ _ _ _ _)).ext ((Ext.refl _).alloc (.cells #[.int .i64 1, .string ⟨#[]⟩, .int .i64 0, .slice none 0 0] 76))) hFb)
    clear hFb hgA hM1 hsz1
    obtain ⟨⟨y0, d0⟩, ⟨y1, d1⟩, ⟨y2, d2⟩, ⟨y3, d3⟩, hfz⟩ := hE0.out.2.cells
    have hbw2 : b < w1.heap.size := by omega
    have hne1 : b ≠ w1.heap.size := by omega
    have hne2 : w1.heap.size ≠ b := by omega
    clear hM1' hH1 hz1
    go_wp2
    apply bodyPost_ret (v := .agg #[.int .i64 1, .string ⟨#[]⟩, .int .i64 0, .slice none 0 0])
    · exact results_cell_row rfl _ _ b _ _ _ _ rfl (((Ext.refl _).alloc _).obj (hE0.out.2.put 1 ⟨#[]⟩ 0 (.slice none 0 0))) Try.underlying76 rfl (by kernel_rfl)
    · rfl
    have e : r = (Tr.mk 1 ⟨#[]⟩ 0 [], i + 1, left - 1, lab) := by rw [HR.out]
    rw [e]
    exact hE0.out.1

end Go.Proofs.Ytgjjngkmbplijaa
