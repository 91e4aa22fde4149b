/- Texts put together: MTermA, MTermB, MTermC. -/
import Derived.Test.YtgjjngkmbplijaaZMt1
import Derived.Laws.Rows
import Derived.Deep.RegionHeld3
/- The maker of package play: contracts: leaves. -/
namespace Go.Proofs.Ytgjjngkmbplijaa
open Go.RowKit
set_option linter.unusedSimpArgs false
set_option linter.unusedVariables false

set_option maxRecDepth 100000 in
set_option maxHeartbeats 3200000 in
theorem mterm_zero (p : Pl) (w : World) (m i : Nat) (left : Int) (lab : Nat) (h : Mk w m p i left lab) (hi : i + 2 ≤ 2 ^ 30) (hl1 : -(2 ^ 40) + 2 ≤ left) (hl2 : left ≤ 2 ^ 40) :
    Calls Try.prog 114 #[.pointer (some ⟨m, 0, none⟩), .int .i64 0] w fun e w' => RetTm w m p (termT p 0 i left lab) e w' := by
  have hm : m < w.heap.size := (Array.getElem?_eq_some_iff.1 h.blk).1
  obtain ⟨c0, c1, c2, c3, c4, hf⟩ := h.cells
  have k1 := nextN_lo p i 13 (by omega)
  have k2 := nextN_hi p i 13 (by omega)
  have H1 := mn_calls _ m p i (left - 1) lab 13 ((h.setLeft (left - 1)).ext ((Ext.refl _).alloc fourZ)) (by omega) (by omega) (by omega)
  have HF := four_new w m (left - 1)
  clear h c0 c1 c2 c4
  have HR := Lib.hid (show termT p 0 i left lab = ((termLeaf p (nextN p i 13 % 3) (i + 1)).1, (termLeaf p (nextN p i 13 % 3) (i + 1)).2, left - 1, lab) by rfl)
  generalize termT p 0 i left lab = r at *
  generalize hk0 : nextN p i 13 = k at *
  obtain ⟨q, hq, hqt⟩ : ∃ q, k % 3 = q ∧ k.tmod 3 = q := ⟨k % 3, rfl, Int.tmod_eq_emod_of_nonneg (by omega)⟩
  rw [hq] at HR
  have hq2 : q = 0 ∨ q = 1 ∨ q = 2 := by omega
  clear hk0
  rcases hq2 with rfl | rfl | rfl
  · have HR := Lib.hid (show r = (Tr.mk 2 (wordB p (i + 1) curs3) 0 [], i + 2, left - 1, lab) by rw [HR.out]; rfl)
    go_enter Try.func114, Try.ntmps114
    (go_wp2_with fail; (with_reducible refine H1.mono ?_); rintro e w1 ⟨rfl, hM1, hg1⟩)
    have hFb := HF.1.grown hg1 (by omega)
    have hgA := grown_trans HF.2 hg1
    clear H1 HF hg1 c3 hf
    have c3 := hM1.cells.2.2.2.1
    generalize hb : w.heap.size = b at hFb hm ⊢
    have hbw1 : b < w1.heap.size := by obtain ⟨x0, x1, x2, x3, h⟩ := hFb; exact (Array.getElem?_eq_some_iff.1 h).1
    have hM1' := hM1.ext ((Ext.refl w1).alloc fourZ)
    have hH1 := Lib.hid (And.intro (Z4.new w1) (And.intro (hFb.ext ((Ext.refl w1).alloc fourZ)) (grown_trans hgA (grown_ext ((Ext.refl w1).alloc fourZ) _))))
    have hsz1 : (w1.alloc fourZ).heap.size = w1.heap.size + 1 := by simp
    have hz1 := Lib.hid hsz1
    clear hFb hgA hM1 hsz1
    have HWd := word3c hM1' (by omega)
    rw [hz1.out] at HWd
    (go_wp2_with fail; (with_reducible refine HWd.mono ?_); rintro e w2 ⟨rfl, hM2, hg2⟩)
    have hbt : w1.heap.size < w2.heap.size := by have h1 := hg2.size; simp at h1; omega
    have hH2 := Lib.hid (And.intro ((hH1.out.1.ext ((Ext.refl _).alloc _)).grown hg2 (by omega)) (And.intro ((hH1.out.2.1.ext ((Ext.refl _).alloc _)).grown hg2 (by omega)) (grown_trans (grown_trans hH1.out.2.2 (grown_ext ((Ext.refl _).alloc _) _)) hg2)))
    obtain ⟨⟨y0, d0⟩, ⟨y1, d1⟩, ⟨y2, d2⟩, ⟨y3, d3⟩, hfz⟩ := hH2.out.2.1.cells
    obtain ⟨z0, z1, z2, z3, hfz2⟩ := hH2.out.1.cells
    have hE0 := Lib.hid (fun (V : World) (hV : w2.grownBy V (some w1.heap.size)) (hs : V.heap.size = w2.heap.size) => leaf_fin hM2 hH2.out.2.2 hb hm hbw1 hH2.out.2.1 hV (2) (wordB p (i + 1) curs3) 0)
    have hbw2 : b < w2.heap.size := by omega
    have hne1 : b ≠ w1.heap.size := by omega
    have hne2 : w1.heap.size ≠ b := by omega
    clear hM1' hM2 hg2 hH1 hH2 hz1
    generalize wordB p (i + 1) curs3 = wd at *
    go_wp2
    apply bodyPost_ret
    · exact (hE0.out _ (by repeat' (first | (with_reducible exact World.grownBy.refl _ _) | (with_reducible refine grown_trans ?_ (setCell_grown _ _ _ _)))) (by simp only [setCell_size])).2 _ _ 4 rfl rfl
    · rfl
    have e : r = (Tr.mk 2 wd 0 [], i + 2, left - 1, lab) := by rw [HR.out]
    rw [e]
    exact (hE0.out _ (by repeat' (first | (with_reducible exact World.grownBy.refl _ _) | (with_reducible refine grown_trans ?_ (setCell_grown _ _ _ _)))) (by simp only [setCell_size])).1
  · have HR := Lib.hid (show r = (Tr.mk 2 (wordB p (i + 1) curs3) 0 [], i + 2, left - 1, lab) by rw [HR.out]; rfl)
    go_enter Try.func114, Try.ntmps114
    (go_wp2_with fail; (with_reducible refine H1.mono ?_); rintro e w1 ⟨rfl, hM1, hg1⟩)
    have hFb := HF.1.grown hg1 (by omega)
    have hgA := grown_trans HF.2 hg1
    clear H1 HF hg1 c3 hf
    have c3 := hM1.cells.2.2.2.1
    generalize hb : w.heap.size = b at hFb hm ⊢
    have hbw1 : b < w1.heap.size := by obtain ⟨x0, x1, x2, x3, h⟩ := hFb; exact (Array.getElem?_eq_some_iff.1 h).1
    have hM1' := hM1.ext ((Ext.refl w1).alloc fourZ)
    have hH1 := Lib.hid (And.intro (Z4.new w1) (And.intro (hFb.ext ((Ext.refl w1).alloc fourZ)) (grown_trans hgA (grown_ext ((Ext.refl w1).alloc fourZ) _))))
    have hsz1 : (w1.alloc fourZ).heap.size = w1.heap.size + 1 := by simp
    have hz1 := Lib.hid hsz1
    clear hFb hgA hM1 hsz1
    have HWd := word3c hM1' (by omega)
    rw [hz1.out] at HWd
    (go_wp2_with fail; (with_reducible refine HWd.mono ?_); rintro e w2 ⟨rfl, hM2, hg2⟩)
    have hbt : w1.heap.size < w2.heap.size := by have h1 := hg2.size; simp at h1; omega
    have hH2 := Lib.hid (And.intro ((hH1.out.1.ext ((Ext.refl _).alloc _)).grown hg2 (by omega)) (And.intro ((hH1.out.2.1.ext ((Ext.refl _).alloc _)).grown hg2 (by omega)) (grown_trans (grown_trans hH1.out.2.2 (grown_ext ((Ext.refl _).alloc _) _)) hg2)))
    obtain ⟨⟨y0, d0⟩, ⟨y1, d1⟩, ⟨y2, d2⟩, ⟨y3, d3⟩, hfz⟩ := hH2.out.2.1.cells
    obtain ⟨z0, z1, z2, z3, hfz2⟩ := hH2.out.1.cells
    have hE0 := Lib.hid (fun (V : World) (hV : w2.grownBy V (some w1.heap.size)) (hs : V.heap.size = w2.heap.size) => leaf_fin hM2 hH2.out.2.2 hb hm hbw1 hH2.out.2.1 hV (2) (wordB p (i + 1) curs3) 0)
    have hbw2 : b < w2.heap.size := by omega
    have hne1 : b ≠ w1.heap.size := by omega
    have hne2 : w1.heap.size ≠ b := by omega
    clear hM1' hM2 hg2 hH1 hH2 hz1
    generalize wordB p (i + 1) curs3 = wd at *
    go_wp2
    apply bodyPost_ret
    · exact (hE0.out _ (by repeat' (first | (with_reducible exact World.grownBy.refl _ _) | (with_reducible refine grown_trans ?_ (setCell_grown _ _ _ _)))) (by simp only [setCell_size])).2 _ _ 4 rfl rfl
    · rfl
    have e : r = (Tr.mk 2 wd 0 [], i + 2, left - 1, lab) := by rw [HR.out]
    rw [e]
    exact (hE0.out _ (by repeat' (first | (with_reducible exact World.grownBy.refl _ _) | (with_reducible refine grown_trans ?_ (setCell_grown _ _ _ _)))) (by simp only [setCell_size])).1
  · have HR := Lib.hid (show r = (Tr.mk 1 ⟨#[]⟩ 0 [], i + 1, left - 1, lab) by rw [HR.out]; rfl)
    go_enter Try.func114, Try.ntmps114
    (go_wp2_with fail; (with_reducible refine H1.mono ?_); rintro e w1 ⟨rfl, hM1, hg1⟩)
    have hFb := HF.1.grown hg1 (by omega)
    have hgA := grown_trans HF.2 hg1
    clear H1 HF hg1 c3 hf
    have c3 := hM1.cells.2.2.2.1
    generalize hb : w.heap.size = b at hFb hm ⊢
    have hbw1 : b < w1.heap.size := by obtain ⟨x0, x1, x2, x3, h⟩ := hFb; exact (Array.getElem?_eq_some_iff.1 h).1
    have hM1' := hM1.ext ((Ext.refl w1).alloc fourZ)
    have hH1 := Lib.hid (And.intro (Z4.new w1) (And.intro (hFb.ext ((Ext.refl w1).alloc fourZ)) (grown_trans hgA (grown_ext ((Ext.refl w1).alloc fourZ) _))))
    have hsz1 : (w1.alloc fourZ).heap.size = w1.heap.size + 1 := by simp
    have hz1 := Lib.hid hsz1
    have hE0 := Lib.hid (And.intro ((obs_end hM1 hgA hb hm (HT.mk 1 ⟨#[]⟩ 0 none 0 []) (HT.leaf_in _ _ _ _ _)).ext ((Ext.refl _).alloc (.cells #[.int .i64 1, .string ⟨#[]⟩, .int .i64 0, .slice none 0 0] 76))) hFb)
    clear hFb hgA hM1 hsz1
    obtain ⟨⟨y0, d0⟩, ⟨y1, d1⟩, ⟨y2, d2⟩, ⟨y3, d3⟩, hfz⟩ := hE0.out.2.cells
    have hbw2 : b < w1.heap.size := by omega
    have hne1 : b ≠ w1.heap.size := by omega
    have hne2 : w1.heap.size ≠ b := by omega
    clear hM1' hH1 hz1
    go_wp2
    apply bodyPost_ret (v := .agg #[.int .i64 1, .string ⟨#[]⟩, .int .i64 0, .slice none 0 0])
    · exact results_cell_row rfl _ _ b _ _ _ _ rfl (((Ext.refl _).alloc _).obj (hE0.out.2.put 1 ⟨#[]⟩ 0 (.slice none 0 0))) Try.underlying76 rfl (by kernel_rfl)
    · rfl
    have e : r = (Tr.mk 1 ⟨#[]⟩ 0 [], i + 1, left - 1, lab) := by rw [HR.out]
    rw [e]
    exact hE0.out.1

set_option maxRecDepth 100000 in
set_option maxHeartbeats 3200000 in
theorem mterm_low (p : Pl) (d : Nat) (w : World) (m i : Nat) (left : Int) (lab : Nat) (h : Mk w m p i left lab) (hi : i + 2 ≤ 2 ^ 30) (hl1 : -(2 ^ 40) + 2 ≤ left) (hl2 : left ≤ 2 ^ 40) (hd : d ≤ 10) (hlow : left - 1 ≤ 0) :
    Calls Try.prog 114 #[.pointer (some ⟨m, 0, none⟩), .int .i64 (d + 1 : Nat)] w fun e w' => RetTm w m p (termT p (d + 1) i left lab) e w' := by
  have hd1 : decide (((d : Int) + 1) ≤ 0) = false := by simp <;> omega
  have hd2 : decide (left - 1 ≤ 0) = true := by simp; omega
  have hm : m < w.heap.size := (Array.getElem?_eq_some_iff.1 h.blk).1
  obtain ⟨c0, c1, c2, c3, c4, hf⟩ := h.cells
  have k1 := nextN_lo p i 13 (by omega)
  have k2 := nextN_hi p i 13 (by omega)
  have H1 := mn_calls _ m p i (left - 1) lab 13 ((h.setLeft (left - 1)).ext ((Ext.refl _).alloc fourZ)) (by omega) (by omega) (by omega)
  have HF := four_new w m (left - 1)
  clear h c0 c1 c2 c4
  have HR := Lib.hid (show termT p (d + 1) i left lab = ((termLeaf p (nextN p i 13 % 3) (i + 1)).1, (termLeaf p (nextN p i 13 % 3) (i + 1)).2, left - 1, lab) by simp only [termT]; rw [if_pos hlow])
  generalize termT p (d + 1) i left lab = r at *
  generalize hk0 : nextN p i 13 = k at *
  obtain ⟨q, hq, hqt⟩ : ∃ q, k % 3 = q ∧ k.tmod 3 = q := ⟨k % 3, rfl, Int.tmod_eq_emod_of_nonneg (by omega)⟩
  rw [hq] at HR
  have hq2 : q = 0 ∨ q = 1 ∨ q = 2 := by omega
  clear hk0
  rcases hq2 with rfl | rfl | rfl
  · have HR := Lib.hid (show r = (Tr.mk 2 (wordB p (i + 1) curs3) 0 [], i + 2, left - 1, lab) by rw [HR.out]; rfl)
    go_enter Try.func114, Try.ntmps114
    (go_wp2_with fail; (with_reducible refine H1.mono ?_); rintro e w1 ⟨rfl, hM1, hg1⟩)
    have hFb := HF.1.grown hg1 (by omega)
    have hgA := grown_trans HF.2 hg1
    clear H1 HF hg1 c3 hf
    have c3 := hM1.cells.2.2.2.1
    generalize hb : w.heap.size = b at hFb hm ⊢
    have hbw1 : b < w1.heap.size := by obtain ⟨x0, x1, x2, x3, h⟩ := hFb; exact (Array.getElem?_eq_some_iff.1 h).1
    have hM1' := hM1.ext ((Ext.refl w1).alloc fourZ)
    have hH1 := Lib.hid (And.intro (Z4.new w1) (And.intro (hFb.ext ((Ext.refl w1).alloc fourZ)) (grown_trans hgA (grown_ext ((Ext.refl w1).alloc fourZ) _))))
    have hsz1 : (w1.alloc fourZ).heap.size = w1.heap.size + 1 := by simp
    have hz1 := Lib.hid hsz1
    clear hFb hgA hM1 hsz1
    have HWd := word3c hM1' (by omega)
    rw [hz1.out] at HWd
    (go_wp2_with fail; (with_reducible refine HWd.mono ?_); rintro e w2 ⟨rfl, hM2, hg2⟩)
    have hbt : w1.heap.size < w2.heap.size := by have h1 := hg2.size; simp at h1; omega
    have hH2 := Lib.hid (And.intro ((hH1.out.1.ext ((Ext.refl _).alloc _)).grown hg2 (by omega)) (And.intro ((hH1.out.2.1.ext ((Ext.refl _).alloc _)).grown hg2 (by omega)) (grown_trans (grown_trans hH1.out.2.2 (grown_ext ((Ext.refl _).alloc _) _)) hg2)))
    obtain ⟨⟨y0, d0⟩, ⟨y1, d1⟩, ⟨y2, d2⟩, ⟨y3, d3⟩, hfz⟩ := hH2.out.2.1.cells
    obtain ⟨z0, z1, z2, z3, hfz2⟩ := hH2.out.1.cells
    have hE0 := Lib.hid (fun (V : World) (hV : w2.grownBy V (some w1.heap.size)) (hs : V.heap.size = w2.heap.size) => leaf_fin hM2 hH2.out.2.2 hb hm hbw1 hH2.out.2.1 hV (2) (wordB p (i + 1) curs3) 0)
    have hbw2 : b < w2.heap.size := by omega
    have hne1 : b ≠ w1.heap.size := by omega
    have hne2 : w1.heap.size ≠ b := by omega
    clear hM1' hM2 hg2 hH1 hH2 hz1
    generalize wordB p (i + 1) curs3 = wd at *
    go_wp2
    apply bodyPost_ret
    · exact (hE0.out _ (by repeat' (first | (with_reducible exact World.grownBy.refl _ _) | (with_reducible refine grown_trans ?_ (setCell_grown _ _ _ _)))) (by simp only [setCell_size])).2 _ _ 4 rfl rfl
    · rfl
    have e : r = (Tr.mk 2 wd 0 [], i + 2, left - 1, lab) := by rw [HR.out]
    rw [e]
    exact (hE0.out _ (by repeat' (first | (with_reducible exact World.grownBy.refl _ _) | (with_reducible refine grown_trans ?_ (setCell_grown _ _ _ _)))) (by simp only [setCell_size])).1
  · have HR := Lib.hid (show r = (Tr.mk 2 (wordB p (i + 1) curs3) 0 [], i + 2, left - 1, lab) by rw [HR.out]; rfl)
    go_enter Try.func114, Try.ntmps114
    (go_wp2_with fail; (with_reducible refine H1.mono ?_); rintro e w1 ⟨rfl, hM1, hg1⟩)
    have hFb := HF.1.grown hg1 (by omega)
    have hgA := grown_trans HF.2 hg1
    clear H1 HF hg1 c3 hf
    have c3 := hM1.cells.2.2.2.1
    generalize hb : w.heap.size = b at hFb hm ⊢
    have hbw1 : b < w1.heap.size := by obtain ⟨x0, x1, x2, x3, h⟩ := hFb; exact (Array.getElem?_eq_some_iff.1 h).1
    have hM1' := hM1.ext ((Ext.refl w1).alloc fourZ)
    have hH1 := Lib.hid (And.intro (Z4.new w1) (And.intro (hFb.ext ((Ext.refl w1).alloc fourZ)) (grown_trans hgA (grown_ext ((Ext.refl w1).alloc fourZ) _))))
    have hsz1 : (w1.alloc fourZ).heap.size = w1.heap.size + 1 := by simp
    have hz1 := Lib.hid hsz1
    clear hFb hgA hM1 hsz1
    have HWd := word3c hM1' (by omega)
    rw [hz1.out] at HWd
    (go_wp2_with fail; (with_reducible refine HWd.mono ?_); rintro e w2 ⟨rfl, hM2, hg2⟩)
    have hbt : w1.heap.size < w2.heap.size := by have h1 := hg2.size; simp at h1; omega
    have hH2 := Lib.hid (And.intro ((hH1.out.1.ext ((Ext.refl _).alloc _)).grown hg2 (by omega)) (And.intro ((hH1.out.2.1.ext ((Ext.refl _).alloc _)).grown hg2 (by omega)) (grown_trans (grown_trans hH1.out.2.2 (grown_ext ((Ext.refl _).alloc _) _)) hg2)))
    obtain ⟨⟨y0, d0⟩, ⟨y1, d1⟩, ⟨y2, d2⟩, ⟨y3, d3⟩, hfz⟩ := hH2.out.2.1.cells
    obtain ⟨z0, z1, z2, z3, hfz2⟩ := hH2.out.1.cells
    have hE0 := Lib.hid (fun (V : World) (hV : w2.grownBy V (some w1.heap.size)) (hs : V.heap.size = w2.heap.size) => leaf_fin hM2 hH2.out.2.2 hb hm hbw1 hH2.out.2.1 hV (2) (wordB p (i + 1) curs3) 0)
    have hbw2 : b < w2.heap.size := by omega
    have hne1 : b ≠ w1.heap.size := by omega
    have hne2 : w1.heap.size ≠ b := by omega
    clear hM1' hM2 hg2 hH1 hH2 hz1
    generalize wordB p (i + 1) curs3 = wd at *
    go_wp2
    apply bodyPost_ret
    · exact (hE0.out _ (by repeat' (first | (with_reducible exact World.grownBy.refl _ _) | (with_reducible refine grown_trans ?_ (setCell_grown _ _ _ _)))) (by simp only [setCell_size])).2 _ _ 4 rfl rfl
    · rfl
    have e : r = (Tr.mk 2 wd 0 [], i + 2, left - 1, lab) := by rw [HR.out]
    rw [e]
    exact (hE0.out _ (by repeat' (first | (with_reducible exact World.grownBy.refl _ _) | (with_reducible refine grown_trans ?_ (setCell_grown _ _ _ _)))) (by simp only [setCell_size])).1
  · have HR := Lib.hid (show r = (Tr.mk 1 ⟨#[]⟩ 0 [], i + 1, left - 1, lab) by rw [HR.out]; rfl)
    go_enter Try.func114, Try.ntmps114
    (go_wp2_with fail; (with_reducible refine H1.mono ?_); rintro e w1 ⟨rfl, hM1, hg1⟩)
    have hFb := HF.1.grown hg1 (by omega)
    have hgA := grown_trans HF.2 hg1
    clear H1 HF hg1 c3 hf
    have c3 := hM1.cells.2.2.2.1
    generalize hb : w.heap.size = b at hFb hm ⊢
    have hbw1 : b < w1.heap.size := by obtain ⟨x0, x1, x2, x3, h⟩ := hFb; exact (Array.getElem?_eq_some_iff.1 h).1
    have hM1' := hM1.ext ((Ext.refl w1).alloc fourZ)
    have hH1 := Lib.hid (And.intro (Z4.new w1) (And.intro (hFb.ext ((Ext.refl w1).alloc fourZ)) (grown_trans hgA (grown_ext ((Ext.refl w1).alloc fourZ) _))))
    have hsz1 : (w1.alloc fourZ).heap.size = w1.heap.size + 1 := by simp
    have hz1 := Lib.hid hsz1
    have hE0 := Lib.hid (And.intro ((obs_end hM1 hgA hb hm (HT.mk 1 ⟨#[]⟩ 0 none 0 []) (HT.leaf_in _ _ _ _ _)).ext ((Ext.refl _).alloc (.cells #[.int .i64 1, .string ⟨#[]⟩, .int .i64 0, .slice none 0 0] 76))) hFb)
    clear hFb hgA hM1 hsz1
    obtain ⟨⟨y0, d0⟩, ⟨y1, d1⟩, ⟨y2, d2⟩, ⟨y3, d3⟩, hfz⟩ := hE0.out.2.cells
    have hbw2 : b < w1.heap.size := by omega
    have hne1 : b ≠ w1.heap.size := by omega
    have hne2 : w1.heap.size ≠ b := by omega
    clear hM1' hH1 hz1
    go_wp2
    apply bodyPost_ret (v := .agg #[.int .i64 1, .string ⟨#[]⟩, .int .i64 0, .slice none 0 0])
    · exact results_cell_row rfl _ _ b _ _ _ _ rfl (((Ext.refl _).alloc _).obj (hE0.out.2.put 1 ⟨#[]⟩ 0 (.slice none 0 0))) Try.underlying76 rfl (by kernel_rfl)
    · rfl
    have e : r = (Tr.mk 1 ⟨#[]⟩ 0 [], i + 1, left - 1, lab) := by rw [HR.out]
    rw [e]
    exact hE0.out.1

set_option maxRecDepth 100000 in
set_option maxHeartbeats 3200000 in
theorem mterm_mid (p : Pl) (d : Nat) (w : World) (m i : Nat) (left : Int) (lab : Nat) (h : Mk w m p i left lab) (hi : i + 2 ≤ 2 ^ 30) (hl1 : -(2 ^ 40) + 2 ≤ left) (hl2 : left ≤ 2 ^ 40) (hd : d ≤ 10) (hlow : 0 < left - 1) (hk : nextN p i 13 ≤ 2) :
    Calls Try.prog 114 #[.pointer (some ⟨m, 0, none⟩), .int .i64 (d + 1 : Nat)] w fun e w' => RetTm w m p (termT p (d + 1) i left lab) e w' := by
  have hd1 : decide (((d : Int) + 1) ≤ 0) = false := by simp <;> omega
  have hd2 : decide (left - 1 ≤ 0) = false := by simp; omega
  have hm : m < w.heap.size := (Array.getElem?_eq_some_iff.1 h.blk).1
  obtain ⟨c0, c1, c2, c3, c4, hf⟩ := h.cells
  have k1 := nextN_lo p i 13 (by omega)
  have k2 := nextN_hi p i 13 (by omega)
  have H1 := mn_calls _ m p i (left - 1) lab 13 ((h.setLeft (left - 1)).ext ((Ext.refl _).alloc fourZ)) (by omega) (by omega) (by omega)
  have HF := four_new w m (left - 1)
  clear h c0 c1 c2 c4
  have HR := Lib.hid (show termT p (d + 1) i left lab = ((termLeaf p (nextN p i 13) (i + 1)).1, (termLeaf p (nextN p i 13) (i + 1)).2, left - 1, lab) by simp only [termT]; rw [if_neg (by omega), if_pos hk])
  generalize termT p (d + 1) i left lab = r at *
  generalize hk0 : nextN p i 13 = k at *
  have hq2 : k = 0 ∨ k = 1 ∨ k = 2 := by omega
  clear hk0
  rcases hq2 with rfl | rfl | rfl
  · have HR := Lib.hid (show r = (Tr.mk 2 (wordB p (i + 1) curs3) 0 [], i + 2, left - 1, lab) by rw [HR.out]; rfl)
    go_enter Try.func114, Try.ntmps114
    (go_wp2_with fail; (with_reducible refine H1.mono ?_); rintro e w1 ⟨rfl, hM1, hg1⟩)
    have hFb := HF.1.grown hg1 (by omega)
    have hgA := grown_trans HF.2 hg1
    clear H1 HF hg1 c3 hf
    have c3 := hM1.cells.2.2.2.1
    generalize hb : w.heap.size = b at hFb hm ⊢
    have hbw1 : b < w1.heap.size := by obtain ⟨x0, x1, x2, x3, h⟩ := hFb; exact (Array.getElem?_eq_some_iff.1 h).1
    have hM1' := hM1.ext ((Ext.refl w1).alloc fourZ)
    have hH1 := Lib.hid (And.intro (Z4.new w1) (And.intro (hFb.ext ((Ext.refl w1).alloc fourZ)) (grown_trans hgA (grown_ext ((Ext.refl w1).alloc fourZ) _))))
    have hsz1 : (w1.alloc fourZ).heap.size = w1.heap.size + 1 := by simp
    have hz1 := Lib.hid hsz1
    clear hFb hgA hM1 hsz1
    have HWd := word3c hM1' (by omega)
    rw [hz1.out] at HWd
    (go_wp2_with fail; (with_reducible refine HWd.mono ?_); rintro e w2 ⟨rfl, hM2, hg2⟩)
    have hbt : w1.heap.size < w2.heap.size := by have h1 := hg2.size; simp at h1; omega
    have hH2 := Lib.hid (And.intro ((hH1.out.1.ext ((Ext.refl _).alloc _)).grown hg2 (by omega)) (And.intro ((hH1.out.2.1.ext ((Ext.refl _).alloc _)).grown hg2 (by omega)) (grown_trans (grown_trans hH1.out.2.2 (grown_ext ((Ext.refl _).alloc _) _)) hg2)))
    obtain ⟨⟨y0, d0⟩, ⟨y1, d1⟩, ⟨y2, d2⟩, ⟨y3, d3⟩, hfz⟩ := hH2.out.2.1.cells
    obtain ⟨z0, z1, z2, z3, hfz2⟩ := hH2.out.1.cells
    have hE0 := Lib.hid (fun (V : World) (hV : w2.grownBy V (some w1.heap.size)) (hs : V.heap.size = w2.heap.size) => leaf_fin hM2 hH2.out.2.2 hb hm hbw1 hH2.out.2.1 hV (2) (wordB p (i + 1) curs3) 0)
    have hbw2 : b < w2.heap.size := by omega
    have hne1 : b ≠ w1.heap.size := by omega
    have hne2 : w1.heap.size ≠ b := by omega
    clear hM1' hM2 hg2 hH1 hH2 hz1
    generalize wordB p (i + 1) curs3 = wd at *
    go_wp2
    apply bodyPost_ret
    · exact (hE0.out _ (by repeat' (first | (with_reducible exact World.grownBy.refl _ _) | (with_reducible refine grown_trans ?_ (setCell_grown _ _ _ _)))) (by simp only [setCell_size])).2 _ _ 4 rfl rfl
    · rfl
    have e : r = (Tr.mk 2 wd 0 [], i + 2, left - 1, lab) := by rw [HR.out]
    rw [e]
    exact (hE0.out _ (by repeat' (first | (with_reducible exact World.grownBy.refl _ _) | (with_reducible refine grown_trans ?_ (setCell_grown _ _ _ _)))) (by simp only [setCell_size])).1
  · have HR := Lib.hid (show r = (Tr.mk 2 (wordB p (i + 1) curs3) 0 [], i + 2, left - 1, lab) by rw [HR.out]; rfl)
    go_enter Try.func114, Try.ntmps114
    (go_wp2_with fail; (with_reducible refine H1.mono ?_); rintro e w1 ⟨rfl, hM1, hg1⟩)
    have hFb := HF.1.grown hg1 (by omega)
    have hgA := grown_trans HF.2 hg1
    clear H1 HF hg1 c3 hf
    have c3 := hM1.cells.2.2.2.1
    generalize hb : w.heap.size = b at hFb hm ⊢
    have hbw1 : b < w1.heap.size := by obtain ⟨x0, x1, x2, x3, h⟩ := hFb; exact (Array.getElem?_eq_some_iff.1 h).1
    have hM1' := hM1.ext ((Ext.refl w1).alloc fourZ)
    have hH1 := Lib.hid (And.intro (Z4.new w1) (And.intro (hFb.ext ((Ext.refl w1).alloc fourZ)) (grown_trans hgA (grown_ext ((Ext.refl w1).alloc fourZ) _))))
    have hsz1 : (w1.alloc fourZ).heap.size = w1.heap.size + 1 := by simp
    have hz1 := Lib.hid hsz1
    clear hFb hgA hM1 hsz1
    have HWd := word3c hM1' (by omega)
    rw [hz1.out] at HWd
    (go_wp2_with fail; (with_reducible refine HWd.mono ?_); rintro e w2 ⟨rfl, hM2, hg2⟩)
    have hbt : w1.heap.size < w2.heap.size := by have h1 := hg2.size; simp at h1; omega
    have hH2 := Lib.hid (And.intro ((hH1.out.1.ext ((Ext.refl _).alloc _)).grown hg2 (by omega)) (And.intro ((hH1.out.2.1.ext ((Ext.refl _).alloc _)).grown hg2 (by omega)) (grown_trans (grown_trans hH1.out.2.2 (grown_ext ((Ext.refl _).alloc _) _)) hg2)))
    obtain ⟨⟨y0, d0⟩, ⟨y1, d1⟩, ⟨y2, d2⟩, ⟨y3, d3⟩, hfz⟩ := hH2.out.2.1.cells
    obtain ⟨z0, z1, z2, z3, hfz2⟩ := hH2.out.1.cells
    have hE0 := Lib.hid (fun (V : World) (hV : w2.grownBy V (some w1.heap.size)) (hs : V.heap.size = w2.heap.size) => leaf_fin hM2 hH2.out.2.2 hb hm hbw1 hH2.out.2.1 hV (2) (wordB p (i + 1) curs3) 0)
    have hbw2 : b < w2.heap.size := by omega
    have hne1 : b ≠ w1.heap.size := by omega
    have hne2 : w1.heap.size ≠ b := by omega
    clear hM1' hM2 hg2 hH1 hH2 hz1
    generalize wordB p (i + 1) curs3 = wd at *
    go_wp2
    apply bodyPost_ret
    · exact (hE0.out _ (by repeat' (first | (with_reducible exact World.grownBy.refl _ _) | (with_reducible refine grown_trans ?_ (setCell_grown _ _ _ _)))) (by simp only [setCell_size])).2 _ _ 4 rfl rfl
    · rfl
    have e : r = (Tr.mk 2 wd 0 [], i + 2, left - 1, lab) := by rw [HR.out]
    rw [e]
    exact (hE0.out _ (by repeat' (first | (with_reducible exact World.grownBy.refl _ _) | (with_reducible refine grown_trans ?_ (setCell_grown _ _ _ _)))) (by simp only [setCell_size])).1
  · have HR := Lib.hid (show r = (Tr.mk 1 ⟨#[]⟩ 0 [], i + 1, left - 1, lab) by rw [HR.out]; rfl)
    go_enter Try.func114, Try.ntmps114
    (go_wp2_with fail; (with_reducible refine H1.mono ?_); rintro e w1 ⟨rfl, hM1, hg1⟩)
    have hFb := HF.1.grown hg1 (by omega)
    have hgA := grown_trans HF.2 hg1
    clear H1 HF hg1 c3 hf
    have c3 := hM1.cells.2.2.2.1
    generalize hb : w.heap.size = b at hFb hm ⊢
    have hbw1 : b < w1.heap.size := by obtain ⟨x0, x1, x2, x3, h⟩ := hFb; exact (Array.getElem?_eq_some_iff.1 h).1
    have hM1' := hM1.ext ((Ext.refl w1).alloc fourZ)
    have hH1 := Lib.hid (And.intro (Z4.new w1) (And.intro (hFb.ext ((Ext.refl w1).alloc fourZ)) (grown_trans hgA (grown_ext ((Ext.refl w1).alloc fourZ) _))))
    have hsz1 : (w1.alloc fourZ).heap.size = w1.heap.size + 1 := by simp
    have hz1 := Lib.hid hsz1
    have hE0 := Lib.hid (And.intro ((obs_end hM1 hgA hb hm (HT.mk 1 ⟨#[]⟩ 0 none 0 []) (HT.leaf_in _ _ _ _ _)).ext ((Ext.refl _).alloc (.cells #[.int .i64 1, .string ⟨#[]⟩, .int .i64 0, .slice none 0 0] 76))) hFb)
    clear hFb hgA hM1 hsz1
    obtain ⟨⟨y0, d0⟩, ⟨y1, d1⟩, ⟨y2, d2⟩, ⟨y3, d3⟩, hfz⟩ := hE0.out.2.cells
    have hbw2 : b < w1.heap.size := by omega
    have hne1 : b ≠ w1.heap.size := by omega
    have hne2 : w1.heap.size ≠ b := by omega
    clear hM1' hH1 hz1
    go_wp2
    apply bodyPost_ret (v := .agg #[.int .i64 1, .string ⟨#[]⟩, .int .i64 0, .slice none 0 0])
    · exact results_cell_row rfl _ _ b _ _ _ _ rfl (((Ext.refl _).alloc _).obj (hE0.out.2.put 1 ⟨#[]⟩ 0 (.slice none 0 0))) Try.underlying76 rfl (by kernel_rfl)
    · rfl
    have e : r = (Tr.mk 1 ⟨#[]⟩ 0 [], i + 1, left - 1, lab) := by rw [HR.out]
    rw [e]
    exact hE0.out.1

end Go.Proofs.Ytgjjngkmbplijaa

/- The maker of package play: contracts: a contract given, or from a day on. -/
namespace Go.Proofs.Ytgjjngkmbplijaa
open Go.RowKit
set_option linter.unusedSimpArgs false
set_option linter.unusedVariables false

set_option maxRecDepth 100000 in
set_option maxHeartbeats 3200000 in
theorem mterm_give (p : Pl) (d : Nat) (ih : TermAt p d) (w : World) (m i : Nat) (left : Int) (lab : Nat) (h : Mk w m p i left lab) (hi : i + costM (d + 1) ≤ 2 ^ 30) (hl1 : -(2 ^ 40) + costM (d + 1) ≤ left) (hl2 : left ≤ 2 ^ 40) (hlab : lab + costM (d + 1) ≤ 10 ^ 7) (hd : d ≤ 10) (hlow : 0 < left - 1) (hk : nextN p i 13 = 3 ∨ nextN p i 13 = 4) :
    Calls Try.prog 114 #[.pointer (some ⟨m, 0, none⟩), .int .i64 (d + 1 : Nat)] w fun e w' => RetTm w m p (termT p (d + 1) i left lab) e w' := by
  simp only [costM] at hi hl1 hlab
  unfold TermAt at ih
  have hd1 : decide (((d : Int) + 1) ≤ 0) = false := by simp <;> omega
  have hd2 : decide (left - 1 ≤ 0) = false := by simp; omega
  have hm : m < w.heap.size := (Array.getElem?_eq_some_iff.1 h.blk).1
  obtain ⟨c0, c1, c2, c3, c4, hf⟩ := h.cells
  have H1 := mn_calls _ m p i (left - 1) lab 13 ((h.setLeft (left - 1)).ext ((Ext.refl _).alloc fourZ)) (by omega) (by omega) (by omega)
  have HF := four_new w m (left - 1)
  clear h c0 c1 c2 c4
  have HR := Lib.hid (show termT p (d + 1) i left lab = (.mk 3 ⟨#[]⟩ 0 [(termT p d (i + 1) (left - 1) lab).1], (termT p d (i + 1) (left - 1) lab).2) by simp only [termT]; rw [if_neg (by omega), if_neg (by omega), if_pos (by omega)])
  generalize termT p (d + 1) i left lab = r at *
  generalize nextN p i 13 = k at *
  rcases hk with rfl | rfl
  · go_enter Try.func114, Try.ntmps114
    (go_wp2_with fail; (with_reducible refine H1.mono ?_); rintro e w1 ⟨rfl, hM1, hg1⟩)
    have hFb := HF.1.grown hg1 (by omega)
    have hgA := grown_trans HF.2 hg1
    clear H1 HF hg1 c3 hf
    have c3 := hM1.cells.2.2.2.1
    generalize hb : w.heap.size = b at hFb hm ⊢
    have hbw1 : b < w1.heap.size := by obtain ⟨x0, x1, x2, x3, h⟩ := hFb; exact (Array.getElem?_eq_some_iff.1 h).1
    have hM1' := hM1.ext ((Ext.refl w1).alloc fourZ)
    have hH1 := Lib.hid (And.intro (Z4.new w1) (And.intro (hFb.ext ((Ext.refl w1).alloc fourZ)) (grown_trans hgA (grown_ext ((Ext.refl w1).alloc fourZ) _))))
    have hsz1 : (w1.alloc fourZ).heap.size = w1.heap.size + 1 := by simp
    have hz1 := Lib.hid hsz1
    clear hFb hgA hM1 hsz1
    (go_wp2_with fail; (with_reducible refine (ih _ m (i + 1) (left - 1) lab (hM1') (by omega) (by omega) (by omega) (by omega)).mono ?_); rintro e w2 ⟨t2, rfl, ht2, hin2, hM2, hg2⟩)
    clear hM1' ih
    have hbt : w1.heap.size < w2.heap.size := by have := hg2.size; have := hz1.out; omega
    have hH2 := Lib.hid (And.intro (hH1.out.1.grown hg2 (by omega)) (And.intro (hH1.out.2.1.grown hg2 (by omega)) (grown_trans hH1.out.2.2 hg2)))
    have hu2 := hin2.weak (q' := (w1.heap.size < ·)) (fun y hy => by have := hz1.out; omega)
    obtain ⟨⟨y0, d0⟩, ⟨y1, d1⟩, ⟨y2, d2⟩, ⟨y3, d3⟩, hfz⟩ := hH2.out.2.1.cells
    obtain ⟨z0, z1, z2, z3, hfz2⟩ := hH2.out.1.cells
    have hE0 := Lib.hid (fun (V : World) (hV : w2.grownBy V (some w1.heap.size)) (hs : V.heap.size = w2.heap.size) => term_fin hM2 hH2.out.2.2 hb hm hbw1 hbt hH2.out.2.1 hV hs #[.int .i64 t2.kd, .string t2.s, .int .i64 t2.n, .slice t2.a t2.k.length t2.c] [t2] (by simp [cellsL, HT.cells]) (fun x hx => by
        simp only [List.mem_cons, List.not_mem_nil, or_false] at hx
        rcases hx with rfl
        · exact hu2) (by simp) (3) ⟨#[]⟩ 0 w2.heap.size 1 rfl rfl)
    have hbw2 : b < w2.heap.size := by omega
    have hne1 : b ≠ w1.heap.size := by omega
    have hne2 : w1.heap.size ≠ b := by omega
    have hN := Lib.hid ht2
    clear hu2 hM2 hg2 hin2 ht2 hH1 hH2
    unfold HT.val
    go_wp2
    apply bodyPost_ret
    · exact (hE0.out _ (by repeat' (first | (with_reducible exact World.grownBy.refl _ _) | (with_reducible refine grown_trans ?_ (setCell_grown _ _ _ _)))) (by simp only [setCell_size])).2 _ _ 4 rfl rfl
    · rfl
    have e : r = (Tr.mk 3 ⟨#[]⟩ 0 (HT.trL [t2]), (termT p d (i + 1) (left - 1) lab).2) := by rw [HR.out, ← hN.out]; rfl
    rw [e]
    exact (hE0.out _ (by repeat' (first | (with_reducible exact World.grownBy.refl _ _) | (with_reducible refine grown_trans ?_ (setCell_grown _ _ _ _)))) (by simp only [setCell_size])).1
  · go_enter Try.func114, Try.ntmps114
    (go_wp2_with fail; (with_reducible refine H1.mono ?_); rintro e w1 ⟨rfl, hM1, hg1⟩)
    have hFb := HF.1.grown hg1 (by omega)
    have hgA := grown_trans HF.2 hg1
    clear H1 HF hg1 c3 hf
    have c3 := hM1.cells.2.2.2.1
    generalize hb : w.heap.size = b at hFb hm ⊢
    have hbw1 : b < w1.heap.size := by obtain ⟨x0, x1, x2, x3, h⟩ := hFb; exact (Array.getElem?_eq_some_iff.1 h).1
    have hM1' := hM1.ext ((Ext.refl w1).alloc fourZ)
    have hH1 := Lib.hid (And.intro (Z4.new w1) (And.intro (hFb.ext ((Ext.refl w1).alloc fourZ)) (grown_trans hgA (grown_ext ((Ext.refl w1).alloc fourZ) _))))
    have hsz1 : (w1.alloc fourZ).heap.size = w1.heap.size + 1 := by simp
    have hz1 := Lib.hid hsz1
    clear hFb hgA hM1 hsz1
    (go_wp2_with fail; (with_reducible refine (ih _ m (i + 1) (left - 1) lab (hM1') (by omega) (by omega) (by omega) (by omega)).mono ?_); rintro e w2 ⟨t2, rfl, ht2, hin2, hM2, hg2⟩)
    clear hM1' ih
    have hbt : w1.heap.size < w2.heap.size := by have := hg2.size; have := hz1.out; omega
    have hH2 := Lib.hid (And.intro (hH1.out.1.grown hg2 (by omega)) (And.intro (hH1.out.2.1.grown hg2 (by omega)) (grown_trans hH1.out.2.2 hg2)))
    have hu2 := hin2.weak (q' := (w1.heap.size < ·)) (fun y hy => by have := hz1.out; omega)
    obtain ⟨⟨y0, d0⟩, ⟨y1, d1⟩, ⟨y2, d2⟩, ⟨y3, d3⟩, hfz⟩ := hH2.out.2.1.cells
    obtain ⟨z0, z1, z2, z3, hfz2⟩ := hH2.out.1.cells
    have hE0 := Lib.hid (fun (V : World) (hV : w2.grownBy V (some w1.heap.size)) (hs : V.heap.size = w2.heap.size) => term_fin hM2 hH2.out.2.2 hb hm hbw1 hbt hH2.out.2.1 hV hs #[.int .i64 t2.kd, .string t2.s, .int .i64 t2.n, .slice t2.a t2.k.length t2.c] [t2] (by simp [cellsL, HT.cells]) (fun x hx => by
        simp only [List.mem_cons, List.not_mem_nil, or_false] at hx
        rcases hx with rfl
        · exact hu2) (by simp) (3) ⟨#[]⟩ 0 w2.heap.size 1 rfl rfl)
    have hbw2 : b < w2.heap.size := by omega
    have hne1 : b ≠ w1.heap.size := by omega
    have hne2 : w1.heap.size ≠ b := by omega
    have hN := Lib.hid ht2
    clear hu2 hM2 hg2 hin2 ht2 hH1 hH2
    unfold HT.val
    go_wp2
    apply bodyPost_ret
    · exact (hE0.out _ (by repeat' (first | (with_reducible exact World.grownBy.refl _ _) | (with_reducible refine grown_trans ?_ (setCell_grown _ _ _ _)))) (by simp only [setCell_size])).2 _ _ 4 rfl rfl
    · rfl
    have e : r = (Tr.mk 3 ⟨#[]⟩ 0 (HT.trL [t2]), (termT p d (i + 1) (left - 1) lab).2) := by rw [HR.out, ← hN.out]; rfl
    rw [e]
    exact (hE0.out _ (by repeat' (first | (with_reducible exact World.grownBy.refl _ _) | (with_reducible refine grown_trans ?_ (setCell_grown _ _ _ _)))) (by simp only [setCell_size])).1

set_option maxRecDepth 100000 in
set_option maxHeartbeats 3200000 in
theorem mterm_when (p : Pl) (d : Nat) (ih : TermAt p d) (w : World) (m i : Nat) (left : Int) (lab : Nat) (h : Mk w m p i left lab) (hi : i + costM (d + 1) ≤ 2 ^ 30) (hl1 : -(2 ^ 40) + costM (d + 1) ≤ left) (hl2 : left ≤ 2 ^ 40) (hlab : lab + costM (d + 1) ≤ 10 ^ 7) (hd : d ≤ 10) (hlow : 0 < left - 1) (hk : nextN p i 13 = 11) :
    Calls Try.prog 114 #[.pointer (some ⟨m, 0, none⟩), .int .i64 (d + 1 : Nat)] w fun e w' => RetTm w m p (termT p (d + 1) i left lab) e w' := by
  simp only [costM] at hi hl1 hlab
  unfold TermAt at ih
  have hd1 : decide (((d : Int) + 1) ≤ 0) = false := by simp <;> omega
  have hd2 : decide (left - 1 ≤ 0) = false := by simp; omega
  have hm : m < w.heap.size := (Array.getElem?_eq_some_iff.1 h.blk).1
  obtain ⟨c0, c1, c2, c3, c4, hf⟩ := h.cells
  have H1 := mn_calls _ m p i (left - 1) lab 13 ((h.setLeft (left - 1)).ext ((Ext.refl _).alloc fourZ)) (by omega) (by omega) (by omega)
  have HF := four_new w m (left - 1)
  clear h c0 c1 c2 c4
  have HR := Lib.hid (show termT p (d + 1) i left lab = (.mk 7 ⟨#[]⟩ (nextN p (i + 1) 8) [(termT p d (i + 2) (left - 1) lab).1], (termT p d (i + 2) (left - 1) lab).2) by simp only [termT]; rw [if_neg (by omega), if_neg (by omega), if_neg (by omega), if_neg (by omega), if_neg (by omega), if_neg (by omega), if_pos (by omega)])
  generalize termT p (d + 1) i left lab = r at *
  generalize nextN p i 13 = k at *
  subst hk
  · go_enter Try.func114, Try.ntmps114
    (go_wp2_with fail; (with_reducible refine H1.mono ?_); rintro e w1 ⟨rfl, hM1, hg1⟩)
    have hFb := HF.1.grown hg1 (by omega)
    have hgA := grown_trans HF.2 hg1
    clear H1 HF hg1 c3 hf
    have c3 := hM1.cells.2.2.2.1
    generalize hb : w.heap.size = b at hFb hm ⊢
    have hbw1 : b < w1.heap.size := by obtain ⟨x0, x1, x2, x3, h⟩ := hFb; exact (Array.getElem?_eq_some_iff.1 h).1
    have hM1' := hM1.ext ((Ext.refl w1).alloc fourZ)
    have hH1 := Lib.hid (And.intro (Z4.new w1) (And.intro (hFb.ext ((Ext.refl w1).alloc fourZ)) (grown_trans hgA (grown_ext ((Ext.refl w1).alloc fourZ) _))))
    have hsz1 : (w1.alloc fourZ).heap.size = w1.heap.size + 1 := by simp
    have hz1 := Lib.hid hsz1
    clear hFb hgA hM1 hsz1
    (go_wp2_with fail; (with_reducible refine (mn_calls _ m p (i + 1) (left - 1) lab 8 hM1' (by omega) (by omega) (by omega)).mono ?_); rintro e w2 ⟨rfl, hM2, hg2⟩)
    have hbt2 : w1.heap.size < w2.heap.size := by have := hg2.size; have := hz1.out; omega
    have hH2 := Lib.hid (And.intro (hH1.out.1.grown hg2 (by omega)) (And.intro (hH1.out.2.1.grown hg2 (by omega)) (grown_trans hH1.out.2.2 hg2)))
    clear hM1'
    (go_wp2_with fail; (with_reducible refine (ih _ m (i + 2) (left - 1) lab (hM2) (by omega) (by omega) (by omega) (by omega)).mono ?_); rintro e w3 ⟨t3, rfl, ht3, hin3, hM3, hg3⟩)
    clear hM2 ih
    have hbt : w1.heap.size < w3.heap.size := by have := hg3.size; omega
    have hH3 := Lib.hid (And.intro (hH2.out.1.grown hg3 (by omega)) (And.intro (hH2.out.2.1.grown hg3 (by omega)) (grown_trans hH2.out.2.2 hg3)))
    have hu3 := hin3.weak (q' := (w1.heap.size < ·)) (fun y hy => by omega)
    obtain ⟨⟨y0, d0⟩, ⟨y1, d1⟩, ⟨y2, d2⟩, ⟨y3, d3⟩, hfz⟩ := hH3.out.2.1.cells
    obtain ⟨z0, z1, z2, z3, hfz2⟩ := hH3.out.1.cells
    have hE0 := Lib.hid (fun (V : World) (hV : w3.grownBy V (some w1.heap.size)) (hs : V.heap.size = w3.heap.size) => term_fin hM3 hH3.out.2.2 hb hm hbw1 hbt hH3.out.2.1 hV hs #[.int .i64 t3.kd, .string t3.s, .int .i64 t3.n, .slice t3.a t3.k.length t3.c] [t3] (by simp [cellsL, HT.cells]) (fun x hx => by
        simp only [List.mem_cons, List.not_mem_nil, or_false] at hx
        rcases hx with rfl
        · exact hu3) (by simp) (7) ⟨#[]⟩ (nextN p (i + 1) 8) w3.heap.size 1 rfl rfl)
    have hbw2 : b < w3.heap.size := by omega
    have hne1 : b ≠ w1.heap.size := by omega
    have hne2 : w1.heap.size ≠ b := by omega
    have hN := Lib.hid ht3
    clear hu3 hM3 hg3 hin3 ht3 hH1 hH2 hH3 hg2
    generalize nextN p (i + 1) 8 = dd at *
    unfold HT.val
    go_wp2
    apply bodyPost_ret
    · exact (hE0.out _ (by repeat' (first | (with_reducible exact World.grownBy.refl _ _) | (with_reducible refine grown_trans ?_ (setCell_grown _ _ _ _)))) (by simp only [setCell_size])).2 _ _ 4 rfl rfl
    · rfl
    have e : r = (Tr.mk 7 ⟨#[]⟩ dd (HT.trL [t3]), (termT p d (i + 2) (left - 1) lab).2) := by rw [HR.out, ← hN.out]; rfl
    rw [e]
    exact (hE0.out _ (by repeat' (first | (with_reducible exact World.grownBy.refl _ _) | (with_reducible refine grown_trans ?_ (setCell_grown _ _ _ _)))) (by simp only [setCell_size])).1

end Go.Proofs.Ytgjjngkmbplijaa

/- The maker of package play: contracts: two contracts put together. -/
namespace Go.Proofs.Ytgjjngkmbplijaa
open Go.RowKit
set_option linter.unusedSimpArgs false
set_option linter.unusedVariables false

set_option maxRecDepth 100000 in
set_option maxHeartbeats 3200000 in
theorem mterm_and (p : Pl) (d : Nat) (ih : TermAt p d) (w : World) (m i : Nat) (left : Int) (lab : Nat) (h : Mk w m p i left lab) (hi : i + costM (d + 1) ≤ 2 ^ 30) (hl1 : -(2 ^ 40) + costM (d + 1) ≤ left) (hl2 : left ≤ 2 ^ 40) (hlab : lab + costM (d + 1) ≤ 10 ^ 7) (hd : d ≤ 10) (hlow : 0 < left - 1) (hk : nextN p i 13 = 5 ∨ nextN p i 13 = 6) :
    Calls Try.prog 114 #[.pointer (some ⟨m, 0, none⟩), .int .i64 (d + 1 : Nat)] w fun e w' => RetTm w m p (termT p (d + 1) i left lab) e w' := by
  simp only [costM] at hi hl1 hlab
  unfold TermAt at ih
  have hd1 : decide (((d : Int) + 1) ≤ 0) = false := by simp <;> omega
  have hd2 : decide (left - 1 ≤ 0) = false := by simp; omega
  have hm : m < w.heap.size := (Array.getElem?_eq_some_iff.1 h.blk).1
  obtain ⟨c0, c1, c2, c3, c4, hf⟩ := h.cells
  have H1 := mn_calls _ m p i (left - 1) lab 13 ((h.setLeft (left - 1)).ext ((Ext.refl _).alloc fourZ)) (by omega) (by omega) (by omega)
  have HF := four_new w m (left - 1)
  clear h c0 c1 c2 c4
  have HR := Lib.hid (show termT p (d + 1) i left lab = (.mk 4 ⟨#[]⟩ 0 [(termT p d (i + 1) (left - 1) lab).1, (termT p d (termT p d (i + 1) (left - 1) lab).2.1 (termT p d (i + 1) (left - 1) lab).2.2.1 (termT p d (i + 1) (left - 1) lab).2.2.2).1], (termT p d (termT p d (i + 1) (left - 1) lab).2.1 (termT p d (i + 1) (left - 1) lab).2.2.1 (termT p d (i + 1) (left - 1) lab).2.2.2).2) by simp only [termT]; rw [if_neg (by omega), if_neg (by omega), if_neg (by omega), if_pos (by omega)])
  generalize termT p (d + 1) i left lab = r at *
  generalize nextN p i 13 = k at *
  rcases hk with rfl | rfl
  · go_enter Try.func114, Try.ntmps114
    (go_wp2_with fail; (with_reducible refine H1.mono ?_); rintro e w1 ⟨rfl, hM1, hg1⟩)
    have hFb := HF.1.grown hg1 (by omega)
    have hgA := grown_trans HF.2 hg1
    clear H1 HF hg1 c3 hf
    have c3 := hM1.cells.2.2.2.1
    generalize hb : w.heap.size = b at hFb hm ⊢
    have hbw1 : b < w1.heap.size := by obtain ⟨x0, x1, x2, x3, h⟩ := hFb; exact (Array.getElem?_eq_some_iff.1 h).1
    have hM1' := hM1.ext ((Ext.refl w1).alloc fourZ)
    have hH1 := Lib.hid (And.intro (Z4.new w1) (And.intro (hFb.ext ((Ext.refl w1).alloc fourZ)) (grown_trans hgA (grown_ext ((Ext.refl w1).alloc fourZ) _))))
    have hsz1 : (w1.alloc fourZ).heap.size = w1.heap.size + 1 := by simp
    have hz1 := Lib.hid hsz1
    clear hFb hgA hM1 hsz1
    have hne1 : b ≠ w1.heap.size := by omega
    have hne2 : w1.heap.size ≠ b := by omega
    obtain ⟨a1, a2, a3, a4⟩ := termT_i p d (i + 1) (left - 1) lab
    (go_wp2_with fail; (with_reducible refine (ih _ m (i + 1) (left - 1) lab (hM1') (by omega) (by omega) (by omega) (by omega)).mono ?_); rintro e w2 ⟨t2, rfl, ht2, hin2, hM2, hg2⟩)
    have hbt2 : w1.heap.size < w2.heap.size := by have := hg2.size; have := hz1.out; omega
    have hH2 := Lib.hid (And.intro (hH1.out.1.grown hg2 (by omega)) (And.intro (hH1.out.2.1.grown hg2 (by omega)) (grown_trans hH1.out.2.2 hg2)))
    have hu2 := hin2.weak (q' := (w1.heap.size < ·)) (fun y hy => by have := hz1.out; omega)
    have hX2 := Lib.hid (And.intro (hH2.out.1.ext ((Ext.refl w2).alloc (.cells #[.int .i64 t2.kd, .string t2.s, .int .i64 t2.n, .slice t2.a t2.k.length t2.c] 76))) (And.intro (hH2.out.2.1.ext ((Ext.refl w2).alloc (.cells #[.int .i64 t2.kd, .string t2.s, .int .i64 t2.n, .slice t2.a t2.k.length t2.c] 76))) (grown_trans hH2.out.2.2 (grown_ext ((Ext.refl w2).alloc (.cells #[.int .i64 t2.kd, .string t2.s, .int .i64 t2.n, .slice t2.a t2.k.length t2.c] 76)) _))))
    have hMx2 := hM2.ext ((Ext.refl w2).alloc (.cells #[.int .i64 t2.kd, .string t2.s, .int .i64 t2.n, .slice t2.a t2.k.length t2.c] 76))
    have hux2 := hu2.ext ((Ext.refl w2).alloc (.cells #[.int .i64 t2.kd, .string t2.s, .int .i64 t2.n, .slice t2.a t2.k.length t2.c] 76))
    have x2_0 : (w2.alloc (.cells #[.int .i64 t2.kd, .string t2.s, .int .i64 t2.n, .slice t2.a t2.k.length t2.c] 76)).cell? ⟨w2.heap.size, 0, none⟩ = some (.int .i64 t2.kd) := by rw [World.cell?_alloc_new]; rfl
    have x2_1 : (w2.alloc (.cells #[.int .i64 t2.kd, .string t2.s, .int .i64 t2.n, .slice t2.a t2.k.length t2.c] 76)).cell? ⟨w2.heap.size, 1, none⟩ = some (.string t2.s) := by rw [World.cell?_alloc_new]; rfl
    have x2_2 : (w2.alloc (.cells #[.int .i64 t2.kd, .string t2.s, .int .i64 t2.n, .slice t2.a t2.k.length t2.c] 76)).cell? ⟨w2.heap.size, 2, none⟩ = some (.int .i64 t2.n) := by rw [World.cell?_alloc_new]; rfl
    have x2_3 : (w2.alloc (.cells #[.int .i64 t2.kd, .string t2.s, .int .i64 t2.n, .slice t2.a t2.k.length t2.c] 76)).cell? ⟨w2.heap.size, 3, none⟩ = some (.slice t2.a t2.k.length t2.c) := by rw [World.cell?_alloc_new]; rfl
    have hszx2 : (w2.alloc (.cells #[.int .i64 t2.kd, .string t2.s, .int .i64 t2.n, .slice t2.a t2.k.length t2.c] 76)).heap.size = w2.heap.size + 1 := by simp
    have hN2 := Lib.hid ht2
    clear hM1' hM2 hg2 hin2 ht2 hu2
    generalize hA : termT p d (i + 1) (left - 1) lab = A at *
    unfold HT.val
    go_wp2_with fail
    have hn2a : w1.heap.size ≠ w2.heap.size := by omega
    have hn2b : w2.heap.size ≠ w1.heap.size := by omega
    have hwd : IntKind.i64.wrap (d : Int) = d := by rw [IntWalk.i64_left, IntWalk.wrap64_in (d : Int) (by omega)]
    go_region_held3 (fun W => W.cell? ⟨w2.heap.size, 0, none⟩ = some (.int .i64 t2.kd) ∧ W.cell? ⟨w2.heap.size, 1, none⟩ = some (.string t2.s) ∧ W.cell? ⟨w2.heap.size, 2, none⟩ = some (.int .i64 t2.n) ∧ W.cell? ⟨w2.heap.size, 3, none⟩ = some (.slice t2.a t2.k.length t2.c)) (go_keep)
      ((go_at_call 114; (with_reducible refine (ih _ m A.2.1 A.2.2.1 A.2.2.2 (hMx2.ext ((by repeat' (first | (with_reducible exact Ext.refl _) | (with_reducible assumption) | (with_reducible refine Ext.alloc ?_ _) | (with_reducible refine Ext.drew ?_) | (with_reducible refine Ext.drewN ?_ _) | (with_reducible refine Ext.setCell ?_ (by first | exact Nat.le_refl _ | (simp; done) | (simp; omega) | omega) _) | (with_reducible refine Ext.trans ?_ (by assumption)))))) (by omega) (by omega) (by omega) (by omega)).mono ?_); rintro e w3 ⟨t3, rfl, ht3, hin3, hM3, hg3⟩; have c2_0 : w3.cell? ⟨w2.heap.size, 0, none⟩ = some (.int .i64 t2.kd) := hg3.cell x2_0 (fun e => by injection e with e; simp only at e; omega); have c2_1 : w3.cell? ⟨w2.heap.size, 1, none⟩ = some (.string t2.s) := hg3.cell x2_1 (fun e => by injection e with e; simp only at e; omega); have c2_2 : w3.cell? ⟨w2.heap.size, 2, none⟩ = some (.int .i64 t2.n) := hg3.cell x2_2 (fun e => by injection e with e; simp only at e; omega); have c2_3 : w3.cell? ⟨w2.heap.size, 3, none⟩ = some (.slice t2.a t2.k.length t2.c) := hg3.cell x2_3 (fun e => by injection e with e; simp only at e; omega); have hHn := And.intro ((hX2.out.1.ext (Ext.refl _).drew).grown hg3 (by omega)) (And.intro ((hX2.out.2.1.ext (Ext.refl _).drew).grown hg3 (by omega)) (grown_trans (grown_trans hX2.out.2.2 (grown_ext (Ext.refl _).drew _)) hg3)); obtain ⟨⟨y0, d0⟩, ⟨y1, d1⟩, ⟨y2, d2⟩, ⟨y3, d3⟩, hfz⟩ := hHn.2.1.cells; obtain ⟨z0, z1, z2, z3, hfz2⟩ := hHn.1.cells; have hgs : w2.heap.size + 1 ≤ w3.heap.size := Nat.le_trans (Nat.le_of_eq hszx2.symm) hg3.size; have hbw2 : b < w3.heap.size := (by omega); have hbt : w1.heap.size < w3.heap.size := (by omega); have hH3 := Lib.hid hHn; clear hHn; have hu3 := hin3.weak (q' := (w1.heap.size < ·)) (fun y hy => Nat.lt_of_lt_of_le (show w1.heap.size < w2.heap.size + 1 by omega) (Nat.le_trans (Nat.le_of_eq hszx2.symm) hy)); have hv2 : t2.In (w1.heap.size < ·) w3 := (hux2.ext (Ext.refl _).drew).grown (fun y hy => by omega) hg3; have hP3 := Lib.hid (And.intro hM3 (And.intro hu3 (And.intro ht3 hv2))); clear hM3 hu3 ht3 hin3 hg3 hv2; unfold HT.val; have hgl2 : w2.heap.size < w3.heap.size := (by omega)))
    clear hwd
    all_goals (
      have hE0 := Lib.hid (fun (V : World) (hV : w3.grownBy V (some w1.heap.size)) (hs : V.heap.size = w3.heap.size) => term_fin hP3.out.1 hH3.out.2.2 hb hm hbw1 hbt hH3.out.2.1 hV hs #[.int .i64 t2.kd, .string t2.s, .int .i64 t2.n, .slice t2.a t2.k.length t2.c, .int .i64 t3.kd, .string t3.s, .int .i64 t3.n, .slice t3.a t3.k.length t3.c] [t2, t3] (by simp [cellsL, HT.cells]) (fun x hx => by
          simp only [List.mem_cons, List.not_mem_nil, or_false] at hx
          rcases hx with rfl | rfl
          · exact hP3.out.2.2.2
          · exact hP3.out.2.1) (by simp) (4) ⟨#[]⟩ 0 w3.heap.size 2 rfl rfl)
      go_wp2
      apply bodyPost_ret
      · exact (hE0.out _ (by repeat' (first | (with_reducible exact World.grownBy.refl _ _) | (with_reducible refine grown_trans ?_ (setCell_grown _ _ _ _)))) (by simp only [setCell_size])).2 _ _ 4 rfl rfl
      · rfl
      have e : r = (Tr.mk 4 ⟨#[]⟩ 0 (HT.trL [t2, t3]), (termT p d A.2.1 A.2.2.1 A.2.2.2).2) := by rw [HR.out, ← hN2.out, ← hP3.out.2.2.1]; rfl
      rw [e]
      exact (hE0.out _ (by repeat' (first | (with_reducible exact World.grownBy.refl _ _) | (with_reducible refine grown_trans ?_ (setCell_grown _ _ _ _)))) (by simp only [setCell_size])).1)
  · go_enter Try.func114, Try.ntmps114
    (go_wp2_with fail; (with_reducible refine H1.mono ?_); rintro e w1 ⟨rfl, hM1, hg1⟩)
    have hFb := HF.1.grown hg1 (by omega)
    have hgA := grown_trans HF.2 hg1
    clear H1 HF hg1 c3 hf
    have c3 := hM1.cells.2.2.2.1
    generalize hb : w.heap.size = b at hFb hm ⊢
    have hbw1 : b < w1.heap.size := by obtain ⟨x0, x1, x2, x3, h⟩ := hFb; exact (Array.getElem?_eq_some_iff.1 h).1
    have hM1' := hM1.ext ((Ext.refl w1).alloc fourZ)
    have hH1 := Lib.hid (And.intro (Z4.new w1) (And.intro (hFb.ext ((Ext.refl w1).alloc fourZ)) (grown_trans hgA (grown_ext ((Ext.refl w1).alloc fourZ) _))))
    have hsz1 : (w1.alloc fourZ).heap.size = w1.heap.size + 1 := by simp
    have hz1 := Lib.hid hsz1
    clear hFb hgA hM1 hsz1
    have hne1 : b ≠ w1.heap.size := by omega
    have hne2 : w1.heap.size ≠ b := by omega
    obtain ⟨a1, a2, a3, a4⟩ := termT_i p d (i + 1) (left - 1) lab
    (go_wp2_with fail; (with_reducible refine (ih _ m (i + 1) (left - 1) lab (hM1') (by omega) (by omega) (by omega) (by omega)).mono ?_); rintro e w2 ⟨t2, rfl, ht2, hin2, hM2, hg2⟩)
    have hbt2 : w1.heap.size < w2.heap.size := by have := hg2.size; have := hz1.out; omega
    have hH2 := Lib.hid (And.intro (hH1.out.1.grown hg2 (by omega)) (And.intro (hH1.out.2.1.grown hg2 (by omega)) (grown_trans hH1.out.2.2 hg2)))
    have hu2 := hin2.weak (q' := (w1.heap.size < ·)) (fun y hy => by have := hz1.out; omega)
    have hX2 := Lib.hid (And.intro (hH2.out.1.ext ((Ext.refl w2).alloc (.cells #[.int .i64 t2.kd, .string t2.s, .int .i64 t2.n, .slice t2.a t2.k.length t2.c] 76))) (And.intro (hH2.out.2.1.ext ((Ext.refl w2).alloc (.cells #[.int .i64 t2.kd, .string t2.s, .int .i64 t2.n, .slice t2.a t2.k.length t2.c] 76))) (grown_trans hH2.out.2.2 (grown_ext ((Ext.refl w2).alloc (.cells #[.int .i64 t2.kd, .string t2.s, .int .i64 t2.n, .slice t2.a t2.k.length t2.c] 76)) _))))
    have hMx2 := hM2.ext ((Ext.refl w2).alloc (.cells #[.int .i64 t2.kd, .string t2.s, .int .i64 t2.n, .slice t2.a t2.k.length t2.c] 76))
    have hux2 := hu2.ext ((Ext.refl w2).alloc (.cells #[.int .i64 t2.kd, .string t2.s, .int .i64 t2.n, .slice t2.a t2.k.length t2.c] 76))
    have x2_0 : (w2.alloc (.cells #[.int .i64 t2.kd, .string t2.s, .int .i64 t2.n, .slice t2.a t2.k.length t2.c] 76)).cell? ⟨w2.heap.size, 0, none⟩ = some (.int .i64 t2.kd) := by rw [World.cell?_alloc_new]; rfl
    have x2_1 : (w2.alloc (.cells #[.int .i64 t2.kd, .string t2.s, .int .i64 t2.n, .slice t2.a t2.k.length t2.c] 76)).cell? ⟨w2.heap.size, 1, none⟩ = some (.string t2.s) := by rw [World.cell?_alloc_new]; rfl
    have x2_2 : (w2.alloc (.cells #[.int .i64 t2.kd, .string t2.s, .int .i64 t2.n, .slice t2.a t2.k.length t2.c] 76)).cell? ⟨w2.heap.size, 2, none⟩ = some (.int .i64 t2.n) := by rw [World.cell?_alloc_new]; rfl
    have x2_3 : (w2.alloc (.cells #[.int .i64 t2.kd, .string t2.s, .int .i64 t2.n, .slice t2.a t2.k.length t2.c] 76)).cell? ⟨w2.heap.size, 3, none⟩ = some (.slice t2.a t2.k.length t2.c) := by rw [World.cell?_alloc_new]; rfl
    have hszx2 : (w2.alloc (.cells #[.int .i64 t2.kd, .string t2.s, .int .i64 t2.n, .slice t2.a t2.k.length t2.c] 76)).heap.size = w2.heap.size + 1 := by simp
    have hN2 := Lib.hid ht2
    clear hM1' hM2 hg2 hin2 ht2 hu2
    generalize hA : termT p d (i + 1) (left - 1) lab = A at *
    unfold HT.val
    go_wp2_with fail
    have hn2a : w1.heap.size ≠ w2.heap.size := by omega
    have hn2b : w2.heap.size ≠ w1.heap.size := by omega
    have hwd : IntKind.i64.wrap (d : Int) = d := by rw [IntWalk.i64_left, IntWalk.wrap64_in (d : Int) (by omega)]
    go_region_held3 (fun W => W.cell? ⟨w2.heap.size, 0, none⟩ = some (.int .i64 t2.kd) ∧ W.cell? ⟨w2.heap.size, 1, none⟩ = some (.string t2.s) ∧ W.cell? ⟨w2.heap.size, 2, none⟩ = some (.int .i64 t2.n) ∧ W.cell? ⟨w2.heap.size, 3, none⟩ = some (.slice t2.a t2.k.length t2.c)) (go_keep)
      ((go_at_call 114; (with_reducible refine (ih _ m A.2.1 A.2.2.1 A.2.2.2 (hMx2.ext ((by repeat' (first | (with_reducible exact Ext.refl _) | (with_reducible assumption) | (with_reducible refine Ext.alloc ?_ _) | (with_reducible refine Ext.drew ?_) | (with_reducible refine Ext.drewN ?_ _) | (with_reducible refine Ext.setCell ?_ (by first | exact Nat.le_refl _ | (simp; done) | (simp; omega) | omega) _) | (with_reducible refine Ext.trans ?_ (by assumption)))))) (by omega) (by omega) (by omega) (by omega)).mono ?_); rintro e w3 ⟨t3, rfl, ht3, hin3, hM3, hg3⟩; have c2_0 : w3.cell? ⟨w2.heap.size, 0, none⟩ = some (.int .i64 t2.kd) := hg3.cell x2_0 (fun e => by injection e with e; simp only at e; omega); have c2_1 : w3.cell? ⟨w2.heap.size, 1, none⟩ = some (.string t2.s) := hg3.cell x2_1 (fun e => by injection e with e; simp only at e; omega); have c2_2 : w3.cell? ⟨w2.heap.size, 2, none⟩ = some (.int .i64 t2.n) := hg3.cell x2_2 (fun e => by injection e with e; simp only at e; omega); have c2_3 : w3.cell? ⟨w2.heap.size, 3, none⟩ = some (.slice t2.a t2.k.length t2.c) := hg3.cell x2_3 (fun e => by injection e with e; simp only at e; omega); have hHn := And.intro ((hX2.out.1.ext (Ext.refl _).drew).grown hg3 (by omega)) (And.intro ((hX2.out.2.1.ext (Ext.refl _).drew).grown hg3 (by omega)) (grown_trans (grown_trans hX2.out.2.2 (grown_ext (Ext.refl _).drew _)) hg3)); obtain ⟨⟨y0, d0⟩, ⟨y1, d1⟩, ⟨y2, d2⟩, ⟨y3, d3⟩, hfz⟩ := hHn.2.1.cells; obtain ⟨z0, z1, z2, z3, hfz2⟩ := hHn.1.cells; have hgs : w2.heap.size + 1 ≤ w3.heap.size := Nat.le_trans (Nat.le_of_eq hszx2.symm) hg3.size; have hbw2 : b < w3.heap.size := (by omega); have hbt : w1.heap.size < w3.heap.size := (by omega); have hH3 := Lib.hid hHn; clear hHn; have hu3 := hin3.weak (q' := (w1.heap.size < ·)) (fun y hy => Nat.lt_of_lt_of_le (show w1.heap.size < w2.heap.size + 1 by omega) (Nat.le_trans (Nat.le_of_eq hszx2.symm) hy)); have hv2 : t2.In (w1.heap.size < ·) w3 := (hux2.ext (Ext.refl _).drew).grown (fun y hy => by omega) hg3; have hP3 := Lib.hid (And.intro hM3 (And.intro hu3 (And.intro ht3 hv2))); clear hM3 hu3 ht3 hin3 hg3 hv2; unfold HT.val; have hgl2 : w2.heap.size < w3.heap.size := (by omega)))
    clear hwd
    all_goals (
      have hE0 := Lib.hid (fun (V : World) (hV : w3.grownBy V (some w1.heap.size)) (hs : V.heap.size = w3.heap.size) => term_fin hP3.out.1 hH3.out.2.2 hb hm hbw1 hbt hH3.out.2.1 hV hs #[.int .i64 t2.kd, .string t2.s, .int .i64 t2.n, .slice t2.a t2.k.length t2.c, .int .i64 t3.kd, .string t3.s, .int .i64 t3.n, .slice t3.a t3.k.length t3.c] [t2, t3] (by simp [cellsL, HT.cells]) (fun x hx => by
          simp only [List.mem_cons, List.not_mem_nil, or_false] at hx
          rcases hx with rfl | rfl
          · exact hP3.out.2.2.2
          · exact hP3.out.2.1) (by simp) (4) ⟨#[]⟩ 0 w3.heap.size 2 rfl rfl)
      go_wp2
      apply bodyPost_ret
      · exact (hE0.out _ (by repeat' (first | (with_reducible exact World.grownBy.refl _ _) | (with_reducible refine grown_trans ?_ (setCell_grown _ _ _ _)))) (by simp only [setCell_size])).2 _ _ 4 rfl rfl
      · rfl
      have e : r = (Tr.mk 4 ⟨#[]⟩ 0 (HT.trL [t2, t3]), (termT p d A.2.1 A.2.2.1 A.2.2.2).2) := by rw [HR.out, ← hN2.out, ← hP3.out.2.2.1]; rfl
      rw [e]
      exact (hE0.out _ (by repeat' (first | (with_reducible exact World.grownBy.refl _ _) | (with_reducible refine grown_trans ?_ (setCell_grown _ _ _ _)))) (by simp only [setCell_size])).1)

end Go.Proofs.Ytgjjngkmbplijaa
