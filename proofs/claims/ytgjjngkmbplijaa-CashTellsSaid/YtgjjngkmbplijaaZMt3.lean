/- Texts put together: MTermD, MTermF, MTermG, MTermE. -/
import Derived.Test.YtgjjngkmbplijaaZMt1
import Derived.Test.YtgjjngkmbplijaaYDigits
import Derived.Deep.RegionHeld3
import Derived.Test.YtgjjngkmbplijaaZMt2
/- The maker of package play: contracts: a choice. -/
namespace Go.Proofs.Ytgjjngkmbplijaa
open Go.RowKit
set_option linter.unusedSimpArgs false
set_option linter.unusedVariables false

set_option maxRecDepth 100000 in
set_option maxHeartbeats 3200000 in
theorem mterm_or (p : Pl) (d : Nat) (ih : TermAt p d) (w : World) (m i : Nat) (left : Int) (lab : Nat) (h : Mk w m p i left lab) (hi : i + costM (d + 1) ≤ 2 ^ 30) (hl1 : -(2 ^ 40) + costM (d + 1) ≤ left) (hl2 : left ≤ 2 ^ 40) (hlab : lab + costM (d + 1) ≤ 10 ^ 7) (hd : d ≤ 10) (hlow : 0 < left - 1) (hk : nextN p i 13 = 7 ∨ nextN p i 13 = 8) :
    Calls Try.prog 114 #[.pointer (some ⟨m, 0, none⟩), .int .i64 (d + 1 : Nat)] w fun e w' => RetTm w m p (termT p (d + 1) i left lab) e w' := by
  simp only [costM] at hi hl1 hlab
  unfold TermAt at ih
  have hd1 : decide (((d : Int) + 1) ≤ 0) = false := by simp <;> omega
  have hd2 : decide (left - 1 ≤ 0) = false := by simp; omega
  have hm : m < w.heap.size := (Array.getElem?_eq_some_iff.1 h.blk).1
  obtain ⟨c0, c1, c2, c3, c4, hf⟩ := h.cells
  have H1 := mn_calls _ m p i (left - 1) lab 13 ((h.setLeft (left - 1)).ext ((Ext.refl _).alloc fourZ)) (by omega) (by omega) (by omega)
  have HF := four_new w m (left - 1)
  clear h c0 c1 c2 c4
  have HR := Lib.hid (show termT p (d + 1) i left lab = (.mk 5 (if nextN p (i + 1) 30 = 29 then ch1 else chB (lab + 1)) 0 [(termT p d (i + 2) (left - 1) (lab + 1)).1, (termT p d (termT p d (i + 2) (left - 1) (lab + 1)).2.1 (termT p d (i + 2) (left - 1) (lab + 1)).2.2.1 (termT p d (i + 2) (left - 1) (lab + 1)).2.2.2).1], (termT p d (termT p d (i + 2) (left - 1) (lab + 1)).2.1 (termT p d (i + 2) (left - 1) (lab + 1)).2.2.1 (termT p d (i + 2) (left - 1) (lab + 1)).2.2.2).2) by simp only [termT]; rw [if_neg (by omega), if_neg (by omega), if_neg (by omega), if_neg (by omega), if_pos (by omega)])
  generalize termT p (d + 1) i left lab = r at *
  generalize nextN p i 13 = k at *
  rcases hk with rfl | rfl
  · go_enter Try.func114, Try.ntmps114
    (go_wp2_with fail; (with_reducible refine H1.mono ?_); rintro e w1 ⟨rfl, hM1, hg1⟩)
    have hFb := HF.1.grown hg1 (by omega)
    have hgA := grown_trans HF.2 hg1
    clear H1 HF hg1 c3 hf
    have c3 := hM1.cells.2.2.2.1
    generalize hb : w.heap.size = b at hFb hm ⊢
    have hbw1 : b < w1.heap.size := by obtain ⟨x0, x1, x2, x3, h⟩ := hFb; exact (Array.getElem?_eq_some_iff.1 h).1
    have hM1' := hM1.ext ((Ext.refl w1).alloc fourZ)
    have hH1 := Lib.hid (And.intro (Z4.new w1) (And.intro (hFb.ext ((Ext.refl w1).alloc fourZ)) (grown_trans hgA (grown_ext ((Ext.refl w1).alloc fourZ) _))))
    have hsz1 : (w1.alloc fourZ).heap.size = w1.heap.size + 1 := by simp
    have hz1 := Lib.hid hsz1
    have hM10 := Lib.hid (And.intro hM1 (And.intro hFb hgA))
    clear hFb hgA hM1 hsz1
    have hc4 := hM10.out.1.cells
    obtain ⟨_, _, _, _, c4, hfm⟩ := hc4
    have hmw1 : m < w1.heap.size := by omega
    have hMV : Mk ((w1.setCell ⟨m, 4, none⟩ (.int .i64 ((lab : Int) + 1))).alloc fourZ) m p (i + 1) (left - 1) ((lab + 1 : Nat) : Int) := (hM10.out.1.setLabel ((lab : Int) + 1)).ext ((Ext.refl _).alloc fourZ)
    have hsv : ((w1.setCell ⟨m, 4, none⟩ (.int .i64 ((lab : Int) + 1))).alloc fourZ).heap.size = w1.heap.size + 1 := by simp [setCell_size]
    have hZV : Z4 ((w1.setCell ⟨m, 4, none⟩ (.int .i64 ((lab : Int) + 1))).alloc fourZ) w1.heap.size := by
      have h := Z4.new (w1.setCell ⟨m, 4, none⟩ (.int .i64 ((lab : Int) + 1)))
      rwa [setCell_size] at h
    have hgV := grown_trans hM10.out.2.2 (setCell_grown w1 m 4 (.int .i64 ((lab : Int) + 1)))
    have hFV := (hM10.out.2.1.grown (setCell_grown w1 m 4 (.int .i64 ((lab : Int) + 1))) (by omega)).ext ((Ext.refl _).alloc fourZ)
    have hHV := Lib.hid (And.intro hZV (And.intro hFV (grown_trans hgV (grown_ext ((Ext.refl _).alloc fourZ) _))))
    have HDg := fun W => digits_calls _ (lab + 1) W (Nat.lt_succ_self _) (by omega)
    have hds := decB_size 7 (lab + 1) (by omega)
    simp only [show ((lab + 1 : Nat) : Int) = (lab : Int) + 1 from rfl] at HDg
    have hsz0 : ¬ (9223372036854775807 < 2 + (decB (lab + 1)).size) := by omega
    have hsz3 : ¬ (9223372036854775807 < (decB (lab + 1)).size + 2) := by omega
    clear hM1' hH1 hz1 hM10 hZV hFV hgV hds
    have hne1 : b ≠ w1.heap.size := by omega
    have hne2 : w1.heap.size ≠ b := by omega
    unfold chB at HR
    generalize decB (lab + 1) = dg at *
    (go_wp2_with fail; (with_reducible refine (HDg _).mono ?_); rintro e w2 ⟨rfl, hx2⟩)
    clear HDg
    have hH2 := Lib.hid (And.intro (hHV.out.1.ext hx2) (And.intro (hHV.out.2.1.ext hx2) (grown_trans hHV.out.2.2 (grown_ext hx2 _))))
    have hbt2 : w1.heap.size < w2.heap.size := Nat.lt_of_lt_of_le (Nat.lt_succ_self _) (Nat.le_trans (Nat.le_of_eq hsv.symm) hx2.le)
    have hMV2 := hMV.ext hx2
    clear hMV hHV hx2 hsv c4 hfm
    (go_wp2_with fail; (with_reducible refine (mn_calls _ m p (i + 1) (left - 1) _ 30 hMV2 (by omega) (by omega) (by omega)).mono ?_); rintro e w3 ⟨rfl, hM3, hg3⟩)
    have hbt3 : w1.heap.size < w3.heap.size := by have := hg3.size; omega
    have hH3 := Lib.hid (And.intro (hH2.out.1.grown hg3 (by omega)) (And.intro (hH2.out.2.1.grown hg3 (by omega)) (grown_trans hH2.out.2.2 hg3)))
    clear hg3 hMV2 hH2
    obtain ⟨a1, a2, a3, a4⟩ := termT_i p d (i + 2) (left - 1) (lab + 1)
    generalize nextN p (i + 1) 30 = v30 at *
    have h30 : (v30 = 29 ∧ (if v30 = 29 then ch1 else ⟨#[99, 104]⟩ ++ dg) = ⟨#[99, 104, 49]⟩) ∨ ((v30 == 29) = false ∧ (if v30 = 29 then ch1 else ⟨#[99, 104]⟩ ++ dg) = ⟨#[99, 104]⟩ ++ dg) := by
      by_cases h : v30 = 29
      · exact .inl ⟨h, by rw [if_pos h]; rfl⟩
      · exact .inr ⟨by simpa using h, if_neg h⟩
    rcases h30 with ⟨rfl, hif⟩ | ⟨hb29, hif⟩
    · rw [hif] at HR
      clear hif
      (go_wp2_with fail; (with_reducible refine (ih _ m (i + 2) (left - 1) (lab + 1) hM3 (by omega) (by omega) (by omega) (by omega)).mono ?_); rintro e w4 ⟨t4, rfl, ht4, hin4, hM4, hg4⟩)
      have hbt4 : w1.heap.size < w4.heap.size := by have := hg4.size; omega
      have hH4 := Lib.hid (And.intro (hH3.out.1.grown hg4 (by omega)) (And.intro (hH3.out.2.1.grown hg4 (by omega)) (grown_trans hH3.out.2.2 hg4)))
      have hu4 := hin4.weak (q' := (w1.heap.size < ·)) (fun y hy => by omega)
      have hX4 := Lib.hid (And.intro (hH4.out.1.ext ((Ext.refl w4).alloc (.cells #[.int .i64 t4.kd, .string t4.s, .int .i64 t4.n, .slice t4.a t4.k.length t4.c] 76))) (And.intro (hH4.out.2.1.ext ((Ext.refl w4).alloc (.cells #[.int .i64 t4.kd, .string t4.s, .int .i64 t4.n, .slice t4.a t4.k.length t4.c] 76))) (grown_trans hH4.out.2.2 (grown_ext ((Ext.refl w4).alloc (.cells #[.int .i64 t4.kd, .string t4.s, .int .i64 t4.n, .slice t4.a t4.k.length t4.c] 76)) _))))
      have hMx4 := hM4.ext ((Ext.refl w4).alloc (.cells #[.int .i64 t4.kd, .string t4.s, .int .i64 t4.n, .slice t4.a t4.k.length t4.c] 76))
      have hux4 := hu4.ext ((Ext.refl w4).alloc (.cells #[.int .i64 t4.kd, .string t4.s, .int .i64 t4.n, .slice t4.a t4.k.length t4.c] 76))
      have x4_0 : (w4.alloc (.cells #[.int .i64 t4.kd, .string t4.s, .int .i64 t4.n, .slice t4.a t4.k.length t4.c] 76)).cell? ⟨w4.heap.size, 0, none⟩ = some (.int .i64 t4.kd) := by rw [World.cell?_alloc_new]; rfl
      have x4_1 : (w4.alloc (.cells #[.int .i64 t4.kd, .string t4.s, .int .i64 t4.n, .slice t4.a t4.k.length t4.c] 76)).cell? ⟨w4.heap.size, 1, none⟩ = some (.string t4.s) := by rw [World.cell?_alloc_new]; rfl
      have x4_2 : (w4.alloc (.cells #[.int .i64 t4.kd, .string t4.s, .int .i64 t4.n, .slice t4.a t4.k.length t4.c] 76)).cell? ⟨w4.heap.size, 2, none⟩ = some (.int .i64 t4.n) := by rw [World.cell?_alloc_new]; rfl
      have x4_3 : (w4.alloc (.cells #[.int .i64 t4.kd, .string t4.s, .int .i64 t4.n, .slice t4.a t4.k.length t4.c] 76)).cell? ⟨w4.heap.size, 3, none⟩ = some (.slice t4.a t4.k.length t4.c) := by rw [World.cell?_alloc_new]; rfl
      have hszx4 : (w4.alloc (.cells #[.int .i64 t4.kd, .string t4.s, .int .i64 t4.n, .slice t4.a t4.k.length t4.c] 76)).heap.size = w4.heap.size + 1 := by simp
      have hN4 := Lib.hid ht4
      clear hM3 hM4 hg4 hin4 ht4 hu4
      generalize hA : termT p d (i + 2) (left - 1) (lab + 1) = A at *
      unfold HT.val
      go_wp2_with fail
      have hn4a : w1.heap.size ≠ w4.heap.size := by omega
      have hn4b : w4.heap.size ≠ w1.heap.size := by omega
      have hwd : IntKind.i64.wrap (d : Int) = d := by rw [IntWalk.i64_left, IntWalk.wrap64_in (d : Int) (by omega)]
      go_region_held3 (fun W => W.cell? ⟨w4.heap.size, 0, none⟩ = some (.int .i64 t4.kd) ∧ W.cell? ⟨w4.heap.size, 1, none⟩ = some (.string t4.s) ∧ W.cell? ⟨w4.heap.size, 2, none⟩ = some (.int .i64 t4.n) ∧ W.cell? ⟨w4.heap.size, 3, none⟩ = some (.slice t4.a t4.k.length t4.c)) (go_keep)
        ((go_at_call 114; (with_reducible refine (ih _ m A.2.1 A.2.2.1 A.2.2.2 (hMx4.ext ((by repeat' (first | (with_reducible exact Ext.refl _) | (with_reducible assumption) | (with_reducible refine Ext.alloc ?_ _) | (with_reducible refine Ext.drew ?_) | (with_reducible refine Ext.drewN ?_ _) | (with_reducible refine Ext.setCell ?_ (by first | exact Nat.le_refl _ | (simp; done) | (simp; omega) | omega) _) | (with_reducible refine Ext.trans ?_ (by assumption)))))) (by omega) (by omega) (by omega) (by omega)).mono ?_); rintro e w5 ⟨t5, rfl, ht5, hin5, hM5, hg5⟩; have c4_0 : w5.cell? ⟨w4.heap.size, 0, none⟩ = some (.int .i64 t4.kd) := hg5.cell x4_0 (fun e => by injection e with e; simp only at e; omega); have c4_1 : w5.cell? ⟨w4.heap.size, 1, none⟩ = some (.string t4.s) := hg5.cell x4_1 (fun e => by injection e with e; simp only at e; omega); have c4_2 : w5.cell? ⟨w4.heap.size, 2, none⟩ = some (.int .i64 t4.n) := hg5.cell x4_2 (fun e => by injection e with e; simp only at e; omega); have c4_3 : w5.cell? ⟨w4.heap.size, 3, none⟩ = some (.slice t4.a t4.k.length t4.c) := hg5.cell x4_3 (fun e => by injection e with e; simp only at e; omega); have hHn := And.intro ((hX4.out.1.ext (Ext.refl _).drew).grown hg5 (by omega)) (And.intro ((hX4.out.2.1.ext (Ext.refl _).drew).grown hg5 (by omega)) (grown_trans (grown_trans hX4.out.2.2 (grown_ext (Ext.refl _).drew _)) hg5)); obtain ⟨⟨y0, d0⟩, ⟨y1, d1⟩, ⟨y2, d2⟩, ⟨y3, d3⟩, hfz⟩ := hHn.2.1.cells; obtain ⟨z0, z1, z2, z3, hfz2⟩ := hHn.1.cells; have hgs : w4.heap.size + 1 ≤ w5.heap.size := Nat.le_trans (Nat.le_of_eq hszx4.symm) hg5.size; have hbw2 : b < w5.heap.size := (by omega); have hbt : w1.heap.size < w5.heap.size := (by omega); have hH5 := Lib.hid hHn; clear hHn; have hu5 := hin5.weak (q' := (w1.heap.size < ·)) (fun y hy => Nat.lt_of_lt_of_le (show w1.heap.size < w4.heap.size + 1 by omega) (Nat.le_trans (Nat.le_of_eq hszx4.symm) hy)); have hv4 : t4.In (w1.heap.size < ·) w5 := (hux4.ext (Ext.refl _).drew).grown (fun y hy => by omega) hg5; have hP5 := Lib.hid (And.intro hM5 (And.intro hu5 (And.intro ht5 hv4))); clear hM5 hu5 ht5 hin5 hg5 hv4; unfold HT.val; have hgl4 : w4.heap.size < w5.heap.size := (by omega)))
      clear hwd
      all_goals (
        have hE0 := Lib.hid (fun (V : World) (hV : w5.grownBy V (some w1.heap.size)) (hs : V.heap.size = w5.heap.size) => term_fin hP5.out.1 hH5.out.2.2 hb hm hbw1 hbt hH5.out.2.1 hV hs #[.int .i64 t4.kd, .string t4.s, .int .i64 t4.n, .slice t4.a t4.k.length t4.c, .int .i64 t5.kd, .string t5.s, .int .i64 t5.n, .slice t5.a t5.k.length t5.c] [t4, t5] (by simp [cellsL, HT.cells]) (fun x hx => by
            simp only [List.mem_cons, List.not_mem_nil, or_false] at hx
            rcases hx with rfl | rfl
            · exact hP5.out.2.2.2
            · exact hP5.out.2.1) (by simp) (5) ⟨#[99, 104, 49]⟩ 0 w5.heap.size 2 rfl rfl)
        go_wp2
        apply bodyPost_ret
        · exact (hE0.out _ (by repeat' (first | (with_reducible exact World.grownBy.refl _ _) | (with_reducible refine grown_trans ?_ (setCell_grown _ _ _ _)))) (by simp only [setCell_size])).2 _ _ 4 rfl rfl
        · rfl
        have e : r = (Tr.mk 5 ⟨#[99, 104, 49]⟩ 0 (HT.trL [t4, t5]), (termT p d A.2.1 A.2.2.1 A.2.2.2).2) := by rw [HR.out, ← hN4.out, ← hP5.out.2.2.1]; rfl
        rw [e]
        exact (hE0.out _ (by repeat' (first | (with_reducible exact World.grownBy.refl _ _) | (with_reducible refine grown_trans ?_ (setCell_grown _ _ _ _)))) (by simp only [setCell_size])).1)
    · rw [hif] at HR
      clear hif
      (go_wp2_with fail; (with_reducible refine (ih _ m (i + 2) (left - 1) (lab + 1) hM3 (by omega) (by omega) (by omega) (by omega)).mono ?_); rintro e w4 ⟨t4, rfl, ht4, hin4, hM4, hg4⟩)
      have hbt4 : w1.heap.size < w4.heap.size := by have := hg4.size; omega
      have hH4 := Lib.hid (And.intro (hH3.out.1.grown hg4 (by omega)) (And.intro (hH3.out.2.1.grown hg4 (by omega)) (grown_trans hH3.out.2.2 hg4)))
      have hu4 := hin4.weak (q' := (w1.heap.size < ·)) (fun y hy => by omega)
      have hX4 := Lib.hid (And.intro (hH4.out.1.ext ((Ext.refl w4).alloc (.cells #[.int .i64 t4.kd, .string t4.s, .int .i64 t4.n, .slice t4.a t4.k.length t4.c] 76))) (And.intro (hH4.out.2.1.ext ((Ext.refl w4).alloc (.cells #[.int .i64 t4.kd, .string t4.s, .int .i64 t4.n, .slice t4.a t4.k.length t4.c] 76))) (grown_trans hH4.out.2.2 (grown_ext ((Ext.refl w4).alloc (.cells #[.int .i64 t4.kd, .string t4.s, .int .i64 t4.n, .slice t4.a t4.k.length t4.c] 76)) _))))
      have hMx4 := hM4.ext ((Ext.refl w4).alloc (.cells #[.int .i64 t4.kd, .string t4.s, .int .i64 t4.n, .slice t4.a t4.k.length t4.c] 76))
      have hux4 := hu4.ext ((Ext.refl w4).alloc (.cells #[.int .i64 t4.kd, .string t4.s, .int .i64 t4.n, .slice t4.a t4.k.length t4.c] 76))
      have x4_0 : (w4.alloc (.cells #[.int .i64 t4.kd, .string t4.s, .int .i64 t4.n, .slice t4.a t4.k.length t4.c] 76)).cell? ⟨w4.heap.size, 0, none⟩ = some (.int .i64 t4.kd) := by rw [World.cell?_alloc_new]; rfl
      have x4_1 : (w4.alloc (.cells #[.int .i64 t4.kd, .string t4.s, .int .i64 t4.n, .slice t4.a t4.k.length t4.c] 76)).cell? ⟨w4.heap.size, 1, none⟩ = some (.string t4.s) := by rw [World.cell?_alloc_new]; rfl
      have x4_2 : (w4.alloc (.cells #[.int .i64 t4.kd, .string t4.s, .int .i64 t4.n, .slice t4.a t4.k.length t4.c] 76)).cell? ⟨w4.heap.size, 2, none⟩ = some (.int .i64 t4.n) := by rw [World.cell?_alloc_new]; rfl
      have x4_3 : (w4.alloc (.cells #[.int .i64 t4.kd, .string t4.s, .int .i64 t4.n, .slice t4.a t4.k.length t4.c] 76)).cell? ⟨w4.heap.size, 3, none⟩ = some (.slice t4.a t4.k.length t4.c) := by rw [World.cell?_alloc_new]; rfl
      have hszx4 : (w4.alloc (.cells #[.int .i64 t4.kd, .string t4.s, .int .i64 t4.n, .slice t4.a t4.k.length t4.c] 76)).heap.size = w4.heap.size + 1 := by simp
      have hN4 := Lib.hid ht4
      clear hM3 hM4 hg4 hin4 ht4 hu4
      generalize hA : termT p d (i + 2) (left - 1) (lab + 1) = A at *
      unfold HT.val
      go_wp2_with fail
      have hn4a : w1.heap.size ≠ w4.heap.size := by omega
      have hn4b : w4.heap.size ≠ w1.heap.size := by omega
      have hwd : IntKind.i64.wrap (d : Int) = d := by rw [IntWalk.i64_left, IntWalk.wrap64_in (d : Int) (by omega)]
      go_region_held3 (fun W => W.cell? ⟨w4.heap.size, 0, none⟩ = some (.int .i64 t4.kd) ∧ W.cell? ⟨w4.heap.size, 1, none⟩ = some (.string t4.s) ∧ W.cell? ⟨w4.heap.size, 2, none⟩ = some (.int .i64 t4.n) ∧ W.cell? ⟨w4.heap.size, 3, none⟩ = some (.slice t4.a t4.k.length t4.c)) (go_keep)
        ((go_at_call 114; (with_reducible refine (ih _ m A.2.1 A.2.2.1 A.2.2.2 (hMx4.ext ((by repeat' (first | (with_reducible exact Ext.refl _) | (with_reducible assumption) | (with_reducible refine Ext.alloc ?_ _) | (with_reducible refine Ext.drew ?_) | (with_reducible refine Ext.drewN ?_ _) | (with_reducible refine Ext.setCell ?_ (by first | exact Nat.le_refl _ | (simp; done) | (simp; omega) | omega) _) | (with_reducible refine Ext.trans ?_ (by assumption)))))) (by omega) (by omega) (by omega) (by omega)).mono ?_); rintro e w5 ⟨t5, rfl, ht5, hin5, hM5, hg5⟩; have c4_0 : w5.cell? ⟨w4.heap.size, 0, none⟩ = some (.int .i64 t4.kd) := hg5.cell x4_0 (fun e => by injection e with e; simp only at e; omega); have c4_1 : w5.cell? ⟨w4.heap.size, 1, none⟩ = some (.string t4.s) := hg5.cell x4_1 (fun e => by injection e with e; simp only at e; omega); have c4_2 : w5.cell? ⟨w4.heap.size, 2, none⟩ = some (.int .i64 t4.n) := hg5.cell x4_2 (fun e => by injection e with e; simp only at e; omega); have c4_3 : w5.cell? ⟨w4.heap.size, 3, none⟩ = some (.slice t4.a t4.k.length t4.c) := hg5.cell x4_3 (fun e => by injection e with e; simp only at e; omega); have hHn := And.intro ((hX4.out.1.ext (Ext.refl _).drew).grown hg5 (by omega)) (And.intro ((hX4.out.2.1.ext (Ext.refl _).drew).grown hg5 (by omega)) (grown_trans (grown_trans hX4.out.2.2 (grown_ext (Ext.refl _).drew _)) hg5)); obtain ⟨⟨y0, d0⟩, ⟨y1, d1⟩, ⟨y2, d2⟩, ⟨y3, d3⟩, hfz⟩ := hHn.2.1.cells; obtain ⟨z0, z1, z2, z3, hfz2⟩ := hHn.1.cells; have hgs : w4.heap.size + 1 ≤ w5.heap.size := Nat.le_trans (Nat.le_of_eq hszx4.symm) hg5.size; have hbw2 : b < w5.heap.size := (by omega); have hbt : w1.heap.size < w5.heap.size := (by omega); have hH5 := Lib.hid hHn; clear hHn; have hu5 := hin5.weak (q' := (w1.heap.size < ·)) (fun y hy => Nat.lt_of_lt_of_le (show w1.heap.size < w4.heap.size + 1 by omega) (Nat.le_trans (Nat.le_of_eq hszx4.symm) hy)); have hv4 : t4.In (w1.heap.size < ·) w5 := (hux4.ext (Ext.refl _).drew).grown (fun y hy => by omega) hg5; have hP5 := Lib.hid (And.intro hM5 (And.intro hu5 (And.intro ht5 hv4))); clear hM5 hu5 ht5 hin5 hg5 hv4; unfold HT.val; have hgl4 : w4.heap.size < w5.heap.size := (by omega)))
      clear hwd
      all_goals (
        have hE0 := Lib.hid (fun (V : World) (hV : w5.grownBy V (some w1.heap.size)) (hs : V.heap.size = w5.heap.size) => term_fin hP5.out.1 hH5.out.2.2 hb hm hbw1 hbt hH5.out.2.1 hV hs #[.int .i64 t4.kd, .string t4.s, .int .i64 t4.n, .slice t4.a t4.k.length t4.c, .int .i64 t5.kd, .string t5.s, .int .i64 t5.n, .slice t5.a t5.k.length t5.c] [t4, t5] (by simp [cellsL, HT.cells]) (fun x hx => by
            simp only [List.mem_cons, List.not_mem_nil, or_false] at hx
            rcases hx with rfl | rfl
            · exact hP5.out.2.2.2
            · exact hP5.out.2.1) (by simp) (5) (⟨#[99, 104]⟩ ++ dg) 0 w5.heap.size 2 rfl rfl)
        go_wp2
        apply bodyPost_ret
        · exact (hE0.out _ (by repeat' (first | (with_reducible exact World.grownBy.refl _ _) | (with_reducible refine grown_trans ?_ (setCell_grown _ _ _ _)))) (by simp only [setCell_size])).2 _ _ 4 rfl rfl
        · rfl
        have e : r = (Tr.mk 5 (⟨#[99, 104]⟩ ++ dg) 0 (HT.trL [t4, t5]), (termT p d A.2.1 A.2.2.1 A.2.2.2).2) := by rw [HR.out, ← hN4.out, ← hP5.out.2.2.1]; rfl
        rw [e]
        exact (hE0.out _ (by repeat' (first | (with_reducible exact World.grownBy.refl _ _) | (with_reducible refine grown_trans ?_ (setCell_grown _ _ _ _)))) (by simp only [setCell_size])).1)
  · go_enter Try.func114, Try.ntmps114
    (go_wp2_with fail; (with_reducible refine H1.mono ?_); rintro e w1 ⟨rfl, hM1, hg1⟩)
    have hFb := HF.1.grown hg1 (by omega)
    have hgA := grown_trans HF.2 hg1
    clear H1 HF hg1 c3 hf
    have c3 := hM1.cells.2.2.2.1
    generalize hb : w.heap.size = b at hFb hm ⊢
    have hbw1 : b < w1.heap.size := by obtain ⟨x0, x1, x2, x3, h⟩ := hFb; exact (Array.getElem?_eq_some_iff.1 h).1
    have hM1' := hM1.ext ((Ext.refl w1).alloc fourZ)
    have hH1 := Lib.hid (And.intro (Z4.new w1) (And.intro (hFb.ext ((Ext.refl w1).alloc fourZ)) (grown_trans hgA (grown_ext ((Ext.refl w1).alloc fourZ) _))))
    have hsz1 : (w1.alloc fourZ).heap.size = w1.heap.size + 1 := by simp
    have hz1 := Lib.hid hsz1
    have hM10 := Lib.hid (And.intro hM1 (And.intro hFb hgA))
    clear hFb hgA hM1 hsz1
    have hc4 := hM10.out.1.cells
    obtain ⟨_, _, _, _, c4, hfm⟩ := hc4
    have hmw1 : m < w1.heap.size := by omega
    have hMV : Mk ((w1.setCell ⟨m, 4, none⟩ (.int .i64 ((lab : Int) + 1))).alloc fourZ) m p (i + 1) (left - 1) ((lab + 1 : Nat) : Int) := (hM10.out.1.setLabel ((lab : Int) + 1)).ext ((Ext.refl _).alloc fourZ)
    have hsv : ((w1.setCell ⟨m, 4, none⟩ (.int .i64 ((lab : Int) + 1))).alloc fourZ).heap.size = w1.heap.size + 1 := by simp [setCell_size]
    have hZV : Z4 ((w1.setCell ⟨m, 4, none⟩ (.int .i64 ((lab : Int) + 1))).alloc fourZ) w1.heap.size := by
      have h := Z4.new (w1.setCell ⟨m, 4, none⟩ (.int .i64 ((lab : Int) + 1)))
      rwa [setCell_size] at h
    have hgV := grown_trans hM10.out.2.2 (setCell_grown w1 m 4 (.int .i64 ((lab : Int) + 1)))
    have hFV := (hM10.out.2.1.grown (setCell_grown w1 m 4 (.int .i64 ((lab : Int) + 1))) (by omega)).ext ((Ext.refl _).alloc fourZ)
    have hHV := Lib.hid (And.intro hZV (And.intro hFV (grown_trans hgV (grown_ext ((Ext.refl _).alloc fourZ) _))))
    have HDg := fun W => digits_calls _ (lab + 1) W (Nat.lt_succ_self _) (by omega)
    have hds := decB_size 7 (lab + 1) (by omega)
    simp only [show ((lab + 1 : Nat) : Int) = (lab : Int) + 1 from rfl] at HDg
    have hsz0 : ¬ (9223372036854775807 < 2 + (decB (lab + 1)).size) := by omega
    have hsz3 : ¬ (9223372036854775807 < (decB (lab + 1)).size + 2) := by omega
    clear hM1' hH1 hz1 hM10 hZV hFV hgV hds
    have hne1 : b ≠ w1.heap.size := by omega
    have hne2 : w1.heap.size ≠ b := by omega
    unfold chB at HR
    generalize decB (lab + 1) = dg at *
    (go_wp2_with fail; (with_reducible refine (HDg _).mono ?_); rintro e w2 ⟨rfl, hx2⟩)
    clear HDg
    have hH2 := Lib.hid (And.intro (hHV.out.1.ext hx2) (And.intro (hHV.out.2.1.ext hx2) (grown_trans hHV.out.2.2 (grown_ext hx2 _))))
    have hbt2 : w1.heap.size < w2.heap.size := Nat.lt_of_lt_of_le (Nat.lt_succ_self _) (Nat.le_trans (Nat.le_of_eq hsv.symm) hx2.le)
    have hMV2 := hMV.ext hx2
    clear hMV hHV hx2 hsv c4 hfm
    (go_wp2_with fail; (with_reducible refine (mn_calls _ m p (i + 1) (left - 1) _ 30 hMV2 (by omega) (by omega) (by omega)).mono ?_); rintro e w3 ⟨rfl, hM3, hg3⟩)
    have hbt3 : w1.heap.size < w3.heap.size := by have := hg3.size; omega
    have hH3 := Lib.hid (And.intro (hH2.out.1.grown hg3 (by omega)) (And.intro (hH2.out.2.1.grown hg3 (by omega)) (grown_trans hH2.out.2.2 hg3)))
    clear hg3 hMV2 hH2
    obtain ⟨a1, a2, a3, a4⟩ := termT_i p d (i + 2) (left - 1) (lab + 1)
    generalize nextN p (i + 1) 30 = v30 at *
    have h30 : (v30 = 29 ∧ (if v30 = 29 then ch1 else ⟨#[99, 104]⟩ ++ dg) = ⟨#[99, 104, 49]⟩) ∨ ((v30 == 29) = false ∧ (if v30 = 29 then ch1 else ⟨#[99, 104]⟩ ++ dg) = ⟨#[99, 104]⟩ ++ dg) := by
      by_cases h : v30 = 29
      · exact .inl ⟨h, by rw [if_pos h]; rfl⟩
      · exact .inr ⟨by simpa using h, if_neg h⟩
    rcases h30 with ⟨rfl, hif⟩ | ⟨hb29, hif⟩
    · rw [hif] at HR
      clear hif
      (go_wp2_with fail; (with_reducible refine (ih _ m (i + 2) (left - 1) (lab + 1) hM3 (by omega) (by omega) (by omega) (by omega)).mono ?_); rintro e w4 ⟨t4, rfl, ht4, hin4, hM4, hg4⟩)
      have hbt4 : w1.heap.size < w4.heap.size := by have := hg4.size; omega
      have hH4 := Lib.hid (And.intro (hH3.out.1.grown hg4 (by omega)) (And.intro (hH3.out.2.1.grown hg4 (by omega)) (grown_trans hH3.out.2.2 hg4)))
      have hu4 := hin4.weak (q' := (w1.heap.size < ·)) (fun y hy => by omega)
      have hX4 := Lib.hid (And.intro (hH4.out.1.ext ((Ext.refl w4).alloc (.cells #[.int .i64 t4.kd, .string t4.s, .int .i64 t4.n, .slice t4.a t4.k.length t4.c] 76))) (And.intro (hH4.out.2.1.ext ((Ext.refl w4).alloc (.cells #[.int .i64 t4.kd, .string t4.s, .int .i64 t4.n, .slice t4.a t4.k.length t4.c] 76))) (grown_trans hH4.out.2.2 (grown_ext ((Ext.refl w4).alloc (.cells #[.int .i64 t4.kd, .string t4.s, .int .i64 t4.n, .slice t4.a t4.k.length t4.c] 76)) _))))
      have hMx4 := hM4.ext ((Ext.refl w4).alloc (.cells #[.int .i64 t4.kd, .string t4.s, .int .i64 t4.n, .slice t4.a t4.k.length t4.c] 76))
      have hux4 := hu4.ext ((Ext.refl w4).alloc (.cells #[.int .i64 t4.kd, .string t4.s, .int .i64 t4.n, .slice t4.a t4.k.length t4.c] 76))
      have x4_0 : (w4.alloc (.cells #[.int .i64 t4.kd, .string t4.s, .int .i64 t4.n, .slice t4.a t4.k.length t4.c] 76)).cell? ⟨w4.heap.size, 0, none⟩ = some (.int .i64 t4.kd) := by rw [World.cell?_alloc_new]; rfl
      have x4_1 : (w4.alloc (.cells #[.int .i64 t4.kd, .string t4.s, .int .i64 t4.n, .slice t4.a t4.k.length t4.c] 76)).cell? ⟨w4.heap.size, 1, none⟩ = some (.string t4.s) := by rw [World.cell?_alloc_new]; rfl
      have x4_2 : (w4.alloc (.cells #[.int .i64 t4.kd, .string t4.s, .int .i64 t4.n, .slice t4.a t4.k.length t4.c] 76)).cell? ⟨w4.heap.size, 2, none⟩ = some (.int .i64 t4.n) := by rw [World.cell?_alloc_new]; rfl
      have x4_3 : (w4.alloc (.cells #[.int .i64 t4.kd, .string t4.s, .int .i64 t4.n, .slice t4.a t4.k.length t4.c] 76)).cell? ⟨w4.heap.size, 3, none⟩ = some (.slice t4.a t4.k.length t4.c) := by rw [World.cell?_alloc_new]; rfl
      have hszx4 : (w4.alloc (.cells #[.int .i64 t4.kd, .string t4.s, .int .i64 t4.n, .slice t4.a t4.k.length t4.c] 76)).heap.size = w4.heap.size + 1 := by simp
      have hN4 := Lib.hid ht4
      clear hM3 hM4 hg4 hin4 ht4 hu4
      generalize hA : termT p d (i + 2) (left - 1) (lab + 1) = A at *
      unfold HT.val
      go_wp2_with fail
      have hn4a : w1.heap.size ≠ w4.heap.size := by omega
      have hn4b : w4.heap.size ≠ w1.heap.size := by omega
      have hwd : IntKind.i64.wrap (d : Int) = d := by rw [IntWalk.i64_left, IntWalk.wrap64_in (d : Int) (by omega)]
      go_region_held3 (fun W => W.cell? ⟨w4.heap.size, 0, none⟩ = some (.int .i64 t4.kd) ∧ W.cell? ⟨w4.heap.size, 1, none⟩ = some (.string t4.s) ∧ W.cell? ⟨w4.heap.size, 2, none⟩ = some (.int .i64 t4.n) ∧ W.cell? ⟨w4.heap.size, 3, none⟩ = some (.slice t4.a t4.k.length t4.c)) (go_keep)
        ((go_at_call 114; (with_reducible refine (ih _ m A.2.1 A.2.2.1 A.2.2.2 (hMx4.ext ((by repeat' (first | (with_reducible exact Ext.refl _) | (with_reducible assumption) | (with_reducible refine Ext.alloc ?_ _) | (with_reducible refine Ext.drew ?_) | (with_reducible refine Ext.drewN ?_ _) | (with_reducible refine Ext.setCell ?_ (by first | exact Nat.le_refl _ | (simp; done) | (simp; omega) | omega) _) | (with_reducible refine Ext.trans ?_ (by assumption)))))) (by omega) (by omega) (by omega) (by omega)).mono ?_); rintro e w5 ⟨t5, rfl, ht5, hin5, hM5, hg5⟩; have c4_0 : w5.cell? ⟨w4.heap.size, 0, none⟩ = some (.int .i64 t4.kd) := hg5.cell x4_0 (fun e => by injection e with e; simp only at e; omega); have c4_1 : w5.cell? ⟨w4.heap.size, 1, none⟩ = some (.string t4.s) := hg5.cell x4_1 (fun e => by injection e with e; simp only at e; omega); have c4_2 : w5.cell? ⟨w4.heap.size, 2, none⟩ = some (.int .i64 t4.n) := hg5.cell x4_2 (fun e => by injection e with e; simp only at e; omega); have c4_3 : w5.cell? ⟨w4.heap.size, 3, none⟩ = some (.slice t4.a t4.k.length t4.c) := hg5.cell x4_3 (fun e => by injection e with e; simp only at e; omega); have hHn := And.intro ((hX4.out.1.ext (Ext.refl _).drew).grown hg5 (by omega)) (And.intro ((hX4.out.2.1.ext (Ext.refl _).drew).grown hg5 (by omega)) (grown_trans (grown_trans hX4.out.2.2 (grown_ext (Ext.refl _).drew _)) hg5)); obtain ⟨⟨y0, d0⟩, ⟨y1, d1⟩, ⟨y2, d2⟩, ⟨y3, d3⟩, hfz⟩ := hHn.2.1.cells; obtain ⟨z0, z1, z2, z3, hfz2⟩ := hHn.1.cells; have hgs : w4.heap.size + 1 ≤ w5.heap.size := Nat.le_trans (Nat.le_of_eq hszx4.symm) hg5.size; have hbw2 : b < w5.heap.size := (by omega); have hbt : w1.heap.size < w5.heap.size := (by omega); have hH5 := Lib.hid hHn; clear hHn; have hu5 := hin5.weak (q' := (w1.heap.size < ·)) (fun y hy => Nat.lt_of_lt_of_le (show w1.heap.size < w4.heap.size + 1 by omega) (Nat.le_trans (Nat.le_of_eq hszx4.symm) hy)); have hv4 : t4.In (w1.heap.size < ·) w5 := (hux4.ext (Ext.refl _).drew).grown (fun y hy => by omega) hg5; have hP5 := Lib.hid (And.intro hM5 (And.intro hu5 (And.intro ht5 hv4))); clear hM5 hu5 ht5 hin5 hg5 hv4; unfold HT.val; have hgl4 : w4.heap.size < w5.heap.size := (by omega)))
      clear hwd
      all_goals (
        have hE0 := Lib.hid (fun (V : World) (hV : w5.grownBy V (some w1.heap.size)) (hs : V.heap.size = w5.heap.size) => term_fin hP5.out.1 hH5.out.2.2 hb hm hbw1 hbt hH5.out.2.1 hV hs #[.int .i64 t4.kd, .string t4.s, .int .i64 t4.n, .slice t4.a t4.k.length t4.c, .int .i64 t5.kd, .string t5.s, .int .i64 t5.n, .slice t5.a t5.k.length t5.c] [t4, t5] (by simp [cellsL, HT.cells]) (fun x hx => by
            simp only [List.mem_cons, List.not_mem_nil, or_false] at hx
            rcases hx with rfl | rfl
            · exact hP5.out.2.2.2
            · exact hP5.out.2.1) (by simp) (5) ⟨#[99, 104, 49]⟩ 0 w5.heap.size 2 rfl rfl)
        go_wp2
        apply bodyPost_ret
        · exact (hE0.out _ (by repeat' (first | (with_reducible exact World.grownBy.refl _ _) | (with_reducible refine grown_trans ?_ (setCell_grown _ _ _ _)))) (by simp only [setCell_size])).2 _ _ 4 rfl rfl
        · rfl
        have e : r = (Tr.mk 5 ⟨#[99, 104, 49]⟩ 0 (HT.trL [t4, t5]), (termT p d A.2.1 A.2.2.1 A.2.2.2).2) := by rw [HR.out, ← hN4.out, ← hP5.out.2.2.1]; rfl
        rw [e]
        exact (hE0.out _ (by repeat' (first | (with_reducible exact World.grownBy.refl _ _) | (with_reducible refine grown_trans ?_ (setCell_grown _ _ _ _)))) (by simp only [setCell_size])).1)
    · rw [hif] at HR
      clear hif
      (go_wp2_with fail; (with_reducible refine (ih _ m (i + 2) (left - 1) (lab + 1) hM3 (by omega) (by omega) (by omega) (by omega)).mono ?_); rintro e w4 ⟨t4, rfl, ht4, hin4, hM4, hg4⟩)
      have hbt4 : w1.heap.size < w4.heap.size := by have := hg4.size; omega
      have hH4 := Lib.hid (And.intro (hH3.out.1.grown hg4 (by omega)) (And.intro (hH3.out.2.1.grown hg4 (by omega)) (grown_trans hH3.out.2.2 hg4)))
      have hu4 := hin4.weak (q' := (w1.heap.size < ·)) (fun y hy => by omega)
      have hX4 := Lib.hid (And.intro (hH4.out.1.ext ((Ext.refl w4).alloc (.cells #[.int .i64 t4.kd, .string t4.s, .int .i64 t4.n, .slice t4.a t4.k.length t4.c] 76))) (And.intro (hH4.out.2.1.ext ((Ext.refl w4).alloc (.cells #[.int .i64 t4.kd, .string t4.s, .int .i64 t4.n, .slice t4.a t4.k.length t4.c] 76))) (grown_trans hH4.out.2.2 (grown_ext ((Ext.refl w4).alloc (.cells #[.int .i64 t4.kd, .string t4.s, .int .i64 t4.n, .slice t4.a t4.k.length t4.c] 76)) _))))
      have hMx4 := hM4.ext ((Ext.refl w4).alloc (.cells #[.int .i64 t4.kd, .string t4.s, .int .i64 t4.n, .slice t4.a t4.k.length t4.c] 76))
      have hux4 := hu4.ext ((Ext.refl w4).alloc (.cells #[.int .i64 t4.kd, .string t4.s, .int .i64 t4.n, .slice t4.a t4.k.length t4.c] 76))
      have x4_0 : (w4.alloc (.cells #[.int .i64 t4.kd, .string t4.s, .int .i64 t4.n, .slice t4.a t4.k.length t4.c] 76)).cell? ⟨w4.heap.size, 0, none⟩ = some (.int .i64 t4.kd) := by rw [World.cell?_alloc_new]; rfl
      have x4_1 : (w4.alloc (.cells #[.int .i64 t4.kd, .string t4.s, .int .i64 t4.n, .slice t4.a t4.k.length t4.c] 76)).cell? ⟨w4.heap.size, 1, none⟩ = some (.string t4.s) := by rw [World.cell?_alloc_new]; rfl
      have x4_2 : (w4.alloc (.cells #[.int .i64 t4.kd, .string t4.s, .int .i64 t4.n, .slice t4.a t4.k.length t4.c] 76)).cell? ⟨w4.heap.size, 2, none⟩ = some (.int .i64 t4.n) := by rw [World.cell?_alloc_new]; rfl
      have x4_3 : (w4.alloc (.cells #[.int .i64 t4.kd, .string t4.s, .int .i64 t4.n, .slice t4.a t4.k.length t4.c] 76)).cell? ⟨w4.heap.size, 3, none⟩ = some (.slice t4.a t4.k.length t4.c) := by rw [World.cell?_alloc_new]; rfl
      have hszx4 : (w4.alloc (.cells #[.int .i64 t4.kd, .string t4.s, .int .i64 t4.n, .slice t4.a t4.k.length t4.c] 76)).heap.size = w4.heap.size + 1 := by simp
      have hN4 := Lib.hid ht4
      clear hM3 hM4 hg4 hin4 ht4 hu4
      generalize hA : termT p d (i + 2) (left - 1) (lab + 1) = A at *
      unfold HT.val
      go_wp2_with fail
      have hn4a : w1.heap.size ≠ w4.heap.size := by omega
      have hn4b : w4.heap.size ≠ w1.heap.size := by omega
      have hwd : IntKind.i64.wrap (d : Int) = d := by rw [IntWalk.i64_left, IntWalk.wrap64_in (d : Int) (by omega)]
      go_region_held3 (fun W => W.cell? ⟨w4.heap.size, 0, none⟩ = some (.int .i64 t4.kd) ∧ W.cell? ⟨w4.heap.size, 1, none⟩ = some (.string t4.s) ∧ W.cell? ⟨w4.heap.size, 2, none⟩ = some (.int .i64 t4.n) ∧ W.cell? ⟨w4.heap.size, 3, none⟩ = some (.slice t4.a t4.k.length t4.c)) (go_keep)
        ((go_at_call 114; (with_reducible refine (ih _ m A.2.1 A.2.2.1 A.2.2.2 (hMx4.ext ((by repeat' (first | (with_reducible exact Ext.refl _) | (with_reducible assumption) | (with_reducible refine Ext.alloc ?_ _) | (with_reducible refine Ext.drew ?_) | (with_reducible refine Ext.drewN ?_ _) | (with_reducible refine Ext.setCell ?_ (by first | exact Nat.le_refl _ | (simp; done) | (simp; omega) | omega) _) | (with_reducible refine Ext.trans ?_ (by assumption)))))) (by omega) (by omega) (by omega) (by omega)).mono ?_); rintro e w5 ⟨t5, rfl, ht5, hin5, hM5, hg5⟩; have c4_0 : w5.cell? ⟨w4.heap.size, 0, none⟩ = some (.int .i64 t4.kd) := hg5.cell x4_0 (fun e => by injection e with e; simp only at e; omega); have c4_1 : w5.cell? ⟨w4.heap.size, 1, none⟩ = some (.string t4.s) := hg5.cell x4_1 (fun e => by injection e with e; simp only at e; omega); have c4_2 : w5.cell? ⟨w4.heap.size, 2, none⟩ = some (.int .i64 t4.n) := hg5.cell x4_2 (fun e => by injection e with e; simp only at e; omega); have c4_3 : w5.cell? ⟨w4.heap.size, 3, none⟩ = some (.slice t4.a t4.k.length t4.c) := hg5.cell x4_3 (fun e => by injection e with e; simp only at e; omega); have hHn := And.intro ((hX4.out.1.ext (Ext.refl _).drew).grown hg5 (by omega)) (And.intro ((hX4.out.2.1.ext (Ext.refl _).drew).grown hg5 (by omega)) (grown_trans (grown_trans hX4.out.2.2 (grown_ext (Ext.refl _).drew _)) hg5)); obtain ⟨⟨y0, d0⟩, ⟨y1, d1⟩, ⟨y2, d2⟩, ⟨y3, d3⟩, hfz⟩ := hHn.2.1.cells; obtain ⟨z0, z1, z2, z3, hfz2⟩ := hHn.1.cells; have hgs : w4.heap.size + 1 ≤ w5.heap.size := Nat.le_trans (Nat.le_of_eq hszx4.symm) hg5.size; have hbw2 : b < w5.heap.size := (by omega); have hbt : w1.heap.size < w5.heap.size := (by omega); have hH5 := Lib.hid hHn; clear hHn; have hu5 := hin5.weak (q' := (w1.heap.size < ·)) (fun y hy => Nat.lt_of_lt_of_le (show w1.heap.size < w4.heap.size + 1 by omega) (Nat.le_trans (Nat.le_of_eq hszx4.symm) hy)); have hv4 : t4.In (w1.heap.size < ·) w5 := (hux4.ext (Ext.refl _).drew).grown (fun y hy => by omega) hg5; have hP5 := Lib.hid (And.intro hM5 (And.intro hu5 (And.intro ht5 hv4))); clear hM5 hu5 ht5 hin5 hg5 hv4; unfold HT.val; have hgl4 : w4.heap.size < w5.heap.size := (by omega)))
      clear hwd
      all_goals (
        have hE0 := Lib.hid (fun (V : World) (hV : w5.grownBy V (some w1.heap.size)) (hs : V.heap.size = w5.heap.size) => term_fin hP5.out.1 hH5.out.2.2 hb hm hbw1 hbt hH5.out.2.1 hV hs #[.int .i64 t4.kd, .string t4.s, .int .i64 t4.n, .slice t4.a t4.k.length t4.c, .int .i64 t5.kd, .string t5.s, .int .i64 t5.n, .slice t5.a t5.k.length t5.c] [t4, t5] (by simp [cellsL, HT.cells]) (fun x hx => by
            simp only [List.mem_cons, List.not_mem_nil, or_false] at hx
            rcases hx with rfl | rfl
            · exact hP5.out.2.2.2
            · exact hP5.out.2.1) (by simp) (5) (⟨#[99, 104]⟩ ++ dg) 0 w5.heap.size 2 rfl rfl)
        go_wp2
        apply bodyPost_ret
        · exact (hE0.out _ (by repeat' (first | (with_reducible exact World.grownBy.refl _ _) | (with_reducible refine grown_trans ?_ (setCell_grown _ _ _ _)))) (by simp only [setCell_size])).2 _ _ 4 rfl rfl
        · rfl
        have e : r = (Tr.mk 5 (⟨#[99, 104]⟩ ++ dg) 0 (HT.trL [t4, t5]), (termT p d A.2.1 A.2.2.1 A.2.2.2).2) := by rw [HR.out, ← hN4.out, ← hP5.out.2.2.1]; rfl
        rw [e]
        exact (hE0.out _ (by repeat' (first | (with_reducible exact World.grownBy.refl _ _) | (with_reducible refine grown_trans ?_ (setCell_grown _ _ _ _)))) (by simp only [setCell_size])).1)

end Go.Proofs.Ytgjjngkmbplijaa

/- The maker of package play: contracts: a contract so many times. -/
namespace Go.Proofs.Ytgjjngkmbplijaa
open Go.RowKit
set_option linter.unusedSimpArgs false
set_option linter.unusedVariables false

set_option maxRecDepth 100000 in
set_option maxHeartbeats 3200000 in
theorem mterm_scale (p : Pl) (d : Nat) (ih : TermAt p d) (w : World) (m i : Nat) (left : Int) (lab : Nat) (h : Mk w m p i left lab) (hi : i + costM (d + 1) ≤ 2 ^ 30) (hl1 : -(2 ^ 40) + costM (d + 1) ≤ left) (hl2 : left ≤ 2 ^ 40) (hlab : lab + costM (d + 1) ≤ 10 ^ 7) (hd : d ≤ 10) (hlow : 0 < left - 1) (hk : nextN p i 13 = 9 ∨ nextN p i 13 = 10) :
    Calls Try.prog 114 #[.pointer (some ⟨m, 0, none⟩), .int .i64 (d + 1 : Nat)] w fun e w' => RetTm w m p (termT p (d + 1) i left lab) e w' := by
  simp only [costM] at hi hl1 hlab
  unfold TermAt at ih
  have hd1 : decide (((d : Int) + 1) ≤ 0) = false := by simp <;> omega
  have hd2 : decide (left - 1 ≤ 0) = false := by simp; omega
  have hm : m < w.heap.size := (Array.getElem?_eq_some_iff.1 h.blk).1
  obtain ⟨c0, c1, c2, c3, c4, hf⟩ := h.cells
  have H1 := mn_calls _ m p i (left - 1) lab 13 ((h.setLeft (left - 1)).ext ((Ext.refl _).alloc fourZ)) (by omega) (by omega) (by omega)
  have HF := four_new w m (left - 1)
  clear h c0 c1 c2 c4
  have HR := Lib.hid (show termT p (d + 1) i left lab = (.mk 6 ⟨#[]⟩ 0 [(obsT p (min d 2) (i + 1) (left - 1)).1, (termT p d (obsT p (min d 2) (i + 1) (left - 1)).2.1 (obsT p (min d 2) (i + 1) (left - 1)).2.2 lab).1], (termT p d (obsT p (min d 2) (i + 1) (left - 1)).2.1 (obsT p (min d 2) (i + 1) (left - 1)).2.2 lab).2) by simp only [termT]; rw [if_neg (by omega), if_neg (by omega), if_neg (by omega), if_neg (by omega), if_neg (by omega), if_pos (by omega)])
  generalize termT p (d + 1) i left lab = r at *
  generalize nextN p i 13 = k at *
  rcases hk with rfl | rfl
  · go_enter Try.func114, Try.ntmps114
    (go_wp2_with fail; (with_reducible refine H1.mono ?_); rintro e w1 ⟨rfl, hM1, hg1⟩)
    have hFb := HF.1.grown hg1 (by omega)
    have hgA := grown_trans HF.2 hg1
    clear H1 HF hg1 c3 hf
    have c3 := hM1.cells.2.2.2.1
    generalize hb : w.heap.size = b at hFb hm ⊢
    have hbw1 : b < w1.heap.size := by obtain ⟨x0, x1, x2, x3, h⟩ := hFb; exact (Array.getElem?_eq_some_iff.1 h).1
    have hM1' := hM1.ext ((Ext.refl w1).alloc fourZ)
    have hH1 := Lib.hid (And.intro (Z4.new w1) (And.intro (hFb.ext ((Ext.refl w1).alloc fourZ)) (grown_trans hgA (grown_ext ((Ext.refl w1).alloc fourZ) _))))
    have hsz1 : (w1.alloc fourZ).heap.size = w1.heap.size + 1 := by simp
    have hz1 := Lib.hid hsz1
    clear hFb hgA hM1 hsz1
    obtain ⟨o1, o2, o3⟩ := obsT_i p (min d 2) (i + 1) (left - 1)
    have hcm := costT_min d
    have HOb := mobs_calls p lab (min d 2) _ m (i + 1) (left - 1) hM1' (by omega) (by omega) (by omega) (by omega)
    have hmn : (min d 2 = d ∧ (d : Int) ≤ 2) ∨ (min d 2 = 2 ∧ (2 : Int) < (d : Int)) := by omega
    have hne1 : b ≠ w1.heap.size := by omega
    have hne2 : w1.heap.size ≠ b := by omega
    generalize hO : obsT p (min d 2) (i + 1) (left - 1) = O at *
    rcases hmn with ⟨hmn, hdl⟩ | ⟨hmn, hdl⟩ <;>
    ( rw [hmn] at HOb
      try rw [show ((2 : Nat) : Int) = 2 from rfl] at HOb
      (go_wp2_with fail; (with_reducible refine HOb.mono ?_); rintro e w2 ⟨t2, rfl, ht2, hin2, hM2, hg2⟩)
      clear HOb hdl
      have hbt2 : w1.heap.size < w2.heap.size := by have := hg2.size; have := hz1.out; omega
      have hH2 := Lib.hid (And.intro (hH1.out.1.grown hg2 (by omega)) (And.intro (hH1.out.2.1.grown hg2 (by omega)) (grown_trans hH1.out.2.2 hg2)))
      have hu2 := hin2.weak (q' := (w1.heap.size < ·)) (fun y hy => by have := hz1.out; omega)
      have hX2 := Lib.hid (And.intro (hH2.out.1.ext ((Ext.refl w2).alloc (.cells #[.int .i64 t2.kd, .string t2.s, .int .i64 t2.n, .slice t2.a t2.k.length t2.c] 76))) (And.intro (hH2.out.2.1.ext ((Ext.refl w2).alloc (.cells #[.int .i64 t2.kd, .string t2.s, .int .i64 t2.n, .slice t2.a t2.k.length t2.c] 76))) (grown_trans hH2.out.2.2 (grown_ext ((Ext.refl w2).alloc (.cells #[.int .i64 t2.kd, .string t2.s, .int .i64 t2.n, .slice t2.a t2.k.length t2.c] 76)) _))))
      have hMx2 := hM2.ext ((Ext.refl w2).alloc (.cells #[.int .i64 t2.kd, .string t2.s, .int .i64 t2.n, .slice t2.a t2.k.length t2.c] 76))
      have hux2 := hu2.ext ((Ext.refl w2).alloc (.cells #[.int .i64 t2.kd, .string t2.s, .int .i64 t2.n, .slice t2.a t2.k.length t2.c] 76))
      have x2_0 : (w2.alloc (.cells #[.int .i64 t2.kd, .string t2.s, .int .i64 t2.n, .slice t2.a t2.k.length t2.c] 76)).cell? ⟨w2.heap.size, 0, none⟩ = some (.int .i64 t2.kd) := by rw [World.cell?_alloc_new]; rfl
      have x2_1 : (w2.alloc (.cells #[.int .i64 t2.kd, .string t2.s, .int .i64 t2.n, .slice t2.a t2.k.length t2.c] 76)).cell? ⟨w2.heap.size, 1, none⟩ = some (.string t2.s) := by rw [World.cell?_alloc_new]; rfl
      have x2_2 : (w2.alloc (.cells #[.int .i64 t2.kd, .string t2.s, .int .i64 t2.n, .slice t2.a t2.k.length t2.c] 76)).cell? ⟨w2.heap.size, 2, none⟩ = some (.int .i64 t2.n) := by rw [World.cell?_alloc_new]; rfl
      have x2_3 : (w2.alloc (.cells #[.int .i64 t2.kd, .string t2.s, .int .i64 t2.n, .slice t2.a t2.k.length t2.c] 76)).cell? ⟨w2.heap.size, 3, none⟩ = some (.slice t2.a t2.k.length t2.c) := by rw [World.cell?_alloc_new]; rfl
      have hszx2 : (w2.alloc (.cells #[.int .i64 t2.kd, .string t2.s, .int .i64 t2.n, .slice t2.a t2.k.length t2.c] 76)).heap.size = w2.heap.size + 1 := by simp
      have hN2 := Lib.hid ht2
      clear hM1' hM2 hg2 hin2 ht2 hu2
      unfold HT.val
      go_wp2_with fail
      have hn2a : w1.heap.size ≠ w2.heap.size := by omega
      have hn2b : w2.heap.size ≠ w1.heap.size := by omega
      have hwd : IntKind.i64.wrap (d : Int) = d := by rw [IntWalk.i64_left, IntWalk.wrap64_in (d : Int) (by omega)]
      go_region_held3 (fun W => W.cell? ⟨w2.heap.size, 0, none⟩ = some (.int .i64 t2.kd) ∧ W.cell? ⟨w2.heap.size, 1, none⟩ = some (.string t2.s) ∧ W.cell? ⟨w2.heap.size, 2, none⟩ = some (.int .i64 t2.n) ∧ W.cell? ⟨w2.heap.size, 3, none⟩ = some (.slice t2.a t2.k.length t2.c)) (go_keep)
        ((go_at_call 114; (with_reducible refine (ih _ m O.2.1 O.2.2 lab (hMx2.ext ((by repeat' (first | (with_reducible exact Ext.refl _) | (with_reducible assumption) | (with_reducible refine Ext.alloc ?_ _) | (with_reducible refine Ext.drew ?_) | (with_reducible refine Ext.drewN ?_ _) | (with_reducible refine Ext.setCell ?_ (by first | exact Nat.le_refl _ | (simp; done) | (simp; omega) | omega) _) | (with_reducible refine Ext.trans ?_ (by assumption)))))) (by omega) (by omega) (by omega) (by omega)).mono ?_); rintro e w3 ⟨t3, rfl, ht3, hin3, hM3, hg3⟩; have c2_0 : w3.cell? ⟨w2.heap.size, 0, none⟩ = some (.int .i64 t2.kd) := hg3.cell x2_0 (fun e => by injection e with e; simp only at e; omega); have c2_1 : w3.cell? ⟨w2.heap.size, 1, none⟩ = some (.string t2.s) := hg3.cell x2_1 (fun e => by injection e with e; simp only at e; omega); have c2_2 : w3.cell? ⟨w2.heap.size, 2, none⟩ = some (.int .i64 t2.n) := hg3.cell x2_2 (fun e => by injection e with e; simp only at e; omega); have c2_3 : w3.cell? ⟨w2.heap.size, 3, none⟩ = some (.slice t2.a t2.k.length t2.c) := hg3.cell x2_3 (fun e => by injection e with e; simp only at e; omega); have hHn := And.intro ((hX2.out.1.ext (Ext.refl _).drew).grown hg3 (by omega)) (And.intro ((hX2.out.2.1.ext (Ext.refl _).drew).grown hg3 (by omega)) (grown_trans (grown_trans hX2.out.2.2 (grown_ext (Ext.refl _).drew _)) hg3)); obtain ⟨⟨y0, d0⟩, ⟨y1, d1⟩, ⟨y2, d2⟩, ⟨y3, d3⟩, hfz⟩ := hHn.2.1.cells; obtain ⟨z0, z1, z2, z3, hfz2⟩ := hHn.1.cells; have hgs : w2.heap.size + 1 ≤ w3.heap.size := Nat.le_trans (Nat.le_of_eq hszx2.symm) hg3.size; have hbw2 : b < w3.heap.size := (by omega); have hbt : w1.heap.size < w3.heap.size := (by omega); have hH3 := Lib.hid hHn; clear hHn; have hu3 := hin3.weak (q' := (w1.heap.size < ·)) (fun y hy => Nat.lt_of_lt_of_le (show w1.heap.size < w2.heap.size + 1 by omega) (Nat.le_trans (Nat.le_of_eq hszx2.symm) hy)); have hv2 : t2.In (w1.heap.size < ·) w3 := (hux2.ext (Ext.refl _).drew).grown (fun y hy => by omega) hg3; have hP3 := Lib.hid (And.intro hM3 (And.intro hu3 (And.intro ht3 hv2))); clear hM3 hu3 ht3 hin3 hg3 hv2; unfold HT.val; have hgl2 : w2.heap.size < w3.heap.size := (by omega)))
      clear hwd
      all_goals (
        have hE0 := Lib.hid (fun (V : World) (hV : w3.grownBy V (some w1.heap.size)) (hs : V.heap.size = w3.heap.size) => term_fin hP3.out.1 hH3.out.2.2 hb hm hbw1 hbt hH3.out.2.1 hV hs #[.int .i64 t2.kd, .string t2.s, .int .i64 t2.n, .slice t2.a t2.k.length t2.c, .int .i64 t3.kd, .string t3.s, .int .i64 t3.n, .slice t3.a t3.k.length t3.c] [t2, t3] (by simp [cellsL, HT.cells]) (fun x hx => by
            simp only [List.mem_cons, List.not_mem_nil, or_false] at hx
            rcases hx with rfl | rfl
            · exact hP3.out.2.2.2
            · exact hP3.out.2.1) (by simp) (6) ⟨#[]⟩ 0 w3.heap.size 2 rfl rfl)
        go_wp2
        apply bodyPost_ret
        · exact (hE0.out _ (by repeat' (first | (with_reducible exact World.grownBy.refl _ _) | (with_reducible refine grown_trans ?_ (setCell_grown _ _ _ _)))) (by simp only [setCell_size])).2 _ _ 4 rfl rfl
        · rfl
        have e : r = (Tr.mk 6 ⟨#[]⟩ 0 (HT.trL [t2, t3]), (termT p d O.2.1 O.2.2 lab).2) := by rw [HR.out, ← hN2.out, ← hP3.out.2.2.1]; rfl
        rw [e]
        exact (hE0.out _ (by repeat' (first | (with_reducible exact World.grownBy.refl _ _) | (with_reducible refine grown_trans ?_ (setCell_grown _ _ _ _)))) (by simp only [setCell_size])).1))
  · go_enter Try.func114, Try.ntmps114
    (go_wp2_with fail; (with_reducible refine H1.mono ?_); rintro e w1 ⟨rfl, hM1, hg1⟩)
    have hFb := HF.1.grown hg1 (by omega)
    have hgA := grown_trans HF.2 hg1
    clear H1 HF hg1 c3 hf
    have c3 := hM1.cells.2.2.2.1
    generalize hb : w.heap.size = b at hFb hm ⊢
    have hbw1 : b < w1.heap.size := by obtain ⟨x0, x1, x2, x3, h⟩ := hFb; exact (Array.getElem?_eq_some_iff.1 h).1
    have hM1' := hM1.ext ((Ext.refl w1).alloc fourZ)
    have hH1 := Lib.hid (And.intro (Z4.new w1) (And.intro (hFb.ext ((Ext.refl w1).alloc fourZ)) (grown_trans hgA (grown_ext ((Ext.refl w1).alloc fourZ) _))))
    have hsz1 : (w1.alloc fourZ).heap.size = w1.heap.size + 1 := by simp
    have hz1 := Lib.hid hsz1
    clear hFb hgA hM1 hsz1
    obtain ⟨o1, o2, o3⟩ := obsT_i p (min d 2) (i + 1) (left - 1)
    have hcm := costT_min d
    have HOb := mobs_calls p lab (min d 2) _ m (i + 1) (left - 1) hM1' (by omega) (by omega) (by omega) (by omega)
    have hmn : (min d 2 = d ∧ (d : Int) ≤ 2) ∨ (min d 2 = 2 ∧ (2 : Int) < (d : Int)) := by omega
    have hne1 : b ≠ w1.heap.size := by omega
    have hne2 : w1.heap.size ≠ b := by omega
    generalize hO : obsT p (min d 2) (i + 1) (left - 1) = O at *
    rcases hmn with ⟨hmn, hdl⟩ | ⟨hmn, hdl⟩ <;>
    ( rw [hmn] at HOb
      try rw [show ((2 : Nat) : Int) = 2 from rfl] at HOb
      (go_wp2_with fail; (with_reducible refine HOb.mono ?_); rintro e w2 ⟨t2, rfl, ht2, hin2, hM2, hg2⟩)
      clear HOb hdl
      have hbt2 : w1.heap.size < w2.heap.size := by have := hg2.size; have := hz1.out; omega
      have hH2 := Lib.hid (And.intro (hH1.out.1.grown hg2 (by omega)) (And.intro (hH1.out.2.1.grown hg2 (by omega)) (grown_trans hH1.out.2.2 hg2)))
      have hu2 := hin2.weak (q' := (w1.heap.size < ·)) (fun y hy => by have := hz1.out; omega)
      have hX2 := Lib.hid (And.intro (hH2.out.1.ext ((Ext.refl w2).alloc (.cells #[.int .i64 t2.kd, .string t2.s, .int .i64 t2.n, .slice t2.a t2.k.length t2.c] 76))) (And.intro (hH2.out.2.1.ext ((Ext.refl w2).alloc (.cells #[.int .i64 t2.kd, .string t2.s, .int .i64 t2.n, .slice t2.a t2.k.length t2.c] 76))) (grown_trans hH2.out.2.2 (grown_ext ((Ext.refl w2).alloc (.cells #[.int .i64 t2.kd, .string t2.s, .int .i64 t2.n, .slice t2.a t2.k.length t2.c] 76)) _))))
      have hMx2 := hM2.ext ((Ext.refl w2).alloc (.cells #[.int .i64 t2.kd, .string t2.s, .int .i64 t2.n, .slice t2.a t2.k.length t2.c] 76))
      have hux2 := hu2.ext ((Ext.refl w2).alloc (.cells #[.int .i64 t2.kd, .string t2.s, .int .i64 t2.n, .slice t2.a t2.k.length t2.c] 76))
      have x2_0 : (w2.alloc (.cells #[.int .i64 t2.kd, .string t2.s, .int .i64 t2.n, .slice t2.a t2.k.length t2.c] 76)).cell? ⟨w2.heap.size, 0, none⟩ = some (.int .i64 t2.kd) := by rw [World.cell?_alloc_new]; rfl
      have x2_1 : (w2.alloc (.cells #[.int .i64 t2.kd, .string t2.s, .int .i64 t2.n, .slice t2.a t2.k.length t2.c] 76)).cell? ⟨w2.heap.size, 1, none⟩ = some (.string t2.s) := by rw [World.cell?_alloc_new]; rfl
      have x2_2 : (w2.alloc (.cells #[.int .i64 t2.kd, .string t2.s, .int .i64 t2.n, .slice t2.a t2.k.length t2.c] 76)).cell? ⟨w2.heap.size, 2, none⟩ = some (.int .i64 t2.n) := by rw [World.cell?_alloc_new]; rfl
      have x2_3 : (w2.alloc (.cells #[.int .i64 t2.kd, .string t2.s, .int .i64 t2.n, .slice t2.a t2.k.length t2.c] 76)).cell? ⟨w2.heap.size, 3, none⟩ = some (.slice t2.a t2.k.length t2.c) := by rw [World.cell?_alloc_new]; rfl
      have hszx2 : (w2.alloc (.cells #[.int .i64 t2.kd, .string t2.s, .int .i64 t2.n, .slice t2.a t2.k.length t2.c] 76)).heap.size = w2.heap.size + 1 := by simp
      have hN2 := Lib.hid ht2
      clear hM1' hM2 hg2 hin2 ht2 hu2
      unfold HT.val
      go_wp2_with fail
      have hn2a : w1.heap.size ≠ w2.heap.size := by omega
      have hn2b : w2.heap.size ≠ w1.heap.size := by omega
      have hwd : IntKind.i64.wrap (d : Int) = d := by rw [IntWalk.i64_left, IntWalk.wrap64_in (d : Int) (by omega)]
      go_region_held3 (fun W => W.cell? ⟨w2.heap.size, 0, none⟩ = some (.int .i64 t2.kd) ∧ W.cell? ⟨w2.heap.size, 1, none⟩ = some (.string t2.s) ∧ W.cell? ⟨w2.heap.size, 2, none⟩ = some (.int .i64 t2.n) ∧ W.cell? ⟨w2.heap.size, 3, none⟩ = some (.slice t2.a t2.k.length t2.c)) (go_keep)
        ((go_at_call 114; (with_reducible refine (ih _ m O.2.1 O.2.2 lab (hMx2.ext ((by repeat' (first | (with_reducible exact Ext.refl _) | (with_reducible assumption) | (with_reducible refine Ext.alloc ?_ _) | (with_reducible refine Ext.drew ?_) | (with_reducible refine Ext.drewN ?_ _) | (with_reducible refine Ext.setCell ?_ (by first | exact Nat.le_refl _ | (simp; done) | (simp; omega) | omega) _) | (with_reducible refine Ext.trans ?_ (by assumption)))))) (by omega) (by omega) (by omega) (by omega)).mono ?_); rintro e w3 ⟨t3, rfl, ht3, hin3, hM3, hg3⟩; have c2_0 : w3.cell? ⟨w2.heap.size, 0, none⟩ = some (.int .i64 t2.kd) := hg3.cell x2_0 (fun e => by injection e with e; simp only at e; omega); have c2_1 : w3.cell? ⟨w2.heap.size, 1, none⟩ = some (.string t2.s) := hg3.cell x2_1 (fun e => by injection e with e; simp only at e; omega); have c2_2 : w3.cell? ⟨w2.heap.size, 2, none⟩ = some (.int .i64 t2.n) := hg3.cell x2_2 (fun e => by injection e with e; simp only at e; omega); have c2_3 : w3.cell? ⟨w2.heap.size, 3, none⟩ = some (.slice t2.a t2.k.length t2.c) := hg3.cell x2_3 (fun e => by injection e with e; simp only at e; omega); have hHn := And.intro ((hX2.out.1.ext (Ext.refl _).drew).grown hg3 (by omega)) (And.intro ((hX2.out.2.1.ext (Ext.refl _).drew).grown hg3 (by omega)) (grown_trans (grown_trans hX2.out.2.2 (grown_ext (Ext.refl _).drew _)) hg3)); obtain ⟨⟨y0, d0⟩, ⟨y1, d1⟩, ⟨y2, d2⟩, ⟨y3, d3⟩, hfz⟩ := hHn.2.1.cells; obtain ⟨z0, z1, z2, z3, hfz2⟩ := hHn.1.cells; have hgs : w2.heap.size + 1 ≤ w3.heap.size := Nat.le_trans (Nat.le_of_eq hszx2.symm) hg3.size; have hbw2 : b < w3.heap.size := (by omega); have hbt : w1.heap.size < w3.heap.size := (by omega); have hH3 := Lib.hid hHn; clear hHn; have hu3 := hin3.weak (q' := (w1.heap.size < ·)) (fun y hy => Nat.lt_of_lt_of_le (show w1.heap.size < w2.heap.size + 1 by omega) (Nat.le_trans (Nat.le_of_eq hszx2.symm) hy)); have hv2 : t2.In (w1.heap.size < ·) w3 := (hux2.ext (Ext.refl _).drew).grown (fun y hy => by omega) hg3; have hP3 := Lib.hid (And.intro hM3 (And.intro hu3 (And.intro ht3 hv2))); clear hM3 hu3 ht3 hin3 hg3 hv2; unfold HT.val; have hgl2 : w2.heap.size < w3.heap.size := (by omega)))
      clear hwd
      all_goals (
        have hE0 := Lib.hid (fun (V : World) (hV : w3.grownBy V (some w1.heap.size)) (hs : V.heap.size = w3.heap.size) => term_fin hP3.out.1 hH3.out.2.2 hb hm hbw1 hbt hH3.out.2.1 hV hs #[.int .i64 t2.kd, .string t2.s, .int .i64 t2.n, .slice t2.a t2.k.length t2.c, .int .i64 t3.kd, .string t3.s, .int .i64 t3.n, .slice t3.a t3.k.length t3.c] [t2, t3] (by simp [cellsL, HT.cells]) (fun x hx => by
            simp only [List.mem_cons, List.not_mem_nil, or_false] at hx
            rcases hx with rfl | rfl
            · exact hP3.out.2.2.2
            · exact hP3.out.2.1) (by simp) (6) ⟨#[]⟩ 0 w3.heap.size 2 rfl rfl)
        go_wp2
        apply bodyPost_ret
        · exact (hE0.out _ (by repeat' (first | (with_reducible exact World.grownBy.refl _ _) | (with_reducible refine grown_trans ?_ (setCell_grown _ _ _ _)))) (by simp only [setCell_size])).2 _ _ 4 rfl rfl
        · rfl
        have e : r = (Tr.mk 6 ⟨#[]⟩ 0 (HT.trL [t2, t3]), (termT p d O.2.1 O.2.2 lab).2) := by rw [HR.out, ← hN2.out, ← hP3.out.2.2.1]; rfl
        rw [e]
        exact (hE0.out _ (by repeat' (first | (with_reducible exact World.grownBy.refl _ _) | (with_reducible refine grown_trans ?_ (setCell_grown _ _ _ _)))) (by simp only [setCell_size])).1))

end Go.Proofs.Ytgjjngkmbplijaa

/- The maker of package play: contracts: a test. -/
namespace Go.Proofs.Ytgjjngkmbplijaa
open Go.RowKit
set_option linter.unusedSimpArgs false
set_option linter.unusedVariables false

set_option maxRecDepth 100000 in
set_option maxHeartbeats 3200000 in
theorem mterm_if (p : Pl) (d : Nat) (ih : TermAt p d) (w : World) (m i : Nat) (left : Int) (lab : Nat) (h : Mk w m p i left lab) (hi : i + costM (d + 1) ≤ 2 ^ 30) (hl1 : -(2 ^ 40) + costM (d + 1) ≤ left) (hl2 : left ≤ 2 ^ 40) (hlab : lab + costM (d + 1) ≤ 10 ^ 7) (hd : d ≤ 10) (hlow : 0 < left - 1) (hk : nextN p i 13 = 12) :
    Calls Try.prog 114 #[.pointer (some ⟨m, 0, none⟩), .int .i64 (d + 1 : Nat)] w fun e w' => RetTm w m p (termT p (d + 1) i left lab) e w' := by
  simp only [costM] at hi hl1 hlab
  unfold TermAt at ih
  have hd1 : decide (((d : Int) + 1) ≤ 0) = false := by simp <;> omega
  have hd2 : decide (left - 1 ≤ 0) = false := by simp; omega
  have hm : m < w.heap.size := (Array.getElem?_eq_some_iff.1 h.blk).1
  obtain ⟨c0, c1, c2, c3, c4, hf⟩ := h.cells
  have H1 := mn_calls _ m p i (left - 1) lab 13 ((h.setLeft (left - 1)).ext ((Ext.refl _).alloc fourZ)) (by omega) (by omega) (by omega)
  have HF := four_new w m (left - 1)
  clear h c0 c1 c2 c4
  have HR := Lib.hid (show termT p (d + 1) i left lab = (.mk 8 ⟨#[]⟩ 0 [(obsT p (min d 2) (i + 1) (left - 1)).1, (termT p d (obsT p (min d 2) (i + 1) (left - 1)).2.1 (obsT p (min d 2) (i + 1) (left - 1)).2.2 lab).1, (termT p d (termT p d (obsT p (min d 2) (i + 1) (left - 1)).2.1 (obsT p (min d 2) (i + 1) (left - 1)).2.2 lab).2.1 (termT p d (obsT p (min d 2) (i + 1) (left - 1)).2.1 (obsT p (min d 2) (i + 1) (left - 1)).2.2 lab).2.2.1 (termT p d (obsT p (min d 2) (i + 1) (left - 1)).2.1 (obsT p (min d 2) (i + 1) (left - 1)).2.2 lab).2.2.2).1], (termT p d (termT p d (obsT p (min d 2) (i + 1) (left - 1)).2.1 (obsT p (min d 2) (i + 1) (left - 1)).2.2 lab).2.1 (termT p d (obsT p (min d 2) (i + 1) (left - 1)).2.1 (obsT p (min d 2) (i + 1) (left - 1)).2.2 lab).2.2.1 (termT p d (obsT p (min d 2) (i + 1) (left - 1)).2.1 (obsT p (min d 2) (i + 1) (left - 1)).2.2 lab).2.2.2).2) by simp only [termT]; rw [if_neg (by omega), if_neg (by omega), if_neg (by omega), if_neg (by omega), if_neg (by omega), if_neg (by omega), if_neg (by omega)])
  generalize termT p (d + 1) i left lab = r at *
  generalize nextN p i 13 = k at *
  subst hk
  · go_enter Try.func114, Try.ntmps114
    (go_wp2_with fail; (with_reducible refine H1.mono ?_); rintro e w1 ⟨rfl, hM1, hg1⟩)
    have hFb := HF.1.grown hg1 (by omega)
    have hgA := grown_trans HF.2 hg1
    clear H1 HF hg1 c3 hf
    have c3 := hM1.cells.2.2.2.1
    generalize hb : w.heap.size = b at hFb hm ⊢
    have hbw1 : b < w1.heap.size := by obtain ⟨x0, x1, x2, x3, h⟩ := hFb; exact (Array.getElem?_eq_some_iff.1 h).1
    have hM1' := hM1.ext ((Ext.refl w1).alloc fourZ)
    have hH1 := Lib.hid (And.intro (Z4.new w1) (And.intro (hFb.ext ((Ext.refl w1).alloc fourZ)) (grown_trans hgA (grown_ext ((Ext.refl w1).alloc fourZ) _))))
    have hsz1 : (w1.alloc fourZ).heap.size = w1.heap.size + 1 := by simp
    have hz1 := Lib.hid hsz1
    clear hFb hgA hM1 hsz1
    obtain ⟨o1, o2, o3⟩ := obsT_i p (min d 2) (i + 1) (left - 1)
    have hcm := costT_min d
    have HOb := mobs_calls p lab (min d 2) _ m (i + 1) (left - 1) hM1' (by omega) (by omega) (by omega) (by omega)
    have hmn : (min d 2 = d ∧ (d : Int) ≤ 2) ∨ (min d 2 = 2 ∧ (2 : Int) < (d : Int)) := by omega
    have hne1 : b ≠ w1.heap.size := by omega
    have hne2 : w1.heap.size ≠ b := by omega
    generalize hO : obsT p (min d 2) (i + 1) (left - 1) = O at *
    rcases hmn with ⟨hmn, hdl⟩ | ⟨hmn, hdl⟩ <;>
    ( rw [hmn] at HOb
      try rw [show ((2 : Nat) : Int) = 2 from rfl] at HOb
      (go_wp2_with fail; (with_reducible refine HOb.mono ?_); rintro e w2 ⟨t2, rfl, ht2, hin2, hM2, hg2⟩)
      clear HOb hdl
      have hbt2 : w1.heap.size < w2.heap.size := by have := hg2.size; have := hz1.out; omega
      have hH2 := Lib.hid (And.intro (hH1.out.1.grown hg2 (by omega)) (And.intro (hH1.out.2.1.grown hg2 (by omega)) (grown_trans hH1.out.2.2 hg2)))
      have hu2 := hin2.weak (q' := (w1.heap.size < ·)) (fun y hy => by have := hz1.out; omega)
      have hX2 := Lib.hid (And.intro (hH2.out.1.ext ((Ext.refl w2).alloc (.cells #[.int .i64 t2.kd, .string t2.s, .int .i64 t2.n, .slice t2.a t2.k.length t2.c] 76))) (And.intro (hH2.out.2.1.ext ((Ext.refl w2).alloc (.cells #[.int .i64 t2.kd, .string t2.s, .int .i64 t2.n, .slice t2.a t2.k.length t2.c] 76))) (grown_trans hH2.out.2.2 (grown_ext ((Ext.refl w2).alloc (.cells #[.int .i64 t2.kd, .string t2.s, .int .i64 t2.n, .slice t2.a t2.k.length t2.c] 76)) _))))
      have hMx2 := hM2.ext ((Ext.refl w2).alloc (.cells #[.int .i64 t2.kd, .string t2.s, .int .i64 t2.n, .slice t2.a t2.k.length t2.c] 76))
      have hux2 := hu2.ext ((Ext.refl w2).alloc (.cells #[.int .i64 t2.kd, .string t2.s, .int .i64 t2.n, .slice t2.a t2.k.length t2.c] 76))
      have x2_0 : (w2.alloc (.cells #[.int .i64 t2.kd, .string t2.s, .int .i64 t2.n, .slice t2.a t2.k.length t2.c] 76)).cell? ⟨w2.heap.size, 0, none⟩ = some (.int .i64 t2.kd) := by rw [World.cell?_alloc_new]; rfl
      have x2_1 : (w2.alloc (.cells #[.int .i64 t2.kd, .string t2.s, .int .i64 t2.n, .slice t2.a t2.k.length t2.c] 76)).cell? ⟨w2.heap.size, 1, none⟩ = some (.string t2.s) := by rw [World.cell?_alloc_new]; rfl
      have x2_2 : (w2.alloc (.cells #[.int .i64 t2.kd, .string t2.s, .int .i64 t2.n, .slice t2.a t2.k.length t2.c] 76)).cell? ⟨w2.heap.size, 2, none⟩ = some (.int .i64 t2.n) := by rw [World.cell?_alloc_new]; rfl
      have x2_3 : (w2.alloc (.cells #[.int .i64 t2.kd, .string t2.s, .int .i64 t2.n, .slice t2.a t2.k.length t2.c] 76)).cell? ⟨w2.heap.size, 3, none⟩ = some (.slice t2.a t2.k.length t2.c) := by rw [World.cell?_alloc_new]; rfl
      have hszx2 : (w2.alloc (.cells #[.int .i64 t2.kd, .string t2.s, .int .i64 t2.n, .slice t2.a t2.k.length t2.c] 76)).heap.size = w2.heap.size + 1 := by simp
      have hN2 := Lib.hid ht2
      clear hM1' hM2 hg2 hin2 ht2 hu2
      obtain ⟨a1, a2, a3, a4⟩ := termT_i p d O.2.1 O.2.2 lab
      unfold HT.val
      (go_wp2_with fail; (with_reducible refine (ih _ m O.2.1 O.2.2 lab (hMx2) (by omega) (by omega) (by omega) (by omega)).mono ?_); rintro e w3 ⟨t3, rfl, ht3, hin3, hM3, hg3⟩)
      have hbt3 : w2.heap.size < w3.heap.size := by have := hg3.size; omega
      have hH3 := Lib.hid (And.intro (hX2.out.1.grown hg3 (by omega)) (And.intro (hX2.out.2.1.grown hg3 (by omega)) (grown_trans hX2.out.2.2 hg3)))
      have hu3 := hin3.weak (q' := (w1.heap.size < ·)) (fun y hy => by omega)
      replace x2_0 := ((Ext.refl w3).alloc (.cells #[.int .i64 t3.kd, .string t3.s, .int .i64 t3.n, .slice t3.a t3.k.length t3.c] 76)).cell (hg3.cell x2_0 (fun e => by injection e with e; simp only at e; omega))
      replace x2_1 := ((Ext.refl w3).alloc (.cells #[.int .i64 t3.kd, .string t3.s, .int .i64 t3.n, .slice t3.a t3.k.length t3.c] 76)).cell (hg3.cell x2_1 (fun e => by injection e with e; simp only at e; omega))
      replace x2_2 := ((Ext.refl w3).alloc (.cells #[.int .i64 t3.kd, .string t3.s, .int .i64 t3.n, .slice t3.a t3.k.length t3.c] 76)).cell (hg3.cell x2_2 (fun e => by injection e with e; simp only at e; omega))
      replace x2_3 := ((Ext.refl w3).alloc (.cells #[.int .i64 t3.kd, .string t3.s, .int .i64 t3.n, .slice t3.a t3.k.length t3.c] 76)).cell (hg3.cell x2_3 (fun e => by injection e with e; simp only at e; omega))
      replace hux2 := (hux2.grown (fun y hy => by omega) hg3).ext ((Ext.refl w3).alloc (.cells #[.int .i64 t3.kd, .string t3.s, .int .i64 t3.n, .slice t3.a t3.k.length t3.c] 76))
      have hX3 := Lib.hid (And.intro (hH3.out.1.ext ((Ext.refl w3).alloc (.cells #[.int .i64 t3.kd, .string t3.s, .int .i64 t3.n, .slice t3.a t3.k.length t3.c] 76))) (And.intro (hH3.out.2.1.ext ((Ext.refl w3).alloc (.cells #[.int .i64 t3.kd, .string t3.s, .int .i64 t3.n, .slice t3.a t3.k.length t3.c] 76))) (grown_trans hH3.out.2.2 (grown_ext ((Ext.refl w3).alloc (.cells #[.int .i64 t3.kd, .string t3.s, .int .i64 t3.n, .slice t3.a t3.k.length t3.c] 76)) _))))
      have hMx3 := hM3.ext ((Ext.refl w3).alloc (.cells #[.int .i64 t3.kd, .string t3.s, .int .i64 t3.n, .slice t3.a t3.k.length t3.c] 76))
      have hux3 := hu3.ext ((Ext.refl w3).alloc (.cells #[.int .i64 t3.kd, .string t3.s, .int .i64 t3.n, .slice t3.a t3.k.length t3.c] 76))
      have x3_0 : (w3.alloc (.cells #[.int .i64 t3.kd, .string t3.s, .int .i64 t3.n, .slice t3.a t3.k.length t3.c] 76)).cell? ⟨w3.heap.size, 0, none⟩ = some (.int .i64 t3.kd) := by rw [World.cell?_alloc_new]; rfl
      have x3_1 : (w3.alloc (.cells #[.int .i64 t3.kd, .string t3.s, .int .i64 t3.n, .slice t3.a t3.k.length t3.c] 76)).cell? ⟨w3.heap.size, 1, none⟩ = some (.string t3.s) := by rw [World.cell?_alloc_new]; rfl
      have x3_2 : (w3.alloc (.cells #[.int .i64 t3.kd, .string t3.s, .int .i64 t3.n, .slice t3.a t3.k.length t3.c] 76)).cell? ⟨w3.heap.size, 2, none⟩ = some (.int .i64 t3.n) := by rw [World.cell?_alloc_new]; rfl
      have x3_3 : (w3.alloc (.cells #[.int .i64 t3.kd, .string t3.s, .int .i64 t3.n, .slice t3.a t3.k.length t3.c] 76)).cell? ⟨w3.heap.size, 3, none⟩ = some (.slice t3.a t3.k.length t3.c) := by rw [World.cell?_alloc_new]; rfl
      have hszx3 : (w3.alloc (.cells #[.int .i64 t3.kd, .string t3.s, .int .i64 t3.n, .slice t3.a t3.k.length t3.c] 76)).heap.size = w3.heap.size + 1 := by simp
      have hN3 := Lib.hid ht3
      clear hM3 hg3 hin3 ht3 hu3 hX2 hMx2 hszx2
      generalize hA : termT p d O.2.1 O.2.2 lab = A at *
      unfold HT.val
      go_wp2_with fail
      have hn2a : w1.heap.size ≠ w2.heap.size := by omega
      have hn2b : w2.heap.size ≠ w1.heap.size := by omega
      have hn3a : w1.heap.size ≠ w3.heap.size := by omega
      have hn3b : w3.heap.size ≠ w1.heap.size := by omega
      have hwd : IntKind.i64.wrap (d : Int) = d := by rw [IntWalk.i64_left, IntWalk.wrap64_in (d : Int) (by omega)]
      go_region_held3 (fun W => W.cell? ⟨w2.heap.size, 0, none⟩ = some (.int .i64 t2.kd) ∧ W.cell? ⟨w2.heap.size, 1, none⟩ = some (.string t2.s) ∧ W.cell? ⟨w2.heap.size, 2, none⟩ = some (.int .i64 t2.n) ∧ W.cell? ⟨w2.heap.size, 3, none⟩ = some (.slice t2.a t2.k.length t2.c) ∧ W.cell? ⟨w3.heap.size, 0, none⟩ = some (.int .i64 t3.kd) ∧ W.cell? ⟨w3.heap.size, 1, none⟩ = some (.string t3.s) ∧ W.cell? ⟨w3.heap.size, 2, none⟩ = some (.int .i64 t3.n) ∧ W.cell? ⟨w3.heap.size, 3, none⟩ = some (.slice t3.a t3.k.length t3.c)) (go_keep)
        ((go_at_call 114; (with_reducible refine (ih _ m A.2.1 A.2.2.1 A.2.2.2 (hMx3.ext ((by repeat' (first | (with_reducible exact Ext.refl _) | (with_reducible assumption) | (with_reducible refine Ext.alloc ?_ _) | (with_reducible refine Ext.drew ?_) | (with_reducible refine Ext.drewN ?_ _) | (with_reducible refine Ext.setCell ?_ (by first | exact Nat.le_refl _ | (simp; done) | (simp; omega) | omega) _) | (with_reducible refine Ext.trans ?_ (by assumption)))))) (by omega) (by omega) (by omega) (by omega)).mono ?_); rintro e w4 ⟨t4, rfl, ht4, hin4, hM4, hg4⟩; have c2_0 : w4.cell? ⟨w2.heap.size, 0, none⟩ = some (.int .i64 t2.kd) := hg4.cell x2_0 (fun e => by injection e with e; simp only at e; omega); have c2_1 : w4.cell? ⟨w2.heap.size, 1, none⟩ = some (.string t2.s) := hg4.cell x2_1 (fun e => by injection e with e; simp only at e; omega); have c2_2 : w4.cell? ⟨w2.heap.size, 2, none⟩ = some (.int .i64 t2.n) := hg4.cell x2_2 (fun e => by injection e with e; simp only at e; omega); have c2_3 : w4.cell? ⟨w2.heap.size, 3, none⟩ = some (.slice t2.a t2.k.length t2.c) := hg4.cell x2_3 (fun e => by injection e with e; simp only at e; omega); have c3_0 : w4.cell? ⟨w3.heap.size, 0, none⟩ = some (.int .i64 t3.kd) := hg4.cell x3_0 (fun e => by injection e with e; simp only at e; omega); have c3_1 : w4.cell? ⟨w3.heap.size, 1, none⟩ = some (.string t3.s) := hg4.cell x3_1 (fun e => by injection e with e; simp only at e; omega); have c3_2 : w4.cell? ⟨w3.heap.size, 2, none⟩ = some (.int .i64 t3.n) := hg4.cell x3_2 (fun e => by injection e with e; simp only at e; omega); have c3_3 : w4.cell? ⟨w3.heap.size, 3, none⟩ = some (.slice t3.a t3.k.length t3.c) := hg4.cell x3_3 (fun e => by injection e with e; simp only at e; omega); have hHn := And.intro ((hX3.out.1.ext (Ext.refl _).drew).grown hg4 (by omega)) (And.intro ((hX3.out.2.1.ext (Ext.refl _).drew).grown hg4 (by omega)) (grown_trans (grown_trans hX3.out.2.2 (grown_ext (Ext.refl _).drew _)) hg4)); obtain ⟨⟨y0, d0⟩, ⟨y1, d1⟩, ⟨y2, d2⟩, ⟨y3, d3⟩, hfz⟩ := hHn.2.1.cells; obtain ⟨z0, z1, z2, z3, hfz2⟩ := hHn.1.cells; have hgs : w3.heap.size + 1 ≤ w4.heap.size := Nat.le_trans (Nat.le_of_eq hszx3.symm) hg4.size; have hbw2 : b < w4.heap.size := (by omega); have hbt : w1.heap.size < w4.heap.size := (by omega); have hH4 := Lib.hid hHn; clear hHn; have hu4 := hin4.weak (q' := (w1.heap.size < ·)) (fun y hy => Nat.lt_of_lt_of_le (show w1.heap.size < w3.heap.size + 1 by omega) (Nat.le_trans (Nat.le_of_eq hszx3.symm) hy)); have hv2 : t2.In (w1.heap.size < ·) w4 := (hux2.ext (Ext.refl _).drew).grown (fun y hy => by omega) hg4; have hv3 : t3.In (w1.heap.size < ·) w4 := (hux3.ext (Ext.refl _).drew).grown (fun y hy => by omega) hg4; have hP4 := Lib.hid (And.intro hM4 (And.intro hu4 (And.intro ht4 (And.intro hv2 hv3)))); clear hM4 hu4 ht4 hin4 hg4 hv2 hv3; unfold HT.val; have hgl2 : w2.heap.size < w4.heap.size := (by omega); have hgl3 : w3.heap.size < w4.heap.size := (by omega)))
      clear hwd
      all_goals (
        have hE0 := Lib.hid (fun (V : World) (hV : w4.grownBy V (some w1.heap.size)) (hs : V.heap.size = w4.heap.size) => term_fin hP4.out.1 hH4.out.2.2 hb hm hbw1 hbt hH4.out.2.1 hV hs #[.int .i64 t2.kd, .string t2.s, .int .i64 t2.n, .slice t2.a t2.k.length t2.c, .int .i64 t3.kd, .string t3.s, .int .i64 t3.n, .slice t3.a t3.k.length t3.c, .int .i64 t4.kd, .string t4.s, .int .i64 t4.n, .slice t4.a t4.k.length t4.c] [t2, t3, t4] (by simp [cellsL, HT.cells]) (fun x hx => by
            simp only [List.mem_cons, List.not_mem_nil, or_false] at hx
            rcases hx with rfl | rfl | rfl
            · exact hP4.out.2.2.2.1
            · exact hP4.out.2.2.2.2
            · exact hP4.out.2.1) (by simp) (8) ⟨#[]⟩ 0 w4.heap.size 3 rfl rfl)
        go_wp2
        apply bodyPost_ret
        · exact (hE0.out _ (by repeat' (first | (with_reducible exact World.grownBy.refl _ _) | (with_reducible refine grown_trans ?_ (setCell_grown _ _ _ _)))) (by simp only [setCell_size])).2 _ _ 4 rfl rfl
        · rfl
        have e : r = (Tr.mk 8 ⟨#[]⟩ 0 (HT.trL [t2, t3, t4]), (termT p d A.2.1 A.2.2.1 A.2.2.2).2) := by rw [HR.out, ← hN2.out, ← hN3.out, ← hP4.out.2.2.1]; rfl
        rw [e]
        exact (hE0.out _ (by repeat' (first | (with_reducible exact World.grownBy.refl _ _) | (with_reducible refine grown_trans ?_ (setCell_grown _ _ _ _)))) (by simp only [setCell_size])).1))

end Go.Proofs.Ytgjjngkmbplijaa

/- The maker of package play: contracts: all cases; the contract of a plan. -/
namespace Go.Proofs.Ytgjjngkmbplijaa
open Go.RowKit
set_option linter.unusedSimpArgs false
set_option linter.unusedVariables false

theorem mterm_calls (p : Pl) : ∀ d, d ≤ 10 → TermAt p d := by
  intro d
  induction d with
  | zero =>
    intro _ w m i left lab h hi hl1 hl2 hlab
    exact mterm_zero p w m i left lab h hi hl1 hl2
  | succ d ih =>
    intro hd w m i left lab h hi hl1 hl2 hlab
    have ih := ih (by omega)
    have hc : costM (d + 1) = 20 + 2 * costM d := rfl
    have k1 := nextN_lo p i 13 (by omega)
    have k2 := nextN_hi p i 13 (by omega)
    by_cases hlow : left - 1 ≤ 0
    · exact mterm_low p d w m i left lab h (by omega) (by omega) hl2 (by omega) hlow
    by_cases h0 : nextN p i 13 ≤ 2
    · exact mterm_mid p d w m i left lab h (by omega) (by omega) hl2 (by omega) (by omega) h0
    by_cases h1 : nextN p i 13 ≤ 4
    · exact mterm_give p d ih w m i left lab h hi hl1 hl2 hlab (by omega) (by omega) (by omega)
    by_cases h2 : nextN p i 13 ≤ 6
    · exact mterm_and p d ih w m i left lab h hi hl1 hl2 hlab (by omega) (by omega) (by omega)
    by_cases h3 : nextN p i 13 ≤ 8
    · exact mterm_or p d ih w m i left lab h hi hl1 hl2 hlab (by omega) (by omega) (by omega)
    by_cases h4 : nextN p i 13 ≤ 10
    · exact mterm_scale p d ih w m i left lab h hi hl1 hl2 hlab (by omega) (by omega) (by omega)
    by_cases h5 : nextN p i 13 = 11
    · exact mterm_when p d ih w m i left lab h hi hl1 hl2 hlab (by omega) (by omega) h5
    · exact mterm_if p d ih w m i left lab h hi hl1 hl2 hlab (by omega) (by omega) (by omega)

/-- The contract of a plan, as a tree. -/
def conT (p : Pl) : Tr := (termT p 5 0 24 0).1
theorem conT_ok (p : Pl) : ∃ o, TeOk (conT p) 5 o := termT_ok p 5 0 24 0 (by decide)

set_option maxRecDepth 100000 in
set_option maxHeartbeats 800000 in
theorem contract_calls (p : Pl) (w : World) (hp : p.In (· < w.heap.size) w) : Calls Try.prog 73 #[p.val] w fun e w' => RetH w (conT p) e w' := by
  have hx : Ext w ((w.alloc (.cells #[.slice p.a p.n p.c, .slice p.a2 p.n2 p.c2] 72)).alloc fourZ) := ((Ext.refl w).alloc _).alloc _
  have hM := mk_new hp hx 24
  have hs : ((w.alloc (.cells #[.slice p.a p.n p.c, .slice p.a2 p.n2 p.c2] 72)).alloc fourZ).heap.size = w.heap.size + 1 + 1 := by simp
  have hF : Four ((w.alloc (.cells #[.slice p.a p.n p.c, .slice p.a2 p.n2 p.c2] 72)).alloc fourZ) (w.heap.size + 1) := ⟨_, _, _, _, by
    have h := heap_alloc_new (w.alloc (.cells #[.slice p.a p.n p.c, .slice p.a2 p.n2 p.c2] 72)) fourZ
    have e : (w.alloc (.cells #[.slice p.a p.n p.c, .slice p.a2 p.n2 p.c2] 72)).heap.size = w.heap.size + 1 := by simp
    rwa [e] at h⟩
  rw [hs] at hM
  have hF2 := hF.ext ((Ext.refl _).alloc (.cells #[.slice p.a p.n p.c, .slice p.a2 p.n2 p.c2, .int .i64 0, .int .i64 24, .int .i64 0] 192))
  have hx2 := hx.alloc (.cells #[.slice p.a p.n p.c, .slice p.a2 p.n2 p.c2, .int .i64 0, .int .i64 24, .int .i64 0] 192)
  have H := mterm_calls p 5 (by decide) _ _ 0 24 0 hM (by decide) (by decide) (by decide) (by decide)
  have hs2 := hx2.le
  rw [show ((5 : Nat) : Int) = 5 from rfl] at H
  have HH := Lib.hid (And.intro hF2 hx2)
  have HL := Lib.hid hs2
  clear hp hx hM hs hF hF2 hx2 hs2
  unfold Pl.val
  unfold conT
  generalize termT p 5 0 24 0 = r at *
  go_enter Try.func73, Try.ntmps73
  (go_wp2_with fail; (with_reducible refine (H).mono ?_); rintro e w' ⟨t, rfl, ht, hin, hM2, hg2⟩)
  clear H hM2
  have hF3 := HH.out.1.grown hg2 (by omega)
  have hx3 := HH.out.2.grown hg2 (fun k e => by injection e with e; omega)
  have hin2 := hin.weak (q' := fun x => w.heap.size ≤ x ∧ x ≠ w.heap.size + 1) (fun y hy => by simp at hy; omega)
  obtain ⟨⟨y0, d0⟩, ⟨y1, d1⟩, ⟨y2, d2⟩, ⟨y3, d3⟩, hfz⟩ := hF3.cells
  have HE := Lib.hid (And.intro hF3 (And.intro hx3 (And.intro hin2 ht)))
  clear hF3 hx3 hin hin2 hg2 ht
  unfold HT.val
  go_wp2
  apply bodyPost_ret (v := t.val)
  · exact put4_at HE.out.1 t _ 0 _ 2 rfl rfl
  · rfl
  exact ⟨t, rfl, HE.out.2.2.2, ((HE.out.2.2.1.grown (fun y hy => hy.2) (put4_grown _ _ _ _ _ _)).weak (fun y hy => hy.1)), put4_ext HE.out.2.1 (by omega) _ _ _ _⟩

end Go.Proofs.Ytgjjngkmbplijaa
