/- The maker of package play: contracts: a contract so many times. -/
import Derived.Test.YtgjjngkmbplijaaMTerm
import Derived.Deep.RegionHeld3
namespace Go.Proofs.Ytgjjngkmbplijaa
open Go.RowKit
set_option linter.unusedSimpArgs false
set_option linter.unusedVariables false

set_option maxRecDepth 100000 in
set_option maxHeartbeats 3200000 in
theorem mterm_scale (p : Pl) (d : Nat) (ih : TermAt p d) (w : World) (m i : Nat) (left : Int) (lab : Nat) (h : Mk w m p i left lab) (hi : i + costM (d + 1) ≤ 2 ^ 30) (hl1 : -(2 ^ 40) + costM (d + 1) ≤ left) (hl2 : left ≤ 2 ^ 40) (hlab : lab + costM (d + 1) ≤ 10 ^ 7) (hd : d ≤ 10) (hlow : 0 < left - 1) (hk : nextN p i 13 = 9 ∨ nextN p i 13 = 10) :
    Calls Try.prog 114 #[.pointer (some ⟨m, 0, none⟩), .int .i64 (d + 1 : Nat)] w fun e w' => RetTm w m p (termT p (d + 1) i left lab) e w' := by
  simp only [costM] at hi hl1 hlab
  unfold TermAt at ih
  have hd1 : decide (((d : Int) + 1) ≤ 0) = false := by simp <;> omega
  have hd2 : decide (left - 1 ≤ 0) = false := by simp; omega
  have hm : m < w.heap.size := (Array.getElem?_eq_some_iff.1 h.blk).1
  obtain ⟨c0, c1, c2, c3, c4, hf⟩ := h.cells
  have H1 := mn_calls _ m p i (left - 1) lab 13 ((h.setLeft (left - 1)).ext ((Ext.refl _).alloc fourZ)) (by omega) (by omega) (by omega)
  have HF := four_new w m (left - 1)
  clear h c0 c1 c2 c4
  have HR := Lib.hid (show termT p (d + 1) i left lab = (.mk 6 ⟨#[]⟩ 0 [(obsT p (min d 2) (i + 1) (left - 1)).1, (termT p d (obsT p (min d 2) (i + 1) (left - 1)).2.1 (obsT p (min d 2) (i + 1) (left - 1)).2.2 lab).1], (termT p d (obsT p (min d 2) (i + 1) (left - 1)).2.1 (obsT p (min d 2) (i + 1) (left - 1)).2.2 lab).2) by simp only [termT]; rw [if_neg (by omega), if_neg (by omega), if_neg (by omega), if_neg (by omega), if_neg (by omega), if_pos (by omega)])
  generalize termT p (d + 1) i left lab = r at *
  generalize nextN p i 13 = k at *
  rcases hk with rfl | rfl
  · go_enter Try.func114, Try.ntmps114
    (go_wp2_with fail; (with_reducible refine H1.mono ?_); rintro e w1 ⟨rfl, hM1, hg1⟩)
    have hFb := HF.1.grown hg1 (by omega)
    have hgA := grown_trans HF.2 hg1
    clear H1 HF hg1 c3 hf
    have c3 := hM1.cells.2.2.2.1
    generalize hb : w.heap.size = b at hFb hm ⊢
    have hbw1 : b < w1.heap.size := by obtain ⟨x0, x1, x2, x3, h⟩ := hFb; exact (Array.getElem?_eq_some_iff.1 h).1
    have hM1' := hM1.ext ((Ext.refl w1).alloc fourZ)
    have hH1 := Lib.hid (And.intro (Z4.new w1) (And.intro (hFb.ext ((Ext.refl w1).alloc fourZ)) (grown_trans hgA (grown_ext ((Ext.refl w1).alloc fourZ) _))))
    have hsz1 : (w1.alloc fourZ).heap.size = w1.heap.size + 1 := by simp
    have hz1 := Lib.hid hsz1
    clear hFb hgA hM1 hsz1
    obtain ⟨o1, o2, o3⟩ := obsT_i p (min d 2) (i + 1) (left - 1)
    have hcm := costT_min d
    have HOb := mobs_calls p lab (min d 2) _ m (i + 1) (left - 1) hM1' (by omega) (by omega) (by omega) (by omega)
    have hmn : (min d 2 = d ∧ (d : Int) ≤ 2) ∨ (min d 2 = 2 ∧ (2 : Int) < (d : Int)) := by omega
    have hne1 : b ≠ w1.heap.size := by omega
    have hne2 : w1.heap.size ≠ b := by omega
    generalize hO : obsT p (min d 2) (i + 1) (left - 1) = O at *
    rcases hmn with ⟨hmn, hdl⟩ | ⟨hmn, hdl⟩ <;>
    ( rw [hmn] at HOb
      try rw [show ((2 : Nat) : Int) = 2 from rfl] at HOb
      (go_wp2_with fail; (with_reducible refine HOb.mono ?_); rintro e w2 ⟨t2, rfl, ht2, hin2, hM2, hg2⟩)
      clear HOb hdl
      have hbt2 : w1.heap.size < w2.heap.size := by have := hg2.size; have := hz1.out; omega
      have hH2 := Lib.hid (And.intro (hH1.out.1.grown hg2 (by omega)) (And.intro (hH1.out.2.1.grown hg2 (by omega)) (grown_trans hH1.out.2.2 hg2)))
      have hu2 := hin2.weak (q' := (w1.heap.size < ·)) (fun y hy => by have := hz1.out; omega)
      have hX2 := Lib.hid (And.intro (hH2.out.1.ext ((Ext.refl w2).alloc (.cells #[.int .i64 t2.kd, .string t2.s, .int .i64 t2.n, .slice t2.a t2.k.length t2.c] 76))) (And.intro (hH2.out.2.1.ext ((Ext.refl w2).alloc (.cells #[.int .i64 t2.kd, .string t2.s, .int .i64 t2.n, .slice t2.a t2.k.length t2.c] 76))) (grown_trans hH2.out.2.2 (grown_ext ((Ext.refl w2).alloc (.cells #[.int .i64 t2.kd, .string t2.s, .int .i64 t2.n, .slice t2.a t2.k.length t2.c] 76)) _))))
      have hMx2 := hM2.ext ((Ext.refl w2).alloc (.cells #[.int .i64 t2.kd, .string t2.s, .int .i64 t2.n, .slice t2.a t2.k.length t2.c] 76))
      have hux2 := hu2.ext ((Ext.refl w2).alloc (.cells #[.int .i64 t2.kd, .string t2.s, .int .i64 t2.n, .slice t2.a t2.k.length t2.c] 76))
      have x2_0 : (w2.alloc (.cells #[.int .i64 t2.kd, .string t2.s, .int .i64 t2.n, .slice t2.a t2.k.length t2.c] 76)).cell? ⟨w2.heap.size, 0, none⟩ = some (.int .i64 t2.kd) := by rw [World.cell?_alloc_new]; rfl
      have x2_1 : (w2.alloc (.cells #[.int .i64 t2.kd, .string t2.s, .int .i64 t2.n, .slice t2.a t2.k.length t2.c] 76)).cell? ⟨w2.heap.size, 1, none⟩ = some (.string t2.s) := by rw [World.cell?_alloc_new]; rfl
      have x2_2 : (w2.alloc (.cells #[.int .i64 t2.kd, .string t2.s, .int .i64 t2.n, .slice t2.a t2.k.length t2.c] 76)).cell? ⟨w2.heap.size, 2, none⟩ = some (.int .i64 t2.n) := by rw [World.cell?_alloc_new]; rfl
      have x2_3 : (w2.alloc (.cells #[.int .i64 t2.kd, .string t2.s, .int .i64 t2.n, .slice t2.a t2.k.length t2.c] 76)).cell? ⟨w2.heap.size, 3, none⟩ = some (.slice t2.a t2.k.length t2.c) := by rw [World.cell?_alloc_new]; rfl
      have hszx2 : (w2.alloc (.cells #[.int .i64 t2.kd, .string t2.s, .int .i64 t2.n, .slice t2.a t2.k.length t2.c] 76)).heap.size = w2.heap.size + 1 := by simp
      have hN2 := Lib.hid ht2
      clear hM1' hM2 hg2 hin2 ht2 hu2
      unfold HT.val
      go_wp2_with fail
      have hn2a : w1.heap.size ≠ w2.heap.size := by omega
      have hn2b : w2.heap.size ≠ w1.heap.size := by omega
      have hwd : IntKind.i64.wrap (d : Int) = d := by rw [IntWalk.i64_left, IntWalk.wrap64_in (d : Int) (by omega)]
      go_region_held3 (fun W => W.cell? ⟨w2.heap.size, 0, none⟩ = some (.int .i64 t2.kd) ∧ W.cell? ⟨w2.heap.size, 1, none⟩ = some (.string t2.s) ∧ W.cell? ⟨w2.heap.size, 2, none⟩ = some (.int .i64 t2.n) ∧ W.cell? ⟨w2.heap.size, 3, none⟩ = some (.slice t2.a t2.k.length t2.c)) (go_keep)
        ((go_at_call 114; (with_reducible refine (ih _ m O.2.1 O.2.2 lab (hMx2.ext ((by repeat' (first | (with_reducible exact Ext.refl _) | (with_reducible assumption) | (with_reducible refine Ext.alloc ?_ _) | (with_reducible refine Ext.drew ?_) | (with_reducible refine Ext.drewN ?_ _) | (with_reducible refine Ext.setCell ?_ (by first | exact Nat.le_refl _ | (simp; done) | (simp; omega) | omega) _) | (with_reducible refine Ext.trans ?_ (by assumption)))))) (by omega) (by omega) (by omega) (by omega)).mono ?_); rintro e w3 ⟨t3, rfl, ht3, hin3, hM3, hg3⟩; have c2_0 : w3.cell? ⟨w2.heap.size, 0, none⟩ = some (.int .i64 t2.kd) := hg3.cell x2_0 (fun e => by injection e with e; simp only at e; omega); have c2_1 : w3.cell? ⟨w2.heap.size, 1, none⟩ = some (.string t2.s) := hg3.cell x2_1 (fun e => by injection e with e; simp only at e; omega); have c2_2 : w3.cell? ⟨w2.heap.size, 2, none⟩ = some (.int .i64 t2.n) := hg3.cell x2_2 (fun e => by injection e with e; simp only at e; omega); have c2_3 : w3.cell? ⟨w2.heap.size, 3, none⟩ = some (.slice t2.a t2.k.length t2.c) := hg3.cell x2_3 (fun e => by injection e with e; simp only at e; omega); have hHn := And.intro ((hX2.out.1.ext (Ext.refl _).drew).grown hg3 (by omega)) (And.intro ((hX2.out.2.1.ext (Ext.refl _).drew).grown hg3 (by omega)) (grown_trans (grown_trans hX2.out.2.2 (grown_ext (Ext.refl _).drew _)) hg3)); obtain ⟨⟨y0, d0⟩, ⟨y1, d1⟩, ⟨y2, d2⟩, ⟨y3, d3⟩, hfz⟩ := hHn.2.1.cells; obtain ⟨z0, z1, z2, z3, hfz2⟩ := hHn.1.cells; have hgs : w2.heap.size + 1 ≤ w3.heap.size := Nat.le_trans (Nat.le_of_eq hszx2.symm) hg3.size; have hbw2 : b < w3.heap.size := (by omega); have hbt : w1.heap.size < w3.heap.size := (by omega); have hH3 := Lib.hid hHn; clear hHn; have hu3 := hin3.weak (q' := (w1.heap.size < ·)) (fun y hy => Nat.lt_of_lt_of_le (show w1.heap.size < w2.heap.size + 1 by omega) (Nat.le_trans (Nat.le_of_eq hszx2.symm) hy)); have hv2 : t2.In (w1.heap.size < ·) w3 := (hux2.ext (Ext.refl _).drew).grown (fun y hy => by omega) hg3; have hP3 := Lib.hid (And.intro hM3 (And.intro hu3 (And.intro ht3 hv2))); clear hM3 hu3 ht3 hin3 hg3 hv2; unfold HT.val; have hgl2 : w2.heap.size < w3.heap.size := (by omega)))
      clear hwd
      all_goals (
        have hE0 := Lib.hid (fun (V : World) (hV : w3.grownBy V (some w1.heap.size)) (hs : V.heap.size = w3.heap.size) => term_fin hP3.out.1 hH3.out.2.2 hb hm hbw1 hbt hH3.out.2.1 hV hs #[.int .i64 t2.kd, .string t2.s, .int .i64 t2.n, .slice t2.a t2.k.length t2.c, .int .i64 t3.kd, .string t3.s, .int .i64 t3.n, .slice t3.a t3.k.length t3.c] [t2, t3] (by simp [cellsL, HT.cells]) (fun x hx => by
            simp only [List.mem_cons, List.not_mem_nil, or_false] at hx
            rcases hx with rfl | rfl
            · exact hP3.out.2.2.2
            · exact hP3.out.2.1) (by simp) (6) ⟨#[]⟩ 0 w3.heap.size 2 rfl rfl)
        go_wp2
        apply bodyPost_ret
        · exact (hE0.out _ (by repeat' (first | (with_reducible exact World.grownBy.refl _ _) | (with_reducible refine grown_trans ?_ (setCell_grown _ _ _ _)))) (by simp only [setCell_size])).2 _ _ 4 rfl rfl
        · rfl
        have e : r = (Tr.mk 6 ⟨#[]⟩ 0 (HT.trL [t2, t3]), (termT p d O.2.1 O.2.2 lab).2) := by rw [HR.out, ← hN2.out, ← hP3.out.2.2.1]; rfl
        rw [e]
        exact (hE0.out _ (by repeat' (first | (with_reducible exact World.grownBy.refl _ _) | (with_reducible refine grown_trans ?_ (setCell_grown _ _ _ _)))) (by simp only [setCell_size])).1))
  · go_enter Try.func114, Try.ntmps114
    (go_wp2_with fail; (with_reducible refine H1.mono ?_); rintro e w1 ⟨rfl, hM1, hg1⟩)
    have hFb := HF.1.grown hg1 (by omega)
    have hgA := grown_trans HF.2 hg1
    clear H1 HF hg1 c3 hf
    have c3 := hM1.cells.2.2.2.1
    generalize hb : w.heap.size = b at hFb hm ⊢
    have hbw1 : b < w1.heap.size := by obtain ⟨x0, x1, x2, x3, h⟩ := hFb; exact (Array.getElem?_eq_some_iff.1 h).1
    have hM1' := hM1.ext ((Ext.refl w1).alloc fourZ)
    have hH1 := Lib.hid (And.intro (Z4.new w1) (And.intro (hFb.ext ((Ext.refl w1).alloc fourZ)) (grown_trans hgA (grown_ext ((Ext.refl w1).alloc fourZ) _))))
    have hsz1 : (w1.alloc fourZ).heap.size = w1.heap.size + 1 := by simp
    have hz1 := Lib.hid hsz1
    clear hFb hgA hM1 hsz1
    obtain ⟨o1, o2, o3⟩ := obsT_i p (min d 2) (i + 1) (left - 1)
    have hcm := costT_min d
    have HOb := mobs_calls p lab (min d 2) _ m (i + 1) (left - 1) hM1' (by omega) (by omega) (by omega) (by omega)
    have hmn : (min d 2 = d ∧ (d : Int) ≤ 2) ∨ (min d 2 = 2 ∧ (2 : Int) < (d : Int)) := by omega
    have hne1 : b ≠ w1.heap.size := by omega
    have hne2 : w1.heap.size ≠ b := by omega
    generalize hO : obsT p (min d 2) (i + 1) (left - 1) = O at *
    rcases hmn with ⟨hmn, hdl⟩ | ⟨hmn, hdl⟩ <;>
    ( rw [hmn] at HOb
      try rw [show ((2 : Nat) : Int) = 2 from rfl] at HOb
      (go_wp2_with fail; (with_reducible refine HOb.mono ?_); rintro e w2 ⟨t2, rfl, ht2, hin2, hM2, hg2⟩)
      clear HOb hdl
      have hbt2 : w1.heap.size < w2.heap.size := by have := hg2.size; have := hz1.out; omega
      have hH2 := Lib.hid (And.intro (hH1.out.1.grown hg2 (by omega)) (And.intro (hH1.out.2.1.grown hg2 (by omega)) (grown_trans hH1.out.2.2 hg2)))
      have hu2 := hin2.weak (q' := (w1.heap.size < ·)) (fun y hy => by have := hz1.out; omega)
      have hX2 := Lib.hid (And.intro (hH2.out.1.ext ((Ext.refl w2).alloc (.cells #[.int .i64 t2.kd, .string t2.s, .int .i64 t2.n, .slice t2.a t2.k.length t2.c] 76))) (And.intro (hH2.out.2.1.ext ((Ext.refl w2).alloc (.cells #[.int .i64 t2.kd, .string t2.s, .int .i64 t2.n, .slice t2.a t2.k.length t2.c] 76))) (grown_trans hH2.out.2.2 (grown_ext ((Ext.refl w2).alloc (.cells #[.int .i64 t2.kd, .string t2.s, .int .i64 t2.n, .slice t2.a t2.k.length t2.c] 76)) _))))
      have hMx2 := hM2.ext ((Ext.refl w2).alloc (.cells #[.int .i64 t2.kd, .string t2.s, .int .i64 t2.n, .slice t2.a t2.k.length t2.c] 76))
      have hux2 := hu2.ext ((Ext.refl w2).alloc (.cells #[.int .i64 t2.kd, .string t2.s, .int .i64 t2.n, .slice t2.a t2.k.length t2.c] 76))
      have x2_0 : (w2.alloc (.cells #[.int .i64 t2.kd, .string t2.s, .int .i64 t2.n, .slice t2.a t2.k.length t2.c] 76)).cell? ⟨w2.heap.size, 0, none⟩ = some (.int .i64 t2.kd) := by rw [World.cell?_alloc_new]; rfl
      have x2_1 : (w2.alloc (.cells #[.int .i64 t2.kd, .string t2.s, .int .i64 t2.n, .slice t2.a t2.k.length t2.c] 76)).cell? ⟨w2.heap.size, 1, none⟩ = some (.string t2.s) := by rw [World.cell?_alloc_new]; rfl
      have x2_2 : (w2.alloc (.cells #[.int .i64 t2.kd, .string t2.s, .int .i64 t2.n, .slice t2.a t2.k.length t2.c] 76)).cell? ⟨w2.heap.size, 2, none⟩ = some (.int .i64 t2.n) := by rw [World.cell?_alloc_new]; rfl
      have x2_3 : (w2.alloc (.cells #[.int .i64 t2.kd, .string t2.s, .int .i64 t2.n, .slice t2.a t2.k.length t2.c] 76)).cell? ⟨w2.heap.size, 3, none⟩ = some (.slice t2.a t2.k.length t2.c) := by rw [World.cell?_alloc_new]; rfl
      have hszx2 : (w2.alloc (.cells #[.int .i64 t2.kd, .string t2.s, .int .i64 t2.n, .slice t2.a t2.k.length t2.c] 76)).heap.size = w2.heap.size + 1 := by simp
      have hN2 := Lib.hid ht2
      clear hM1' hM2 hg2 hin2 ht2 hu2
      unfold HT.val
      go_wp2_with fail
      have hn2a : w1.heap.size ≠ w2.heap.size := by omega
      have hn2b : w2.heap.size ≠ w1.heap.size := by omega
      have hwd : IntKind.i64.wrap (d : Int) = d := by rw [IntWalk.i64_left, IntWalk.wrap64_in (d : Int) (by omega)]
      go_region_held3 (fun W => W.cell? ⟨w2.heap.size, 0, none⟩ = some (.int .i64 t2.kd) ∧ W.cell? ⟨w2.heap.size, 1, none⟩ = some (.string t2.s) ∧ W.cell? ⟨w2.heap.size, 2, none⟩ = some (.int .i64 t2.n) ∧ W.cell? ⟨w2.heap.size, 3, none⟩ = some (.slice t2.a t2.k.length t2.c)) (go_keep)
        ((go_at_call 114; (with_reducible refine (ih _ m O.2.1 O.2.2 lab (hMx2.ext ((by repeat' (first | (with_reducible exact Ext.refl _) | (with_reducible assumption) | (with_reducible refine Ext.alloc ?_ _) | (with_reducible refine Ext.drew ?_) | (with_reducible refine Ext.drewN ?_ _) | (with_reducible refine Ext.setCell ?_ (by first | exact Nat.le_refl _ | (simp; done) | (simp; omega) | omega) _) | (with_reducible refine Ext.trans ?_ (by assumption)))))) (by omega) (by omega) (by omega) (by omega)).mono ?_); rintro e w3 ⟨t3, rfl, ht3, hin3, hM3, hg3⟩; have c2_0 : w3.cell? ⟨w2.heap.size, 0, none⟩ = some (.int .i64 t2.kd) := hg3.cell x2_0 (fun e => by injection e with e; simp only at e; omega); have c2_1 : w3.cell? ⟨w2.heap.size, 1, none⟩ = some (.string t2.s) := hg3.cell x2_1 (fun e => by injection e with e; simp only at e; omega); have c2_2 : w3.cell? ⟨w2.heap.size, 2, none⟩ = some (.int .i64 t2.n) := hg3.cell x2_2 (fun e => by injection e with e; simp only at e; omega); have c2_3 : w3.cell? ⟨w2.heap.size, 3, none⟩ = some (.slice t2.a t2.k.length t2.c) := hg3.cell x2_3 (fun e => by injection e with e; simp only at e; omega); have hHn := And.intro ((hX2.out.1.ext (Ext.refl _).drew).grown hg3 (by omega)) (And.intro ((hX2.out.2.1.ext (Ext.refl _).drew).grown hg3 (by omega)) (grown_trans (grown_trans hX2.out.2.2 (grown_ext (Ext.refl _).drew _)) hg3)); obtain ⟨⟨y0, d0⟩, ⟨y1, d1⟩, ⟨y2, d2⟩, ⟨y3, d3⟩, hfz⟩ := hHn.2.1.cells; obtain ⟨z0, z1, z2, z3, hfz2⟩ := hHn.1.cells; have hgs : w2.heap.size + 1 ≤ w3.heap.size := Nat.le_trans (Nat.le_of_eq hszx2.symm) hg3.size; have hbw2 : b < w3.heap.size := (by omega); have hbt : w1.heap.size < w3.heap.size := (by omega); have hH3 := Lib.hid hHn; clear hHn; have hu3 := hin3.weak (q' := (w1.heap.size < ·)) (fun y hy => Nat.lt_of_lt_of_le (show w1.heap.size < w2.heap.size + 1 by omega) (Nat.le_trans (Nat.le_of_eq hszx2.symm) hy)); have hv2 : t2.In (w1.heap.size < ·) w3 := (hux2.ext (Ext.refl _).drew).grown (fun y hy => by omega) hg3; have hP3 := Lib.hid (And.intro hM3 (And.intro hu3 (And.intro ht3 hv2))); clear hM3 hu3 ht3 hin3 hg3 hv2; unfold HT.val; have hgl2 : w2.heap.size < w3.heap.size := (by omega)))
      clear hwd
      all_goals (
        have hE0 := Lib.hid (fun (V : World) (hV : w3.grownBy V (some w1.heap.size)) (hs : V.heap.size = w3.heap.size) => term_fin hP3.out.1 hH3.out.2.2 hb hm hbw1 hbt hH3.out.2.1 hV hs #[.int .i64 t2.kd, .string t2.s, .int .i64 t2.n, .slice t2.a t2.k.length t2.c, .int .i64 t3.kd, .string t3.s, .int .i64 t3.n, .slice t3.a t3.k.length t3.c] [t2, t3] (by simp [cellsL, HT.cells]) (fun x hx => by
            simp only [List.mem_cons, List.not_mem_nil, or_false] at hx
            rcases hx with rfl | rfl
            · exact hP3.out.2.2.2
            · exact hP3.out.2.1) (by simp) (6) ⟨#[]⟩ 0 w3.heap.size 2 rfl rfl)
        go_wp2
        apply bodyPost_ret
        · exact (hE0.out _ (by repeat' (first | (with_reducible exact World.grownBy.refl _ _) | (with_reducible refine grown_trans ?_ (setCell_grown _ _ _ _)))) (by simp only [setCell_size])).2 _ _ 4 rfl rfl
        · rfl
        have e : r = (Tr.mk 6 ⟨#[]⟩ 0 (HT.trL [t2, t3]), (termT p d O.2.1 O.2.2 lab).2) := by rw [HR.out, ← hN2.out, ← hP3.out.2.2.1]; rfl
        rw [e]
        exact (hE0.out _ (by repeat' (first | (with_reducible exact World.grownBy.refl _ _) | (with_reducible refine grown_trans ?_ (setCell_grown _ _ _ _)))) (by simp only [setCell_size])).1))

end Go.Proofs.Ytgjjngkmbplijaa
