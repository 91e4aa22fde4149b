/- TermTells: Of any contract: how many there are in it, how deep, whether it may be, which names and labels it has; whether two are alike. Printed by wip/src/mktells.py. -/
import Derived.Test.YtgjjngkmbplijaaYSome5
import Derived.Test.YtgjjngkmbplijaaYRef6
import Derived.Test.YtgjjngkmbplijaaYTr3
import Derived.Test.YtgjjngkmbplijaaYOwn3
import Derived.Test.YtgjjngkmbplijaaZRf
import Derived.Test.YtgjjngkmbplijaaYTerm6
import Derived.Test.YtgjjngkmbplijaaYTerm5

namespace Go.Proofs.Ytgjjngkmbplijaa
open Go.RowKit
set_option linter.unusedSimpArgs false
set_option linter.unusedVariables false

set_option maxRecDepth 100000 in
set_option maxHeartbeats 3200000 in
theorem termTells_walk (p q : Pl) (at0 what v : Int) (s : ByteArray) (odd : Int) (sm : Bool) (w : World) (hp : p.In (· < w.heap.size) w) (hq : q.In (· < w.heap.size) w) (hat : (Lit.int .i64 at0).wf = true) (hwh : (Lit.int .i64 what).wf = true)
    (hv : (Lit.int .i64 v).wf = true) (hs : s.size ≤ maxLen) (hod : (Lit.int .i64 odd).wf = true) :
    Calls Try.prog 23 #[p.val, q.val, .int .i64 at0, .int .i64 what, .int .i64 v, .string s, .int .i64 odd, .bool sm] w fun e w' => e = .returned (.bool true) ∧ Below w.heap.size w w' := by
  have S1 := fun W (hW : Ext w W) => some5_calls p at0 what v odd s W ((hp.ext hW).weak (fun y hy => Nat.lt_of_lt_of_le hy hW.le)) (i64_of hat).1 (i64_of hat).2 (i64_of hwh).1 (i64_of hwh).2 (i64_of hv).1 (i64_of hv).2 (i64_of hod).1 (i64_of hod).2 hs
  have S2 := fun W (hW : Ext w W) => some5_calls q 0 1 0 0 ⟨#[]⟩ W ((hq.ext hW).weak (fun y hy => Nat.lt_of_lt_of_le hy hW.le)) (by omega) (by omega) (by omega) (by omega) (by omega) (by omega) (by omega) (by omega) (by decide)
  clear hp hq hat hwh hv hs hod
  have hX : Ext w ((w.alloc (.cells #[.slice p.a p.n p.c, .slice p.a2 p.n2 p.c2] 72)).alloc (.cells #[.slice q.a q.n q.c, .slice q.a2 q.n2 q.c2] 72)) := ((Ext.refl w).alloc _).alloc _
  have hX2 : ((w.alloc (.cells #[.slice p.a p.n p.c, .slice p.a2 p.n2 p.c2] 72)).alloc (.cells #[.slice q.a q.n q.c, .slice q.a2 q.n2 q.c2] 72)).heap[w.heap.size + 1]? = some (.cells #[.slice q.a q.n q.c, .slice q.a2 q.n2 q.c2] 72 (0, 0)) := heap_alloc2_new w _ _
  unfold Pl.val at *
  go_enter Try.func23, Try.ntmps23
  (go_wp2_with fail; (with_reducible refine (S1 _ ((by repeat' (first | (with_reducible exact Ext.refl _) | (with_reducible assumption) | (with_reducible refine Ext.alloc ?_ _) | (with_reducible refine Ext.drew ?_) | (with_reducible refine Ext.drewN ?_ _) | (with_reducible refine Ext.setCell ?_ (by first | exact Nat.le_refl _ | (simp; done) | (simp; omega) | omega) _) | (with_reducible refine Ext.trans ?_ (by assumption)))))).mono ?_); rintro e w1 ⟨o, h, rfl, how, hon, hod, htr, hin, hx1⟩)
  have hE1 := hX.trans hx1
  obtain ⟨k0, kf, kl⟩ := obj_cells (hx1.obj hX2)
  have z0 := k0 0 _ rfl
  have z1 := k0 1 _ rfl
  have hS2 := fun W (hW : Ext w1 W) => S2 W (hE1.trans hW)
  clear S1 S2 hX hX2 k0
  unfold HT.val
  (go_wp2_with fail; (with_reducible refine (hS2 _ ((by repeat' (first | (with_reducible exact Ext.refl _) | (with_reducible assumption) | (with_reducible refine Ext.alloc ?_ _) | (with_reducible refine Ext.drew ?_) | (with_reducible refine Ext.drewN ?_ _) | (with_reducible refine Ext.setCell ?_ (by first | exact Nat.le_refl _ | (simp; done) | (simp; omega) | omega) _) | (with_reducible refine Ext.trans ?_ (by assumption)))))).mono ?_); rintro e w2 ⟨x, u, rfl, hxw, hxn, hxd, hxtr, hxin, hx2⟩)
  have hE2 : Ext w1 w2 := ((by repeat' (first | (with_reducible exact Ext.refl _) | (with_reducible assumption) | (with_reducible refine Ext.alloc ?_ _) | (with_reducible refine Ext.drew ?_) | (with_reducible refine Ext.drewN ?_ _) | (with_reducible refine Ext.setCell ?_ (by first | exact Nat.le_refl _ | (simp; done) | (simp; omega) | omega) _) | (with_reducible refine Ext.trans ?_ (by assumption)))))
  have hB1 : w2.heap[w1.heap.size]? = some (.cells #[.int .i64 h.kd, .string h.s, .int .i64 h.n, .slice h.a h.k.length h.c] 76 (0, 0)) := hx2.obj (heap_alloc_new _ _)
  obtain ⟨k0, kf2, kl2⟩ := obj_cells hB1
  have c0 := k0 0 _ rfl
  have c1 := k0 1 _ rfl
  have c2 := k0 2 _ rfl
  have c3 := k0 3 _ rfl
  have HH := Lib.hid (And.intro hB1 (And.intro (hE1.trans hE2) (And.intro (hin.ext hE2) hE2)))
  clear k0 hB1 hS2 hx2 hx1 hE2 hin hE1
  unfold HT.val
  have hB2 : Four (w2.alloc (.cells #[.int .i64 u.kd, .string u.s, .int .i64 u.n, .slice u.a u.k.length u.c] 76)) w2.heap.size := ⟨_, _, _, _, heap_alloc_new _ _⟩
  go_upto_if 40 with fail
  go_cut [19] from 41 to 43 (fun xv wx => ∃ (x : Te) (u : HT), xv = x.val ∧ x.wf ∧ x.nodes ≤ 400 ∧ u.tr = x.tr ∧ wx.heap[w2.heap.size]? = some (.cells #[.int .i64 u.kd, .string u.s, .int .i64 u.n, .slice u.a u.k.length u.c] 76 (0, 0)) ∧ u.In (fun _ => True) wx ∧ Ext w2 wx)
  case first =>
    cases sm with
    | false =>
      have HL := Lib.hid (And.intro hxw (And.intro hxtr hxin))
      clear hxw hxtr hxin
      go_wp2_with fail
      go_meet
      exact ⟨x, u, rfl, HL.out.1, hxn, HL.out.2.1, heap_alloc_new _ _, (HL.out.2.2.ext ((Ext.refl _).alloc _)).weak (fun _ _ => trivial), (Ext.refl _).alloc _⟩
    | true =>
      have HO := fun W (hW : Ext w2 W) => pterm_at o.bare_is (Te.bare_wf how) h _ W htr (HH.out.2.2.1.ext hW)
      have hbn : o.bare.nodes ≤ 400 := by rw [Te.bare_nodes]; exact hon
      unfold HT.val at HO
      have hlt : w1.heap.size < w2.heap.size := kl2
      have hlt2 : w1.heap.size < w2.heap.size + 1 := by omega
      have hne1 : w1.heap.size ≠ w2.heap.size := by omega
      have hne2 : w2.heap.size ≠ w1.heap.size := by omega
      have hne3 : ¬ w2.heap.size = w1.heap.size := hne2
      have HL := Lib.hid (And.intro how (And.intro htr hB2))
      clear hxw hxtr hxin hB2 htr how hon hod hxn hxd
      go_upto_region 4 with fail
      go_region_held3 (fun W => W.cell? ⟨w1.heap.size, 0, none⟩ = some (.int .i64 h.kd) ∧ W.cell? ⟨w1.heap.size, 1, none⟩ = some (.string h.s) ∧ W.cell? ⟨w1.heap.size, 2, none⟩ = some (.int .i64 h.n) ∧ W.cell? ⟨w1.heap.size, 3, none⟩ = some (.slice h.a h.k.length h.c)) (go_keep)
        (first | (go_at_call 66; (with_reducible refine (HO _ ((by repeat' (first | (with_reducible exact Ext.refl _) | (with_reducible assumption) | (with_reducible refine Ext.alloc ?_ _) | (with_reducible refine Ext.drew ?_) | (with_reducible refine Ext.drewN ?_ _) | (with_reducible refine Ext.setCell ?_ (by first | exact Nat.le_refl _ | (simp; done) | (simp; omega) | omega) _) | (with_reducible refine Ext.trans ?_ (by assumption)))))).mono ?_); rintro e w5 ⟨rfl, hx5⟩; obtain ⟨hcc, hff⟩ := hx5.cells))
      have hBw := HL.out.2.2.ext (((Ext.refl _).drew).trans hx5)
      have hpp := hBw.put h.kd h.s h.n (.slice h.a h.k.length h.c)
      have hxx : Ext w2 w5 := ((by repeat' (first | (with_reducible exact Ext.refl _) | (with_reducible assumption) | (with_reducible refine Ext.alloc ?_ _) | (with_reducible refine Ext.drew ?_) | (with_reducible refine Ext.drewN ?_ _) | (with_reducible refine Ext.setCell ?_ (by first | exact Nat.le_refl _ | (simp; done) | (simp; omega) | omega) _) | (with_reducible refine Ext.trans ?_ (by assumption)))))
      have hin5 := (HH.out.2.2.1.ext hxx)
      go_wp2_with fail
      go_meet
      exact ⟨o.bare, h, rfl, Te.bare_wf HL.out.1, hbn, by rw [Te.bare_tr]; exact HL.out.2.1, hpp, (((HH.out.2.2.1.inE.ext hxx).grown (fun y hy => by have := hy.2; omega) (put4_grown _ _ _ _ _ _)).any), put4_ext hxx (Nat.le_refl _) _ _ _ _⟩
  case rest =>
    clear hxw hxn hxd hxtr hxin hB2 kf kl z0 z1 kf2 kl2
    obtain ⟨x1, u1, rfl, hxw, hxn, hxtr, hb, hui, hxx⟩ := hcut
    obtain ⟨k0, kf, kl⟩ := obj_cells hb
    have y0 := k0 0 _ rfl
    have y1 := k0 1 _ rfl
    have y2 := k0 2 _ rfl
    have y3 := k0 3 _ rfl
    replace c0 := hxx.cell c0
    replace c1 := hxx.cell c1
    replace c2 := hxx.cell c2
    replace c3 := hxx.cell c3
    simp only [List.getElem_toArray, List.getElem_cons_zero, List.getElem_cons_succ] at c0 c1 c2 c3 y0 y1 y2 y3
    have hhc := HH.out.2.2.1.ext hxx
    have hlb : o.labels.length ≤ 400 := Nat.le_trans o.labels_len hon
    have Z1 := fun W => tsize_calls _ o W (Nat.lt_succ_self _) how (by omega)
    have Z2 := fun W (hW : Ext wc W) => rsize_calls _ h _ W (Nat.lt_succ_self _) (hhc.ext hW) (by rw [htr, Te.tr_nodes]; omega)
    have CK := fun W => tcheck_calls o W how (by omega)
    have RK := fun W (hW : Ext wc W) => rcheck_calls h _ W false (hhc.ext hW) (by rw [htr]; exact Te.tr_short how) (by rw [htr, Te.tr_nodes]; omega) (by rw [htr, Te.tr_labels]; omega)
    have L1 := fun W => tlabels_calls _ o W (Nat.lt_succ_self _) how (by omega)
    have L2 := fun W (hW : Ext wc W) => rLabels_calls h _ W (hhc.ext hW) (by rw [htr, Te.tr_labels]; omega)
    have N1 := fun W => tnames_calls _ o W (Nat.lt_succ_self _) how (by omega)
    have N2 := fun W (hW : Ext wc W) => rNames_calls h _ W (hhc.ext hW) (by rw [htr]; have := o.tr_every; omega)
    have P1 := fun W => tsame_calls _ o x1 W (Nat.lt_succ_self _) how hxw
    have P2 := fun W (hW : Ext wc W) => rsame_calls _ h u1 _ _ W (Nat.lt_succ_self _) (hhc.ext hW) (hui.ext hW)
    have P3 := fun W => tsame_calls _ x1 o W (Nat.lt_succ_self _) hxw how
    rw [htr, Te.tr_nodes, Te.tr_depth] at Z2
    rw [htr, Te.tr_check] at RK
    rw [htr, Te.tr_labels] at L2
    rw [htr, Te.tr_names] at N2
    rw [htr, hxtr, Te.tr_same] at P2
    rw [Te.same_comm x1 o] at P3
    have HF := Lib.hid (HH.out.2.1.trans hxx)
    clear hlb HH hhc how hon hod htr hxw hxn hxtr hb hui hxx k0
    unfold HT.val at Z2 RK L2 N2 P2
    generalize o.nodes = nn at *
    generalize o.depth = dd at *
    generalize o.checked = ck at *
    generalize o.names = N at *
    generalize o.labels = LL at *
    generalize o.same x1 = sb at *
    generalize o.val = ov at *
    generalize x1.val = xv at *
    generalize h.kd = h0 at *
    generalize h.s = h1 at *
    generalize h.n = h2 at *
    generalize h.a = h3 at *
    generalize h.k.length = h4 at *
    generalize h.c = h5 at *
    generalize u1.kd = u0 at *
    generalize u1.s = u2 at *
    generalize u1.n = u3 at *
    generalize u1.a = u4 at *
    generalize u1.k.length = u5 at *
    generalize u1.c = u6 at *
    generalize w1.heap.size = B1 at *
    generalize w2.heap.size = B2 at *
    (go_wp2_with fail; (with_reducible refine (Z1 _).mono ?_); rintro e w4 ⟨rfl, hx4⟩)
    replace c0 := hx4.cell c0
    replace c1 := hx4.cell c1
    replace c2 := hx4.cell c2
    replace c3 := hx4.cell c3
    (go_wp2_with fail; (with_reducible refine (Z2 _ ((by repeat' (first | (with_reducible exact Ext.refl _) | (with_reducible assumption) | (with_reducible refine Ext.alloc ?_ _) | (with_reducible refine Ext.drew ?_) | (with_reducible refine Ext.drewN ?_ _) | (with_reducible refine Ext.setCell ?_ (by first | exact Nat.le_refl _ | (simp; done) | (simp; omega) | omega) _) | (with_reducible refine Ext.trans ?_ (by assumption)))))).mono ?_); rintro e w5 ⟨rfl, hx5⟩)
    have hE5 := hx4.trans hx5
    replace c0 := hx5.cell c0
    replace c1 := hx5.cell c1
    replace c2 := hx5.cell c2
    replace c3 := hx5.cell c3
    replace y0 := hE5.cell y0
    replace y1 := hE5.cell y1
    replace y2 := hE5.cell y2
    replace y3 := hE5.cell y3
    have HG := Lib.hid (And.intro hE5 HF.out)
    clear hx4 hx5 hE5 HF Z1 Z2
    go_upto_region 7 with fail
    refine wp_region_slots 50 [0, 1, 2, 3, 4, 5, 6, 7, 8, 9, 10, 11, 12, 13, 14, 15, 16, 17, 18, 19, 20, 21, 22, 23, 24, 25, 26, 27, 28, 29, 30, 31, 32, 33, 34, 35, 36, 37, 38, 39, 40, 41, 42, 43, 44, 45, 46, 47, 48, 49] _ [54, 55, 56, 57, 58, 59, 60, 61, 62, 63, 64, 65, 66, 67, 68, 69, 70, 71, 72, 73, 74, 75, 76, 77, 78, 79, 80, 81, 82, 83, 84, 85, 86, 87, 88, 89, 90, 91, 92, 93, 94, 95, 96, 97, 98, 99, 100, 101, 102, 103] (otG [(17, LL), (19, LL), (24, N), (26, N)] [.int .i64 nn, .int .i64 nn, .bool true, .bool true, .int .i64 dd, .int .i64 dd, .bool true, .bool true, .bool true, ov, .int .i64 ck, .agg #[.int .i64 h0, .string h1, .int .i64 h2, .slice h3 h4 h5], .int .i64 ck, .bool true, .bool true, .bool true, ov, undef, .agg #[.int .i64 h0, .string h1, .int .i64 h2, .slice h3 h4 h5], undef, .bool true, .bool true, .bool true, ov, undef, .agg #[.int .i64 h0, .string h1, .int .i64 h2, .slice h3 h4 h5], undef, .bool true, .bool true, .bool true, ov, xv, .bool sb, .agg #[.int .i64 h0, .string h1, .int .i64 h2, .slice h3 h4 h5], .agg #[.int .i64 u0, .string u2, .int .i64 u3, .slice u4 u5 u6], .bool sb, .bool true, .bool true, .bool true, xv, ov, .bool sb, ov, xv, .bool sb, .bool true, .bool true, .bool true, .bool true, .bool true]) (fun _ W => Ext w5 W) (by kernel_rfl) rfl (by kernel_rfl) (by kernel_rfl) rfl rfl rfl (by decide +kernel) rfl ?_ ?_ ?_
    · exact (Ext.refl _).drew
    · refine slots_cons rfl ?_ (slots_cons rfl ?_ (slots_cons rfl ?_ (slots_cons rfl ?_ (slots_cons rfl ?_ (slots_cons rfl ?_ (slots_cons rfl ?_ (slots_cons rfl ?_ (slots_cons rfl ?_ (slots_cons rfl ?_ (slots_cons rfl ?_ (slots_cons rfl ?_ (slots_cons rfl ?_ (slots_cons rfl ?_ (slots_cons rfl ?_ (slots_cons rfl ?_ (slots_cons rfl ?_ (slots_cons rfl ?_ (slots_cons rfl ?_ (slots_cons rfl ?_ (slots_cons rfl ?_ (slots_cons rfl ?_ (slots_cons rfl ?_ (slots_cons rfl ?_ (slots_cons rfl ?_ (slots_cons rfl ?_ (slots_cons rfl ?_ (slots_cons rfl ?_ (slots_cons rfl ?_ (slots_cons rfl ?_ (slots_cons rfl ?_ (slots_cons rfl ?_ (slots_cons rfl ?_ (slots_cons rfl ?_ (slots_cons rfl ?_ (slots_cons rfl ?_ (slots_cons rfl ?_ (slots_cons rfl ?_ (slots_cons rfl ?_ (slots_cons rfl ?_ (slots_cons rfl ?_ (slots_cons rfl ?_ (slots_cons rfl ?_ (slots_cons rfl ?_ (slots_cons rfl ?_ (slots_cons rfl ?_ (slots_cons rfl ?_ (slots_cons rfl ?_ (slots_cons rfl ?_ (slots_cons rfl ?_ slots_nil)))))))))))))))))))))))))))))))))))))))))))))))))
      · intro l a W hs ho hG hd hne K' hK
        have b21 : a.tmps[21]?.getD undef = .int .i64 nn := ho.ev 21 rfl
        clear hd ho hne
        go_simp
        exact hK _ _ (rfl) hG (fun j' v' _ hf => hf)
      · intro l a W hs ho hG hd hne K' hK
        have b23 : a.tmps[23]?.getD undef = .int .i64 nn := ho.ev 23 rfl
        clear hd ho hne
        go_simp
        exact hK _ _ (rfl) hG (fun j' v' _ hf => hf)
      · intro l a W hs ho hG hd hne K' hK
        have e0 : a.tmps[54]?.getD undef = .int .i64 nn := hd ⟨0, .data⟩ (by simp) rfl
        have e1 : a.tmps[55]?.getD undef = .int .i64 nn := hd ⟨1, .data⟩ (by simp) rfl
        clear hd ho hne
        go_simp
        exact hK _ _ (rfl) hG (fun j' v' _ hf => hf)
      · intro l a W hs ho hG hd hne K' hK
        have e2 : a.tmps[56]?.getD undef = .bool true := hd ⟨2, .data⟩ (by simp) rfl
        clear hd ho hne
        go_simp
        exact hK _ _ (rfl) hG (fun j' v' _ hf => hf)
      · intro l a W hs ho hG hd hne K' hK
        have eg : a.tmps[57]?.getD undef = .bool true := hd ⟨3, .guard⟩ (by simp) rfl
        have b22 : a.tmps[22]?.getD undef = .int .i64 dd := ho.ev 22 rfl
        rw [if_pos (by rw [wanted_of rfl rfl eg]; rfl)]
        clear hd ho hne eg
        go_simp
        exact hK _ _ (rfl) hG (fun j' v' _ hf => hf)
      · intro l a W hs ho hG hd hne K' hK
        have eg : a.tmps[57]?.getD undef = .bool true := hd ⟨3, .guard⟩ (by simp) rfl
        have b24 : a.tmps[24]?.getD undef = .int .i64 dd := ho.ev 24 rfl
        rw [if_pos (by rw [wanted_of rfl rfl eg]; rfl)]
        clear hd ho hne eg
        go_simp
        exact hK _ _ (rfl) hG (fun j' v' _ hf => hf)
      · intro l a W hs ho hG hd hne K' hK
        have eg : a.tmps[57]?.getD undef = .bool true := hd ⟨3, .guard⟩ (by simp) rfl
        have e4 : a.tmps[58]?.getD undef = .int .i64 dd := hd ⟨4, .data⟩ (by simp) rfl
        have e5 : a.tmps[59]?.getD undef = .int .i64 dd := hd ⟨5, .data⟩ (by simp) rfl
        rw [if_pos (by rw [wanted_of rfl rfl eg]; rfl)]
        clear hd ho hne eg
        go_simp
        exact hK _ _ (rfl) hG (fun j' v' _ hf => hf)
      · intro l a W hs ho hG hd hne K' hK
        have e3 : a.tmps[57]?.getD undef = .bool true := hd ⟨3, .data⟩ (by simp) rfl
        have e6 : a.tmps[60]?.getD undef = .bool true := hd ⟨6, .data⟩ (by simp) rfl
        clear hd ho hne
        go_simp
        exact hK _ _ (rfl) hG (fun j' v' _ hf => hf)
      · intro l a W hs ho hG hd hne K' hK
        have e7 : a.tmps[61]?.getD undef = .bool true := hd ⟨7, .data⟩ (by simp) rfl
        clear hd ho hne
        go_simp
        exact hK _ _ (rfl) hG (fun j' v' _ hf => hf)
      · intro l a W hs ho hG hd hne K' hK
        have eg : a.tmps[62]?.getD undef = .bool true := hd ⟨8, .guard⟩ (by simp) rfl
        have b17 : a.tmps[17]?.getD undef = ov := ho.ev 17 rfl
        rw [if_pos (by rw [wanted_of rfl rfl eg]; rfl)]
        clear hd ho hne eg
        go_simp
        exact hK _ _ (rfl) hG (fun j' v' _ hf => hf)
      · intro l a W hs ho hG hd hne K' hK
        have eg : a.tmps[62]?.getD undef = .bool true := hd ⟨8, .guard⟩ (by simp) rfl
        have e9 : a.tmps[63]?.getD undef = ov := hd ⟨9, .data⟩ (by simp) rfl
        rw [if_pos (by rw [wanted_of rfl rfl eg]; rfl)]
        clear hd ho hne eg
        go_simp
        go_at_call 64
        (with_reducible refine (CK W).mono ?_)
        rintro e W2 ⟨rfl, hx4⟩
        go_simp
        exact hK _ _ (rfl) (hG.trans hx4) (fun j' v' _ hf => otG_ext hx4 hf)
      · intro l a W hs ho hG hd hne K' hK
        have eg : a.tmps[62]?.getD undef = .bool true := hd ⟨8, .guard⟩ (by simp) rfl
        have b18 : a.tmps[18]?.getD undef = .pointer (some ⟨B1, 0, none⟩) := ho.ev 18 rfl
        rw [if_pos (by rw [wanted_of rfl rfl eg]; rfl)]
        have q0 := hG.cell c0
        have q1 := hG.cell c1
        have q2 := hG.cell c2
        have q3 := hG.cell c3
        clear hd ho hne eg
        go_simp
        exact hK _ _ (rfl) hG (fun j' v' _ hf => hf)
      · intro l a W hs ho hG hd hne K' hK
        have eg : a.tmps[62]?.getD undef = .bool true := hd ⟨8, .guard⟩ (by simp) rfl
        have e11 : a.tmps[65]?.getD undef = .agg #[.int .i64 h0, .string h1, .int .i64 h2, .slice h3 h4 h5] := hd ⟨11, .data⟩ (by simp) rfl
        rw [if_pos (by rw [wanted_of rfl rfl eg]; rfl)]
        clear hd ho hne eg
        go_simp
        go_at_call 58
        (with_reducible refine (RK W (HG.out.1.trans hG)).mono ?_)
        rintro e W2 ⟨rfl, hx4⟩
        go_simp
        exact hK _ _ (rfl) (hG.trans hx4) (fun j' v' _ hf => otG_ext hx4 hf)
      · intro l a W hs ho hG hd hne K' hK
        have eg : a.tmps[62]?.getD undef = .bool true := hd ⟨8, .guard⟩ (by simp) rfl
        have e10 : a.tmps[64]?.getD undef = .int .i64 ck := hd ⟨10, .data⟩ (by simp) rfl
        have e12 : a.tmps[66]?.getD undef = .int .i64 ck := hd ⟨12, .data⟩ (by simp) rfl
        rw [if_pos (by rw [wanted_of rfl rfl eg]; rfl)]
        clear hd ho hne eg
        go_simp
        exact hK _ _ (rfl) hG (fun j' v' _ hf => hf)
      · intro l a W hs ho hG hd hne K' hK
        have e8 : a.tmps[62]?.getD undef = .bool true := hd ⟨8, .data⟩ (by simp) rfl
        have e13 : a.tmps[67]?.getD undef = .bool true := hd ⟨13, .data⟩ (by simp) rfl
        clear hd ho hne
        go_simp
        exact hK _ _ (rfl) hG (fun j' v' _ hf => hf)
      · intro l a W hs ho hG hd hne K' hK
        have e14 : a.tmps[68]?.getD undef = .bool true := hd ⟨14, .data⟩ (by simp) rfl
        clear hd ho hne
        go_simp
        exact hK _ _ (rfl) hG (fun j' v' _ hf => hf)
      · intro l a W hs ho hG hd hne K' hK
        have eg : a.tmps[69]?.getD undef = .bool true := hd ⟨15, .guard⟩ (by simp) rfl
        have b17 : a.tmps[17]?.getD undef = ov := ho.ev 17 rfl
        rw [if_pos (by rw [wanted_of rfl rfl eg]; rfl)]
        clear hd ho hne eg
        go_simp
        exact hK _ _ (rfl) hG (fun j' v' _ hf => hf)
      · intro l a W hs ho hG hd hne K' hK
        have eg : a.tmps[69]?.getD undef = .bool true := hd ⟨15, .guard⟩ (by simp) rfl
        have e16 : a.tmps[70]?.getD undef = ov := hd ⟨16, .data⟩ (by simp) rfl
        rw [if_pos (by rw [wanted_of rfl rfl eg]; rfl)]
        clear hd ho hne eg
        go_simp
        go_at_call 75
        (with_reducible refine (L1 W).mono ?_)
        rintro e W2 ⟨nv, rfl, hno, hx4⟩
        go_simp
        exact hK _ _ (⟨_, hno⟩) (hG.trans hx4) (fun j' v' _ hf => otG_ext hx4 hf)
      · intro l a W hs ho hG hd hne K' hK
        have eg : a.tmps[69]?.getD undef = .bool true := hd ⟨15, .guard⟩ (by simp) rfl
        have b18 : a.tmps[18]?.getD undef = .pointer (some ⟨B1, 0, none⟩) := ho.ev 18 rfl
        rw [if_pos (by rw [wanted_of rfl rfl eg]; rfl)]
        have q0 := hG.cell c0
        have q1 := hG.cell c1
        have q2 := hG.cell c2
        have q3 := hG.cell c3
        clear hd ho hne eg
        go_simp
        exact hK _ _ (rfl) hG (fun j' v' _ hf => hf)
      · intro l a W hs ho hG hd hne K' hK
        have eg : a.tmps[69]?.getD undef = .bool true := hd ⟨15, .guard⟩ (by simp) rfl
        have e18 : a.tmps[72]?.getD undef = .agg #[.int .i64 h0, .string h1, .int .i64 h2, .slice h3 h4 h5] := hd ⟨18, .data⟩ (by simp) rfl
        rw [if_pos (by rw [wanted_of rfl rfl eg]; rfl)]
        clear hd ho hne eg
        go_simp
        go_at_call 80
        (with_reducible refine (L2 W (HG.out.1.trans hG)).mono ?_)
        rintro e W2 ⟨nv, rfl, hno, hx4⟩
        go_simp
        exact hK _ _ (⟨_, hno⟩) (hG.trans hx4) (fun j' v' _ hf => otG_ext hx4 hf)
      · intro l a W hs ho hG hd hne K' hK
        have eg : a.tmps[69]?.getD undef = .bool true := hd ⟨15, .guard⟩ (by simp) rfl
        have e17 : NmAt LL W (a.tmps[71]?.getD undef) := hd ⟨17, .data⟩ (by simp) rfl
        have e19 : NmAt LL W (a.tmps[73]?.getD undef) := hd ⟨19, .data⟩ (by simp) rfl
        rw [if_pos (by rw [wanted_of rfl rfl eg]; rfl)]
        clear hd ho hne eg
        go_simp
        go_at_call 50
        (with_reducible refine (NmAt.same e17 e19).mono ?_)
        rintro e W2 ⟨rfl, hx4⟩
        go_simp
        exact hK _ _ (rfl) (hG.trans hx4) (fun j' v' _ hf => otG_ext hx4 hf)
      · intro l a W hs ho hG hd hne K' hK
        have e15 : a.tmps[69]?.getD undef = .bool true := hd ⟨15, .data⟩ (by simp) rfl
        have e20 : a.tmps[74]?.getD undef = .bool true := hd ⟨20, .data⟩ (by simp) rfl
        clear hd ho hne
        go_simp
        exact hK _ _ (rfl) hG (fun j' v' _ hf => hf)
      · intro l a W hs ho hG hd hne K' hK
        have e21 : a.tmps[75]?.getD undef = .bool true := hd ⟨21, .data⟩ (by simp) rfl
        clear hd ho hne
        go_simp
        exact hK _ _ (rfl) hG (fun j' v' _ hf => hf)
      · intro l a W hs ho hG hd hne K' hK
        have eg : a.tmps[76]?.getD undef = .bool true := hd ⟨22, .guard⟩ (by simp) rfl
        have b17 : a.tmps[17]?.getD undef = ov := ho.ev 17 rfl
        rw [if_pos (by rw [wanted_of rfl rfl eg]; rfl)]
        clear hd ho hne eg
        go_simp
        exact hK _ _ (rfl) hG (fun j' v' _ hf => hf)
      · intro l a W hs ho hG hd hne K' hK
        have eg : a.tmps[76]?.getD undef = .bool true := hd ⟨22, .guard⟩ (by simp) rfl
        have e23 : a.tmps[77]?.getD undef = ov := hd ⟨23, .data⟩ (by simp) rfl
        rw [if_pos (by rw [wanted_of rfl rfl eg]; rfl)]
        clear hd ho hne eg
        go_simp
        go_at_call 76
        (with_reducible refine (N1 W).mono ?_)
        rintro e W2 ⟨nv, rfl, hno, hx4⟩
        go_simp
        exact hK _ _ (⟨_, hno⟩) (hG.trans hx4) (fun j' v' _ hf => otG_ext hx4 hf)
      · intro l a W hs ho hG hd hne K' hK
        have eg : a.tmps[76]?.getD undef = .bool true := hd ⟨22, .guard⟩ (by simp) rfl
        have b18 : a.tmps[18]?.getD undef = .pointer (some ⟨B1, 0, none⟩) := ho.ev 18 rfl
        rw [if_pos (by rw [wanted_of rfl rfl eg]; rfl)]
        have q0 := hG.cell c0
        have q1 := hG.cell c1
        have q2 := hG.cell c2
        have q3 := hG.cell c3
        clear hd ho hne eg
        go_simp
        exact hK _ _ (rfl) hG (fun j' v' _ hf => hf)
      · intro l a W hs ho hG hd hne K' hK
        have eg : a.tmps[76]?.getD undef = .bool true := hd ⟨22, .guard⟩ (by simp) rfl
        have e25 : a.tmps[79]?.getD undef = .agg #[.int .i64 h0, .string h1, .int .i64 h2, .slice h3 h4 h5] := hd ⟨25, .data⟩ (by simp) rfl
        rw [if_pos (by rw [wanted_of rfl rfl eg]; rfl)]
        clear hd ho hne eg
        go_simp
        go_at_call 59
        (with_reducible refine (N2 W (HG.out.1.trans hG)).mono ?_)
        rintro e W2 ⟨nv, rfl, hno, hx4⟩
        go_simp
        exact hK _ _ (⟨_, hno⟩) (hG.trans hx4) (fun j' v' _ hf => otG_ext hx4 hf)
      · intro l a W hs ho hG hd hne K' hK
        have eg : a.tmps[76]?.getD undef = .bool true := hd ⟨22, .guard⟩ (by simp) rfl
        have e24 : NmAt N W (a.tmps[78]?.getD undef) := hd ⟨24, .data⟩ (by simp) rfl
        have e26 : NmAt N W (a.tmps[80]?.getD undef) := hd ⟨26, .data⟩ (by simp) rfl
        rw [if_pos (by rw [wanted_of rfl rfl eg]; rfl)]
        clear hd ho hne eg
        go_simp
        go_at_call 50
        (with_reducible refine (NmAt.same e24 e26).mono ?_)
        rintro e W2 ⟨rfl, hx4⟩
        go_simp
        exact hK _ _ (rfl) (hG.trans hx4) (fun j' v' _ hf => otG_ext hx4 hf)
      · intro l a W hs ho hG hd hne K' hK
        have e22 : a.tmps[76]?.getD undef = .bool true := hd ⟨22, .data⟩ (by simp) rfl
        have e27 : a.tmps[81]?.getD undef = .bool true := hd ⟨27, .data⟩ (by simp) rfl
        clear hd ho hne
        go_simp
        exact hK _ _ (rfl) hG (fun j' v' _ hf => hf)
      · intro l a W hs ho hG hd hne K' hK
        have e28 : a.tmps[82]?.getD undef = .bool true := hd ⟨28, .data⟩ (by simp) rfl
        clear hd ho hne
        go_simp
        exact hK _ _ (rfl) hG (fun j' v' _ hf => hf)
      · intro l a W hs ho hG hd hne K' hK
        have eg : a.tmps[83]?.getD undef = .bool true := hd ⟨29, .guard⟩ (by simp) rfl
        have b17 : a.tmps[17]?.getD undef = ov := ho.ev 17 rfl
        rw [if_pos (by rw [wanted_of rfl rfl eg]; rfl)]
        clear hd ho hne eg
        go_simp
        exact hK _ _ (rfl) hG (fun j' v' _ hf => hf)
      · intro l a W hs ho hG hd hne K' hK
        have eg : a.tmps[83]?.getD undef = .bool true := hd ⟨29, .guard⟩ (by simp) rfl
        have b19 : a.tmps[19]?.getD undef = xv := ho.ev 19 rfl
        rw [if_pos (by rw [wanted_of rfl rfl eg]; rfl)]
        clear hd ho hne eg
        go_simp
        exact hK _ _ (rfl) hG (fun j' v' _ hf => hf)
      · intro l a W hs ho hG hd hne K' hK
        have eg : a.tmps[83]?.getD undef = .bool true := hd ⟨29, .guard⟩ (by simp) rfl
        have e30 : a.tmps[84]?.getD undef = ov := hd ⟨30, .data⟩ (by simp) rfl
        have e31 : a.tmps[85]?.getD undef = xv := hd ⟨31, .data⟩ (by simp) rfl
        rw [if_pos (by rw [wanted_of rfl rfl eg]; rfl)]
        clear hd ho hne eg
        go_simp
        go_at_call 78
        (with_reducible refine (P1 W).mono ?_)
        rintro e W2 ⟨rfl, hx4⟩
        go_simp
        exact hK _ _ (rfl) (hG.trans hx4) (fun j' v' _ hf => otG_ext hx4 hf)
      · intro l a W hs ho hG hd hne K' hK
        have eg : a.tmps[83]?.getD undef = .bool true := hd ⟨29, .guard⟩ (by simp) rfl
        have b18 : a.tmps[18]?.getD undef = .pointer (some ⟨B1, 0, none⟩) := ho.ev 18 rfl
        rw [if_pos (by rw [wanted_of rfl rfl eg]; rfl)]
        have q0 := hG.cell c0
        have q1 := hG.cell c1
        have q2 := hG.cell c2
        have q3 := hG.cell c3
        clear hd ho hne eg
        go_simp
        exact hK _ _ (rfl) hG (fun j' v' _ hf => hf)
      · intro l a W hs ho hG hd hne K' hK
        have eg : a.tmps[83]?.getD undef = .bool true := hd ⟨29, .guard⟩ (by simp) rfl
        have b20 : a.tmps[20]?.getD undef = .pointer (some ⟨B2, 0, none⟩) := ho.ev 20 rfl
        rw [if_pos (by rw [wanted_of rfl rfl eg]; rfl)]
        have q0 := hG.cell y0
        have q1 := hG.cell y1
        have q2 := hG.cell y2
        have q3 := hG.cell y3
        clear hd ho hne eg
        go_simp
        exact hK _ _ (rfl) hG (fun j' v' _ hf => hf)
      · intro l a W hs ho hG hd hne K' hK
        have eg : a.tmps[83]?.getD undef = .bool true := hd ⟨29, .guard⟩ (by simp) rfl
        have e33 : a.tmps[87]?.getD undef = .agg #[.int .i64 h0, .string h1, .int .i64 h2, .slice h3 h4 h5] := hd ⟨33, .data⟩ (by simp) rfl
        have e34 : a.tmps[88]?.getD undef = .agg #[.int .i64 u0, .string u2, .int .i64 u3, .slice u4 u5 u6] := hd ⟨34, .data⟩ (by simp) rfl
        rw [if_pos (by rw [wanted_of rfl rfl eg]; rfl)]
        clear hd ho hne eg
        go_simp
        go_at_call 60
        (with_reducible refine (P2 W (HG.out.1.trans hG)).mono ?_)
        rintro e W2 ⟨rfl, hx4⟩
        go_simp
        exact hK _ _ (rfl) (hG.trans hx4) (fun j' v' _ hf => otG_ext hx4 hf)
      · intro l a W hs ho hG hd hne K' hK
        have eg : a.tmps[83]?.getD undef = .bool true := hd ⟨29, .guard⟩ (by simp) rfl
        have e32 : a.tmps[86]?.getD undef = .bool sb := hd ⟨32, .data⟩ (by simp) rfl
        have e35 : a.tmps[89]?.getD undef = .bool sb := hd ⟨35, .data⟩ (by simp) rfl
        rw [if_pos (by rw [wanted_of rfl rfl eg]; rfl)]
        clear hd ho hne eg
        go_simp
        exact hK _ _ (rfl) hG (fun j' v' _ hf => hf)
      · intro l a W hs ho hG hd hne K' hK
        have e29 : a.tmps[83]?.getD undef = .bool true := hd ⟨29, .data⟩ (by simp) rfl
        have e36 : a.tmps[90]?.getD undef = .bool true := hd ⟨36, .data⟩ (by simp) rfl
        clear hd ho hne
        go_simp
        exact hK _ _ (rfl) hG (fun j' v' _ hf => hf)
      · intro l a W hs ho hG hd hne K' hK
        have e37 : a.tmps[91]?.getD undef = .bool true := hd ⟨37, .data⟩ (by simp) rfl
        clear hd ho hne
        go_simp
        exact hK _ _ (rfl) hG (fun j' v' _ hf => hf)
      · intro l a W hs ho hG hd hne K' hK
        have eg : a.tmps[92]?.getD undef = .bool true := hd ⟨38, .guard⟩ (by simp) rfl
        have b19 : a.tmps[19]?.getD undef = xv := ho.ev 19 rfl
        rw [if_pos (by rw [wanted_of rfl rfl eg]; rfl)]
        clear hd ho hne eg
        go_simp
        exact hK _ _ (rfl) hG (fun j' v' _ hf => hf)
      · intro l a W hs ho hG hd hne K' hK
        have eg : a.tmps[92]?.getD undef = .bool true := hd ⟨38, .guard⟩ (by simp) rfl
        have b17 : a.tmps[17]?.getD undef = ov := ho.ev 17 rfl
        rw [if_pos (by rw [wanted_of rfl rfl eg]; rfl)]
        clear hd ho hne eg
        go_simp
        exact hK _ _ (rfl) hG (fun j' v' _ hf => hf)
      · intro l a W hs ho hG hd hne K' hK
        have eg : a.tmps[92]?.getD undef = .bool true := hd ⟨38, .guard⟩ (by simp) rfl
        have e39 : a.tmps[93]?.getD undef = xv := hd ⟨39, .data⟩ (by simp) rfl
        have e40 : a.tmps[94]?.getD undef = ov := hd ⟨40, .data⟩ (by simp) rfl
        rw [if_pos (by rw [wanted_of rfl rfl eg]; rfl)]
        clear hd ho hne eg
        go_simp
        go_at_call 78
        (with_reducible refine (P3 W).mono ?_)
        rintro e W2 ⟨rfl, hx4⟩
        go_simp
        exact hK _ _ (rfl) (hG.trans hx4) (fun j' v' _ hf => otG_ext hx4 hf)
      · intro l a W hs ho hG hd hne K' hK
        have eg : a.tmps[92]?.getD undef = .bool true := hd ⟨38, .guard⟩ (by simp) rfl
        have b17 : a.tmps[17]?.getD undef = ov := ho.ev 17 rfl
        rw [if_pos (by rw [wanted_of rfl rfl eg]; rfl)]
        clear hd ho hne eg
        go_simp
        exact hK _ _ (rfl) hG (fun j' v' _ hf => hf)
      · intro l a W hs ho hG hd hne K' hK
        have eg : a.tmps[92]?.getD undef = .bool true := hd ⟨38, .guard⟩ (by simp) rfl
        have b19 : a.tmps[19]?.getD undef = xv := ho.ev 19 rfl
        rw [if_pos (by rw [wanted_of rfl rfl eg]; rfl)]
        clear hd ho hne eg
        go_simp
        exact hK _ _ (rfl) hG (fun j' v' _ hf => hf)
      · intro l a W hs ho hG hd hne K' hK
        have eg : a.tmps[92]?.getD undef = .bool true := hd ⟨38, .guard⟩ (by simp) rfl
        have e42 : a.tmps[96]?.getD undef = ov := hd ⟨42, .data⟩ (by simp) rfl
        have e43 : a.tmps[97]?.getD undef = xv := hd ⟨43, .data⟩ (by simp) rfl
        rw [if_pos (by rw [wanted_of rfl rfl eg]; rfl)]
        clear hd ho hne eg
        go_simp
        go_at_call 78
        (with_reducible refine (P1 W).mono ?_)
        rintro e W2 ⟨rfl, hx4⟩
        go_simp
        exact hK _ _ (rfl) (hG.trans hx4) (fun j' v' _ hf => otG_ext hx4 hf)
      · intro l a W hs ho hG hd hne K' hK
        have eg : a.tmps[92]?.getD undef = .bool true := hd ⟨38, .guard⟩ (by simp) rfl
        have e41 : a.tmps[95]?.getD undef = .bool sb := hd ⟨41, .data⟩ (by simp) rfl
        have e44 : a.tmps[98]?.getD undef = .bool sb := hd ⟨44, .data⟩ (by simp) rfl
        rw [if_pos (by rw [wanted_of rfl rfl eg]; rfl)]
        clear hd ho hne eg
        go_simp
        exact hK _ _ (rfl) hG (fun j' v' _ hf => hf)
      · intro l a W hs ho hG hd hne K' hK
        have e38 : a.tmps[92]?.getD undef = .bool true := hd ⟨38, .data⟩ (by simp) rfl
        have e45 : a.tmps[99]?.getD undef = .bool true := hd ⟨45, .data⟩ (by simp) rfl
        clear hd ho hne
        go_simp
        exact hK _ _ (rfl) hG (fun j' v' _ hf => hf)
      · intro l a W hs ho hG hd hne K' hK
        have e46 : a.tmps[100]?.getD undef = .bool true := hd ⟨46, .data⟩ (by simp) rfl
        clear hd ho hne
        go_simp
        exact hK _ _ (rfl) hG (fun j' v' _ hf => hf)
      · intro l a W hs ho hG hd hne K' hK
        have eg : a.tmps[101]?.getD undef = .bool true := hd ⟨47, .guard⟩ (by simp) rfl
        rw [if_pos (by rw [wanted_of rfl rfl eg]; rfl)]
        clear hd ho hne eg
        go_simp
        go_at_call 65
        (with_reducible refine (wakes05_calls W).mono ?_)
        rintro e W2 ⟨rfl, hx4⟩
        go_simp
        exact hK _ _ (rfl) (hG.trans hx4) (fun j' v' _ hf => otG_ext hx4 hf)
      · intro l a W hs ho hG hd hne K' hK
        have e47 : a.tmps[101]?.getD undef = .bool true := hd ⟨47, .data⟩ (by simp) rfl
        have e48 : a.tmps[102]?.getD undef = .bool true := hd ⟨48, .data⟩ (by simp) rfl
        clear hd ho hne
        go_simp
        exact hK _ _ (rfl) hG (fun j' v' _ hf => hf)
    · intro l a W ho hG hall hF K' hK
      have e49 : a.tmps[103]?.getD undef = .bool true := hF 49 (by omega)
      have hsz : 16 < a.tmps.size := by rw [ho.size]; exact (by decide : 16 < 104)
      have hdf : a.defers = [] := ho.defers
      have HZ := Lib.hid (HG.out.2.trans (HG.out.1.trans hG))
      clear hF ho hall hG
      go_simp
      refine hK _ _ ?_
      go_wp2
      refine bodyPost_ret (w := _) (a := _) (R := _) (results_tmp rfl _ _ _) (by first | exact hdf | rfl) ?_
      exact ⟨by simp [hsz], HZ.out⟩

end Go.Proofs.Ytgjjngkmbplijaa
