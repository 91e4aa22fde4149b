/- The walk of the law CashTests. -/
import Derived.Test.YtgjjngkmbplijaaKeep
import Derived.Deep.RegionHeld3
namespace Go.Proofs.Ytgjjngkmbplijaa
open Go.RowKit
set_option linter.unusedSimpArgs false
set_option linter.unusedVariables false

theorem own_lit {w : World} {cs : Array Value} {e : TypeId} {size n b base : Nat} {xs : List Value} (hb : b = w.heap.size) (hx : cs.toList = xs) (hl : base ≤ w.heap.size) (hs : cs.size = n * size) (hn : n ≤ maxLen) :
    (w.alloc (.cells cs e (0, 0))).ownsRow base e size (.slice (some ⟨b, 0, none⟩) n n) n xs := by
  subst hb; subst hx
  exact ⟨by simpa using hs, .inr ⟨w.heap.size, n, cs, rfl, hl, heap_new _ _, Nat.le_refl _, hn, hs, by rw [← hs, ← Array.length_toList, List.take_length]⟩⟩
theorem wasame_rfl (x : Wa) : x.same x = true := by obtain ⟨a, b, c, d, e⟩ := x; simp [Wa.same]
theorem flsame_rfl (x : Fl) : x.same x = true := by obtain ⟨a, b, c⟩ := x; simp [Fl.same]
abbrev xB : ByteArray := ⟨#[120]⟩
abbrev yB : ByteArray := ⟨#[121]⟩
theorem tname_y : isName ⟨#[121]⟩ = true := by decide +kernel
def testO : Ob := .add (.fix xB) (.add (.fix yB) (.fix xB))
def testT (when : Int) : Te := .whn when (.cond testO (.one ⟨#[117, 115, 100]⟩) (.give (.one ⟨#[101, 117, 114]⟩)))
def tF1 (d v : Int) : FixL := [] ++ [((xB, d), v)]
def tF2 (d v : Int) : FixL := tF1 d v ++ [((yB, d), 1)]
theorem tk (s t : ByteArray) (d : Int) : ((s, d) == (t, d)) = (s == t) := by
  show (s == t && d == d) = _
  simp
theorem l1x (d v : Int) : (tF1 d v).lookup (xB, d) = some v := by
  have e : ((xB, d) == (xB, d)) = true := by rw [tk]; decide
  simp [tF1, List.lookup, e]
theorem l1y (d v : Int) : (tF1 d v).lookup (yB, d) = none := by
  have e : ((yB, d) == (xB, d)) = false := by rw [tk]; decide
  simp [tF1, List.lookup, e]
theorem l2x (d v : Int) : (tF2 d v).lookup (xB, d) = some v := by
  have e : ((xB, d) == (xB, d)) = true := by rw [tk]; decide
  simp [tF2, tF1, List.lookup, e]
theorem l2y (d v : Int) : (tF2 d v).lookup (yB, d) = some 1 := by
  have e : ((yB, d) == (xB, d)) = false := by rw [tk]; decide
  have e2 : ((yB, d) == (yB, d)) = true := by rw [tk]; decide
  simp [tF2, tF1, List.lookup, e, e2]
theorem testO_ok : testO.formed = true ∧ testO.nodes ≤ 60 ∧ testO.depth ≤ 12 ∧ testO.checked = 0 ∧ testO.names = [xB, yB] := by
  have h : testO.formed = true := by decide +kernel
  exact ⟨h, by decide, by decide, checked_ok h (by decide) (by decide), by decide⟩
theorem testT_ok {when : Int} (h1 : 0 ≤ when) (h2 : when ≤ 100) : (testT when).wf ∧ (testT when).nodes ≤ 60 ∧ (testT when).checked = 0 := by
  have s1 : (⟨#[120]⟩ : ByteArray).size ≤ 1000 := by decide
  have s2 : (⟨#[121]⟩ : ByteArray).size ≤ 1000 := by decide
  have s3 : (⟨#[117, 115, 100]⟩ : ByteArray).size ≤ 1000 := by decide
  have s4 : (⟨#[101, 117, 114]⟩ : ByteArray).size ≤ 1000 := by decide
  have hf : (testT when).formed = true := by
    simp only [testT, Te.formed, testO_ok.1, usd_name, eur_name, Bool.and_self, Bool.and_true]
    exact (dayB_iff when).2 (by omega)
  exact ⟨⟨⟨by omega, by omega⟩, ⟨s1, s2, s1⟩, s3, s4⟩, by simp [testT, Te.nodes, testO, Ob.nodes], Te.checked_ok hf (by simp [testT, Te.nodes, testO, Ob.nodes]) (by simp [testT, Te.depth, testO, Ob.depth]) rfl⟩
section
variable {day when d v : Int}
theorem test_of (F : FixL) (h1 : 0 ≤ when) (h2 : when ≤ 100) (hd : dayB day = true) (hm : Max.max day when = d) (r : Int × CSt) (hr : (Te.cond testO (.one ⟨#[117, 115, 100]⟩) (.give (.one ⟨#[101, 117, 114]⟩))).walk F [] ⟨#[116]⟩ d 1 ([], []) = r) (h0 : r.1 = 0) :
    cashOf F [] ⟨#[116]⟩ (testT when) day = r := by
  have hw : (testT when).walk F [] ⟨#[116]⟩ day 1 ([], []) = r := by
    show (Te.cond testO (.one ⟨#[117, 115, 100]⟩) (.give (.one ⟨#[101, 117, 114]⟩))).walk F [] ⟨#[116]⟩ (Max.max day when) 1 ([], []) = r
    rw [hm]; exact hr
  rw [cashOf_ok (testT_ok h1 h2).2.2 hd (by rw [hw]; exact h0), hw]
theorem test0 : (Te.cond testO (.one ⟨#[117, 115, 100]⟩) (.give (.one ⟨#[101, 117, 114]⟩))).walk [] [] ⟨#[116]⟩ d 1 ([], []) = (0, ([], [waitFix d xB, waitFix d yB])) := by
  obtain ⟨o1, o2, o3, o4, o5⟩ := testO_ok
  have hv : testO.ofV [] d = ⟨0, false, 0⟩ := by rw [ofV_ok _ _ o1 o2 o3]; rfl
  have hn : testO.needs [] d = [xB, yB] := by unfold Ob.needs; rw [if_pos o4, o5]; rfl
  rw [cd_w (by rw [hv]) (by rw [hv]), hn]
  have e : (waitFix d yB).same (waitFix d xB) = false := by simp only [waitFix, Wa.same]; rw [show ((⟨#[121]⟩ : ByteArray) == ⟨#[120]⟩) = false by decide]; simp
  simp only [waitsFor, List.foldl_cons, List.foldl_nil, addW, List.any_nil, List.nil_append, List.any_cons, e]
  rfl
theorem test1 : (Te.cond testO (.one ⟨#[117, 115, 100]⟩) (.give (.one ⟨#[101, 117, 114]⟩))).walk (tF1 d v) [] ⟨#[116]⟩ d 1 ([], []) = (0, ([], [waitFix d yB])) := by
  obtain ⟨o1, o2, o3, o4, o5⟩ := testO_ok
  have hv : testO.ofV (tF1 d v) d = ⟨0, false, 0⟩ := by
    rw [ofV_ok _ _ o1 o2 o3]
    simp only [testO, Ob.value, l1x, l1y, Option.getD, Option.isSome]
    rfl
  have hn : testO.needs (tF1 d v) d = [yB] := by
    unfold Ob.needs notFixed
    rw [if_pos o4, o5]
    simp only [List.filter_cons, List.filter_nil, l1x, l1y]
    rfl
  rw [cd_w (by rw [hv]) (by rw [hv]), hn]
  rfl
theorem test2 (h1 : -20 ≤ v) (h2 : v ≤ 20) : (Te.cond testO (.one ⟨#[117, 115, 100]⟩) (.give (.one ⟨#[101, 117, 114]⟩))).walk (tF2 d v) [] ⟨#[116]⟩ d 1 ([], []) =
    (0, ([if 0 < 2 * v + 1 then ⟨d, ⟨#[117, 115, 100]⟩, 1⟩ else ⟨d, ⟨#[101, 117, 114]⟩, -1⟩], [])) := by
  obtain ⟨o1, o2, o3, o4, o5⟩ := testO_ok
  have va : Vd v = true := Vd_of (by omega) (by omega)
  have vb : Vd (1 + v) = true := Vd_of (by omega) (by omega)
  have vc : Vd (v + (1 + v)) = true := Vd_of (by omega) (by omega)
  have v1 : Vd 1 = true := by decide
  have hv : testO.ofV (tF2 d v) d = ⟨2 * v + 1, true, 0⟩ := by
    rw [ofV_ok _ _ o1 o2 o3]
    simp only [testO, Ob.value, l2x, l2y, Option.getD, Option.isSome]
    have e1 : pairK addS ⟨1, true, 0⟩ ⟨v, true, 0⟩ = ⟨1 + v, true, 0⟩ := by rw [pairK_ok rfl rfl rfl rfl]; simp only [addS, v1, va, vb, and_self, if_true, toldK_yes]
    have e2 : pairK addS ⟨v, true, 0⟩ ⟨1 + v, true, 0⟩ = ⟨v + (1 + v), true, 0⟩ := by rw [pairK_ok rfl rfl rfl rfl]; simp only [addS, va, vb, vc, and_self, if_true, toldK_yes]
    rw [e1, e2]
    congr 1
    omega
  by_cases h : 0 < 2 * v + 1
  · rw [cd_l (by rw [hv]) (by rw [hv]) (by rw [hv]; exact h), if_pos h]; rfl
  · rw [cd_r (by rw [hv]) (by rw [hv]) (by rw [hv]; exact h), if_neg h]; rfl
end

set_option maxRecDepth 100000 in
set_option maxHeartbeats 12800000 in
theorem cashTests_walk (day when v : Int) (w : World) (w0 : (Lit.int .i64 day).wf = true) (w1 : (Lit.int .i64 when).wf = true) (w2 : (Lit.int .i64 v).wf = true) :
    Calls Try.prog 28 #[.int .i64 day, .int .i64 when, .int .i64 v] w fun e w' => e = .returned (.bool true) ∧ Ext w w' := by
  have b1 := i64_of w0
  have b2 := i64_of w1
  have b3 := i64_of w2
  have m1 := within_lo day 50 (by omega)
  have m2 := within_hi day 50 (by omega)
  have m3 := within_lo when 100 (by omega)
  have m4 := within_hi when 100 (by omega)
  have m5 := within_lo v 41 (by omega)
  have m6 := within_hi v 41 (by omega)
  clear w0 w1 w2
  go_enter Try.func28, Try.ntmps28
  (go_wp2_with fail; (with_reducible refine (within_calls _ _ _ (by omega) (by omega) b1.1 b1.2).mono ?_); rintro e w' ⟨rfl, rfl⟩)
  (go_wp2_with fail; (with_reducible refine (within_calls _ _ _ (by omega) (by omega) b2.1 b2.2).mono ?_); rintro e w' ⟨rfl, rfl⟩)
  (go_wp2_with fail; (with_reducible refine (within_calls _ _ _ (by omega) (by omega) b3.1 b3.2).mono ?_); rintro e w' ⟨rfl, rfl⟩)
  generalize day % 50 = s at *
  generalize when % 100 = h at *
  have q1 : -20 ≤ v % 41 - 20 ∧ v % 41 - 20 ≤ 20 := by omega
  have q2' := q1.1
  have q3' := q1.2
  clear b1 b2 b3 m5 m6 q1
  go_wp2_with fail
  generalize v % 41 - 20 = u at *
  (with_reducible refine (new_calls _).mono ?_)
  rintro e w1 ⟨p, f, c, rfl, hW, hx, h1, h2, h3⟩
  simp at h1 h2 h3
  have hb0 := hx.lit (heap_new _ _)
  have e0 : ∀ o, (w.alloc o).heap.size = w.heap.size + 1 := fun o => by simp
  rw [e0] at hb0
  have hO : Own w w1 p f c [] [] := ⟨hW, ((by repeat' (first | (with_reducible exact Ext.refl _) | (with_reducible assumption) | (with_reducible refine Ext.alloc ?_ _) | (with_reducible refine Ext.drew ?_) | (with_reducible refine Ext.drewN ?_ _) | (with_reducible refine Ext.setCell ?_ (by first | exact Nat.le_refl _ | (simp; done) | (simp; omega) | omega) _) | (with_reducible refine Ext.trans ?_ (by assumption))))), by omega, by omega, by omega⟩
  have hfne : w.heap.size + 1 ≠ f := by omega
  have hmx : (s < h ∧ Max.max s h = h) ∨ (h ≤ s ∧ Max.max s h = s) := by omega
  have hs : dayB s = true := (dayB_iff s).2 (by omega)
  have hm : dayB (Max.max s h) = true := (dayB_iff _).2 (by omega)
  obtain ⟨t1, t2, t3⟩ := testT_ok m3 (by omega)
  have q2 := fun x W => eql_flow x x W
  simp only [flsame_rfl] at q2
  have f2 := held_flow.2
  unfold Fl.val at q2
  have H1 := fun p f c w' hW => cof_calls p f c [] [] ⟨#[116]⟩ (testT h) s w' t1 (by omega) hW
  have H2 := fun p f c w' hW => cof_calls p f c (tF1 (Max.max s h) u) [] ⟨#[116]⟩ (testT h) s w' t1 (by omega) hW
  have H3 := fun p f c w' hW => cof_calls p f c (tF2 (Max.max s h) u) [] ⟨#[116]⟩ (testT h) s w' t1 (by omega) hW
  rw [test_of [] m3 (by omega) hs rfl _ test0 rfl] at H1
  rw [test_of (tF1 _ u) m3 (by omega) hs rfl _ test1 rfl] at H2
  rw [test_of (tF2 _ u) m3 (by omega) hs rfl _ (test2 q2' q3') rfl] at H3
  have K1 := fun w' b1 a1 c1 a2 c2 h1 h2 h3 h4 => ksameW_calls b1 w.heap.size [waitFix (Max.max s h) xB, waitFix (Max.max s h) yB] [waitFix (Max.max s h) xB, waitFix (Max.max s h) yB] a1 c1 a2 c2 w' h1 h2 (by simp) h3 h4
  have K2 := fun w' b1 a1 c1 a2 c2 h1 h2 h3 h4 => ksameW_calls b1 w.heap.size [waitFix (Max.max s h) yB] [waitFix (Max.max s h) yB] a1 c1 a2 c2 w' h1 h2 (by simp) h3 h4
  rw [eqL_rfl wasame_rfl] at K1 K2
  have hl2 := Lib.hid (show ((([] : FixL) ++ [(((⟨#[120]⟩ : ByteArray), Max.max s h), u)]).lookup ((⟨#[121]⟩ : ByteArray), Max.max s h)).isSome = false by
    have := l1y (Max.max s h) u
    unfold tF1 at this
    rw [this]
    rfl)
  simp only [testT, testO, Te.val, Ob.val] at H1 H2 H3
  clear t1 t2 t3 hx hW h1 h2 h3
  rcases hmx with ⟨g1, g2⟩ | ⟨g1, g2⟩
  all_goals
    rw [g2] at H1 H2 H3 K1 K2 hm hl2
    clear g2
    obtain ⟨z, zf, zl⟩ := obj_cells hb0
    have z0 := z 0 _ rfl
    have z1 := z 1 _ rfl
    clear z
    (go_wp2_with fail; (with_reducible refine (H1 p f c _ hO.wld).mono ?_); rintro e w' ⟨v1, v2, rfl, hf, hw, hy⟩)
    obtain ⟨A1, C1, rfl, _, _⟩ := own_form hf
    obtain ⟨A2, C2, rfl, _, hC2⟩ := own_form hw
    have hO1 := hO.keep hy
    have hb1 := hy.lit hb0
    simp only [List.length_cons, List.length_nil, Nat.zero_add, Nat.zero_mul, Nat.reduceAdd] at *
    have hle := hO1.ext.le
    clear hO hf hy z0 z1 zf zl
    go_wp2_with fail
    (with_reducible refine (K1 _ _ A2 C2 _ 2 (by exact hw.alloc _) (by exact own_lit rfl rfl hle rfl (by unfold maxLen; omega)) hC2 (by unfold maxLen; omega)).mono ?_)
    rintro e w4 ⟨rfl, hk1⟩
    have hO2 : Own w w4 p f c [] [] := hO1.keep ((by repeat' (first | (with_reducible exact Ext.refl _) | (with_reducible assumption) | (with_reducible refine Ext.alloc ?_ _) | (with_reducible refine Ext.drew ?_) | (with_reducible refine Ext.drewN ?_ _) | (with_reducible refine Ext.setCell ?_ (by first | exact Nat.le_refl _ | (simp; done) | (simp; omega) | omega) _) | (with_reducible refine Ext.trans ?_ (by assumption)))))
    have hb2 := (show Ext w' w4 from ((by repeat' (first | (with_reducible exact Ext.refl _) | (with_reducible assumption) | (with_reducible refine Ext.alloc ?_ _) | (with_reducible refine Ext.drew ?_) | (with_reducible refine Ext.drewN ?_ _) | (with_reducible refine Ext.setCell ?_ (by first | exact Nat.le_refl _ | (simp; done) | (simp; omega) | omega) _) | (with_reducible refine Ext.trans ?_ (by assumption)))))).lit hb1
    clear hO1 hw hk1 hb1 hle
    (go_wp2_with fail; (with_reducible refine (fix_ok ⟨#[120]⟩ _ u hO2 name_x hm (Vd_of (by omega) (by omega)) rfl (by decide)).mono ?_); rintro e w' ⟨rfl, hO3, hg⟩)
    have hb3 := (hg.block _ (Array.getElem?_eq_some_iff.1 hb2).1 (by intro e; injection e with e; omega)).trans hb2
    clear hO2 hg hb2
    obtain ⟨z, zf, zl⟩ := obj_cells hb3
    have z0 := z 0 _ rfl
    have z1 := z 1 _ rfl
    clear z
    (go_wp2_with fail; (with_reducible refine (H2 p f c _ hO3.wld).mono ?_); rintro e w' ⟨v1, v2, rfl, hf, hw, hy⟩)
    obtain ⟨A3, C3, rfl, _, _⟩ := own_form hf
    obtain ⟨A4, C4, rfl, _, hC4⟩ := own_form hw
    have hO4 := hO3.keep hy
    have hb4 := hy.lit hb3
    simp only [List.length_cons, List.length_nil, Nat.zero_add, Nat.zero_mul, Nat.reduceAdd] at *
    have hle := hO4.ext.le
    clear hO3 hf hy z0 z1 zf zl
    go_wp2_with fail
    (with_reducible refine (K2 _ _ A4 C4 _ 1 (by exact hw.alloc _) (by exact own_lit rfl rfl hle rfl (by unfold maxLen; omega)) hC4 (by unfold maxLen; omega)).mono ?_)
    rintro e w5 ⟨rfl, hk1⟩
    have hO5 : Own w w5 p f c _ [] := hO4.keep ((by repeat' (first | (with_reducible exact Ext.refl _) | (with_reducible assumption) | (with_reducible refine Ext.alloc ?_ _) | (with_reducible refine Ext.drew ?_) | (with_reducible refine Ext.drewN ?_ _) | (with_reducible refine Ext.setCell ?_ (by first | exact Nat.le_refl _ | (simp; done) | (simp; omega) | omega) _) | (with_reducible refine Ext.trans ?_ (by assumption)))))
    have hb5 := (show Ext w' w5 from ((by repeat' (first | (with_reducible exact Ext.refl _) | (with_reducible assumption) | (with_reducible refine Ext.alloc ?_ _) | (with_reducible refine Ext.drew ?_) | (with_reducible refine Ext.drewN ?_ _) | (with_reducible refine Ext.setCell ?_ (by first | exact Nat.le_refl _ | (simp; done) | (simp; omega) | omega) _) | (with_reducible refine Ext.trans ?_ (by assumption)))))).lit hb4
    clear hO4 hw hk1 hb4 hle
    (go_wp2_with fail; (with_reducible refine (fix_ok ⟨#[121]⟩ _ 1 hO5 tname_y hm (by decide) hl2.out (by simp [tF1])).mono ?_); rintro e w' ⟨rfl, hO6, hg⟩)
    have hb6 := (hg.block _ (Array.getElem?_eq_some_iff.1 hb5).1 (by intro e; injection e with e; omega)).trans hb5
    clear hO5 hg hb5
    obtain ⟨z, zf, zl⟩ := obj_cells hb6
    have z0 := z 0 _ rfl
    have z1 := z 1 _ rfl
    clear z
    by_cases hpos : 0 < 2 * u + 1
    · rw [if_pos hpos] at H3
      have hneg : ¬ 2 * u + 1 ≤ 0 := by omega
      (go_wp2_with fail; (with_reducible refine (H3 p f c _ hO6.wld).mono ?_); rintro e w' ⟨v1, v2, rfl, hf, hw, hy⟩)
      obtain ⟨A5, C5, rfl, _, _⟩ := own_form hf
      obtain ⟨A6, C6, rfl, _, _⟩ := own_form hw
      obtain ⟨g7, rfl, s0, s1, s2⟩ := fl_at hf (j := 0) rfl (by simp)
      have hE := (hO6.keep hy).ext
      simp only [List.length_cons, List.length_nil, Nat.zero_add, Nat.zero_mul, Nat.reduceAdd] at *
      have g7l : g7 < w'.heap.size := World.block_lt_of_cell? _ _ s0
      have g7l2 : g7 < w'.heap.size + 1 := by omega
      clear hO6 hf hw hy hb6 z0 z1 zf zl H1 H2 H3 K1 K2
      go_wp2_with fail
      go_region_held3 (fun W => W.cell? ⟨g7, 0, none⟩ = w'.cell? ⟨g7, 0, none⟩ ∧ W.cell? ⟨g7, 1, none⟩ = w'.cell? ⟨g7, 1, none⟩ ∧ W.cell? ⟨g7, 2, none⟩ = w'.cell? ⟨g7, 2, none⟩ ∧ W.cell? ⟨w'.heap.size, 0, none⟩ = w'.cell? ⟨g7, 0, none⟩ ∧ W.cell? ⟨w'.heap.size, 1, none⟩ = w'.cell? ⟨g7, 1, none⟩ ∧ W.cell? ⟨w'.heap.size, 2, none⟩ = w'.cell? ⟨g7, 2, none⟩) (go_keep)
        (first | (go_at_call 83; (with_reducible refine (wakes10_calls _).mono ?_); rintro e w5 ⟨rfl, hv⟩; obtain ⟨hc, hf⟩ := hv.cells) | fail)
      go_wp2
      go_ret
      exact ⟨rfl, (by repeat' (first | (with_reducible exact Ext.refl _) | (with_reducible assumption) | (with_reducible refine Ext.alloc ?_ _) | (with_reducible refine Ext.drew ?_) | (with_reducible refine Ext.drewN ?_ _) | (with_reducible refine Ext.setCell ?_ (by first | exact Nat.le_refl _ | (simp; done) | (simp; omega) | omega) _) | (with_reducible refine Ext.trans ?_ (by assumption))))⟩
    · rw [if_neg hpos] at H3
      have hneg : 2 * u + 1 ≤ 0 := by omega
      (go_wp2_with fail; (with_reducible refine (H3 p f c _ hO6.wld).mono ?_); rintro e w' ⟨v1, v2, rfl, hf, hw, hy⟩)
      obtain ⟨A5, C5, rfl, _, _⟩ := own_form hf
      obtain ⟨A6, C6, rfl, _, _⟩ := own_form hw
      obtain ⟨g7, rfl, s0, s1, s2⟩ := fl_at hf (j := 0) rfl (by simp)
      have hE := (hO6.keep hy).ext
      simp only [List.length_cons, List.length_nil, Nat.zero_add, Nat.zero_mul, Nat.reduceAdd] at *
      have g7l : g7 < w'.heap.size := World.block_lt_of_cell? _ _ s0
      have g7l2 : g7 < w'.heap.size + 1 := by omega
      clear hO6 hf hw hy hb6 z0 z1 zf zl H1 H2 H3 K1 K2
      go_wp2_with fail
      go_region_held3 (fun W => W.cell? ⟨g7, 0, none⟩ = w'.cell? ⟨g7, 0, none⟩ ∧ W.cell? ⟨g7, 1, none⟩ = w'.cell? ⟨g7, 1, none⟩ ∧ W.cell? ⟨g7, 2, none⟩ = w'.cell? ⟨g7, 2, none⟩ ∧ W.cell? ⟨w'.heap.size, 0, none⟩ = w'.cell? ⟨g7, 0, none⟩ ∧ W.cell? ⟨w'.heap.size, 1, none⟩ = w'.cell? ⟨g7, 1, none⟩ ∧ W.cell? ⟨w'.heap.size, 2, none⟩ = w'.cell? ⟨g7, 2, none⟩) (go_keep)
        (first | (go_at_call 83; (with_reducible refine (wakes10_calls _).mono ?_); rintro e w5 ⟨rfl, hv⟩; obtain ⟨hc, hf⟩ := hv.cells) | fail)
      go_wp2
      go_ret
      exact ⟨rfl, (by repeat' (first | (with_reducible exact Ext.refl _) | (with_reducible assumption) | (with_reducible refine Ext.alloc ?_ _) | (with_reducible refine Ext.drew ?_) | (with_reducible refine Ext.drewN ?_ _) | (with_reducible refine Ext.setCell ?_ (by first | exact Nat.le_refl _ | (simp; done) | (simp; omega) | omega) _) | (with_reducible refine Ext.trans ?_ (by assumption))))⟩

end Go.Proofs.Ytgjjngkmbplijaa
