/- CashTells: What any contract pays, and waits for, from any day on, by what is known, or that it runs over. -/
import Derived.Test.YtgjjngkmbplijaaYSome5
import Derived.Test.YtgjjngkmbplijaaYRCash
import Derived.Test.YtgjjngkmbplijaaZKb
import Derived.Test.YtgjjngkmbplijaaYKeep

namespace Go.Proofs.Ytgjjngkmbplijaa
open Go.RowKit
set_option linter.unusedSimpArgs false
set_option linter.unusedVariables false

theorem Fl.same_rfl3 (x : Fl) : x.same x = true := by simp [Fl.same]
theorem Wa.same_rfl3 (x : Wa) : x.same x = true := by simp [Wa.same]
theorem fl_own3 {w : World} {base : Nat} {e : TypeId} {A : Option Addr} {n c : Nat} {l : List Fl} (h : w.ownsRow base e 3 (.slice A n c) n (flCells l)) : l.length = n := by
  have := h.1
  have e : (flCells l).length = l.length * 3 := by
    clear h this
    induction l with
    | nil => rfl
    | cons x r ih => simp only [flCells, List.flatMap_cons, List.length_append, List.length_cons] at *; have : x.cells.length = 3 := rfl; omega
  omega
theorem wa_own3 {w : World} {base : Nat} {e : TypeId} {A : Option Addr} {n c : Nat} {l : List Wa} (h : w.ownsRow base e 5 (.slice A n c) n (waCells l)) : l.length = n := by
  have := h.1
  have e : (waCells l).length = l.length * 5 := by
    clear h this
    induction l with
    | nil => rfl
    | cons x r ih => simp only [waCells, List.flatMap_cons, List.length_append, List.length_cons] at *; have : x.cells.length = 5 := rfl; omega
  omega
theorem ksameF_own3 {b1 b2 : Nat} (l : List Fl) {n : Nat} {a1 a2 : Option Addr} {c1 c2 : Nat} {w : World} (h1 : w.ownsRow b1 144 3 (.slice a1 n c1) n (flCells l)) (h2 : w.ownsRow b2 144 3 (.slice a2 n c2) n (flCells l)) (hl : n ≤ 2 ^ 30) :
    Calls Try.prog 82 #[.slice a1 n c1, .slice a2 n c2] w fun e w' => RetB w true e w' := by
  obtain rfl := fl_own3 h1
  obtain ⟨_, _, e1, _, m1⟩ := own_form h1
  obtain ⟨_, _, e2, _, m2⟩ := own_form h2
  injection e1 with _ _ e1
  injection e2 with _ _ e2
  subst e1 e2
  have := ksameF_calls b1 b2 l l a1 c1 a2 c2 w h1 h2 (by omega) m1 m2
  rwa [eqL_rfl Fl.same_rfl3] at this
theorem ksameW_own3 {b1 b2 : Nat} (l : List Wa) {n : Nat} {a1 a2 : Option Addr} {c1 c2 : Nat} {w : World} (h1 : w.ownsRow b1 152 5 (.slice a1 n c1) n (waCells l)) (h2 : w.ownsRow b2 152 5 (.slice a2 n c2) n (waCells l)) (hl : n ≤ 2 ^ 30) :
    Calls Try.prog 84 #[.slice a1 n c1, .slice a2 n c2] w fun e w' => RetB w true e w' := by
  obtain rfl := wa_own3 h1
  obtain ⟨_, _, e1, _, m1⟩ := own_form h1
  obtain ⟨_, _, e2, _, m2⟩ := own_form h2
  injection e1 with _ _ e1
  injection e2 with _ _ e2
  subst e1 e2
  have := ksameW_calls b1 b2 l l a1 c1 a2 c2 w h1 h2 (by omega) m1 m2
  rwa [eqL_rfl Wa.same_rfl3] at this
theorem cashOf_len (F : FixL) (C : ChL) (id : ByteArray) (t : Te) (d : Int) : (cashOf F C id t d).2.1.length ≤ t.nodes ∧ (cashOf F C id t d).2.2.length ≤ t.nodes := by
  unfold cashOf
  split
  · split
    · exact t.walk_lens d 1
    · exact ⟨Nat.zero_le _, Nat.zero_le _⟩
  · exact ⟨Nat.zero_le _, Nat.zero_le _⟩

set_option maxRecDepth 100000 in
set_option maxHeartbeats 6400000 in
theorem cashTells_walk (p : Pl) (at0 what v : Int) (s : ByteArray) (odd : Int) (a : Option Addr) (n cap : Nat) (l : List Int) (a2 : Option Addr) (n2 cap2 : Nat) (l2 : List Int) (day : Int) (w : World) (hp : p.In (· < w.heap.size) w) (hat : (Lit.int .i64 at0).wf = true) (hwh : (Lit.int .i64 what).wf = true)
    (hv : (Lit.int .i64 v).wf = true) (hs : s.size ≤ maxLen) (hod : (Lit.int .i64 odd).wf = true) (hl : InInts w a n cap l) (hl2 : InInts w a2 n2 cap2 l2) (hd : (Lit.int .i64 day).wf = true) :
    Calls Try.prog 29 #[p.val, .int .i64 at0, .int .i64 what, .int .i64 v, .string s, .int .i64 odd, .slice a n cap, .slice a2 n2 cap2, .int .i64 day] w fun e w' => e = .returned (.bool true) ∧ Below w.heap.size w w' := by
  have S1 := fun W (hW : Ext w W) => some5_calls p at0 what v odd s W ((hp.ext hW).weak (fun y hy => Nat.lt_of_lt_of_le hy hW.le)) (i64_of hat).1 (i64_of hat).2 (i64_of hwh).1 (i64_of hwh).2 (i64_of hv).1 (i64_of hv).2 (i64_of hod).1 (i64_of hod).2 hs
  have hbd := i64_of hd
  have HW := fun W => within_calls day 7 W (by omega) (by omega) hbd.1 hbd.2
  have hdd : ∃ (d : Int) (sel : Bool), (day.tmod 11 != 10) = sel ∧ ((sel = true ∧ day % 7 = d) ∨ (sel = false ∧ day = d)) := by
    cases hsel : (day.tmod 11 != 10) with
    | true => exact ⟨_, true, rfl, .inl ⟨rfl, rfl⟩⟩
    | false => exact ⟨_, false, rfl, .inr ⟨rfl, rfl⟩⟩
  obtain ⟨d, sel, hsel, hdc⟩ := hdd
  have hl0 := Lib.hid (And.intro hl hl2)
  clear hp hat hwh hv hs hod hl hl2 hd hbd
  unfold Pl.val at *
  go_enter Try.func29, Try.ntmps29
  (go_wp2_with fail; (with_reducible refine (S1 _ ((by repeat' (first | (with_reducible exact Ext.refl _) | (with_reducible assumption) | (with_reducible refine Ext.alloc ?_ _) | (with_reducible refine Ext.drew ?_) | (with_reducible refine Ext.drewN ?_ _) | (with_reducible refine Ext.setCell ?_ (by first | exact Nat.le_refl _ | (simp; done) | (simp; omega) | omega) _) | (with_reducible refine Ext.trans ?_ (by assumption)))))).mono ?_); rintro e w1 ⟨o, h, rfl, how, hon, hod, htr, hin, hx1⟩)
  have hE1 : Ext w w1 := ((by repeat' (first | (with_reducible exact Ext.refl _) | (with_reducible assumption) | (with_reducible refine Ext.alloc ?_ _) | (with_reducible refine Ext.drew ?_) | (with_reducible refine Ext.drewN ?_ _) | (with_reducible refine Ext.setCell ?_ (by first | exact Nat.le_refl _ | (simp; done) | (simp; omega) | omega) _) | (with_reducible refine Ext.trans ?_ (by assumption)))))
  clear S1 hx1
  unfold HT.val
  go_upto_region 2 with fail
  have hB1 : (w1.alloc (.cells #[.int .i64 h.kd, .string h.s, .int .i64 h.n, .slice h.a h.k.length h.c] 76)).heap[w1.heap.size]? = some (.cells #[.int .i64 h.kd, .string h.s, .int .i64 h.n, .slice h.a h.k.length h.c] 76 (0, 0)) := heap_alloc_new _ _
  have hEX := hE1.alloc (.cells #[.int .i64 h.kd, .string h.s, .int .i64 h.n, .slice h.a h.k.length h.c] 76)
  have hinX := hin.ext ((Ext.refl w1).alloc (.cells #[.int .i64 h.kd, .string h.s, .int .i64 h.n, .slice h.a h.k.length h.c] 76))
  clear hE1 hin
  generalize (w1.alloc (.cells #[.int .i64 h.kd, .string h.s, .int .i64 h.n, .slice h.a h.k.length h.c] 76)) = X at *
  generalize w1.heap.size = B1 at *
  have hlX : InInts X a n cap l := ⟨hl0.out.1.1.ext hEX, hl0.out.1.2⟩
  have hlX2 : InInts X a2 n2 cap2 l2 := ⟨hl0.out.2.1.ext hEX, hl0.out.2.2⟩
  (go_wp2_with fail; (with_reducible refine (known10b_calls X a n cap l a2 n2 cap2 l2 hlX hlX2).mono ?_); rintro e w3 ⟨P, f, c, q, v1, v2, F, C, rfl, hT, hC, hFl, hFv, hCl⟩)
  clear hlX hlX2
  have hX3 := hT.a.ext
  obtain ⟨k0, kf, kl⟩ := obj_cells (hX3.obj hB1)
  have c0 : w3.cell? ⟨B1, 0, none⟩ = some (.int .i64 h.kd) := k0 0 _ rfl
  have c1 : w3.cell? ⟨B1, 1, none⟩ = some (.string h.s) := k0 1 _ rfl
  have c2 : w3.cell? ⟨B1, 2, none⟩ = some (.int .i64 h.n) := k0 2 _ rfl
  have c3 : w3.cell? ⟨B1, 3, none⟩ = some (.slice h.a h.k.length h.c) := k0 3 _ rfl
  have hin3 := hinX.ext hX3
  have A1 := fun W (hW : Ext w3 W) => cof_calls P f c F C ⟨#[116]⟩ o d W how (by omega) (hT.a.wld.ext hW)
  have A2 := fun W (hW : Ext w3 W) => rcash_calls X.heap.size q v1 v2 F C ⟨#[116]⟩ o h _ W d htr (hin3.ext hW) (hT.b.ext hW) (by omega) hFv (by omega) hC how hon
  have hln := cashOf_len F C ⟨#[116]⟩ o d
  have hZ := Lib.hid (hEX.trans hX3)
  unfold HT.val at A2
  generalize cashOf F C ⟨#[116]⟩ o d = R at *
  have hr1 : R.2.1.length ≤ 2 ^ 30 := by omega
  have hr2 : R.2.2.length ≤ 2 ^ 30 := by omega
  clear hT hX3 hin3 how hon hod htr hB1 hEX hinX hFl hFv hCl hC hln k0
  generalize o.val = ov at *
  generalize h.kd = h0 at *
  generalize h.s = h1 at *
  generalize h.n = h2 at *
  generalize h.a = h3 at *
  generalize h.k.length = h4 at *
  generalize h.c = h5 at *
  rcases hdc with ⟨rfl, hdd⟩ | ⟨rfl, hdd⟩
  · rw [hdd] at HW
    clear hdd
    (go_wp2_with fail; (with_reducible refine (HW _).mono ?_); rintro e w' ⟨rfl, rfl⟩)
    (go_wp2_with fail; (with_reducible refine (A1 _ ((by repeat' (first | (with_reducible exact Ext.refl _) | (with_reducible assumption) | (with_reducible refine Ext.alloc ?_ _) | (with_reducible refine Ext.drew ?_) | (with_reducible refine Ext.drewN ?_ _) | (with_reducible refine Ext.setCell ?_ (by first | exact Nat.le_refl _ | (simp; done) | (simp; omega) | omega) _) | (with_reducible refine Ext.trans ?_ (by assumption)))))).mono ?_); rintro e w4 ⟨f1, f2, rfl, hf1, hf2, hx4⟩)
    obtain ⟨A, Ca, rfl, _, _⟩ := own_form hf1
    obtain ⟨B, Cb, rfl, _, _⟩ := own_form hf2
    replace c0 := hx4.cell c0
    replace c1 := hx4.cell c1
    replace c2 := hx4.cell c2
    replace c3 := hx4.cell c3
    (go_wp2_with fail; (with_reducible refine (A2 _ ((by repeat' (first | (with_reducible exact Ext.refl _) | (with_reducible assumption) | (with_reducible refine Ext.alloc ?_ _) | (with_reducible refine Ext.drew ?_) | (with_reducible refine Ext.drewN ?_ _) | (with_reducible refine Ext.setCell ?_ (by first | exact Nat.le_refl _ | (simp; done) | (simp; omega) | omega) _) | (with_reducible refine Ext.trans ?_ (by assumption)))))).mono ?_); rintro e w5 ⟨f3, f4, rfl, hf3, hf4, hx5⟩)
    obtain ⟨A', Ca', rfl, _, _⟩ := own_form hf3
    obtain ⟨B', Cb', rfl, _, _⟩ := own_form hf4
    have hg1 := hx5.own hf1
    have hg2 := hx5.own hf2
    have hE5 := Lib.hid (hx4.trans hx5)
    clear A1 A2 c0 c1 c2 c3 hx4 hx5 hf1 hf2
    (go_wp2_with fail; (with_reducible refine (ksameF_own3 _ hg1 hf3 hr1).mono ?_); rintro e w6 ⟨rfl, hx6⟩)
    (go_wp2_with fail; (with_reducible refine (ksameW_own3 _ (hx6.own hg2) (hx6.own hf4) hr2).mono ?_); rintro e w7 ⟨rfl, hx7⟩)
    (go_wp2_with fail; (with_reducible refine (wakes10_calls _).mono ?_); rintro e w' ⟨rfl, hx8⟩)
    go_wp2
    go_ret
    exact ⟨rfl, hZ.out.trans (hE5.out.trans ((hx6.trans hx7).trans hx8))⟩
  · subst hdd
    clear HW
    (go_wp2_with fail; (with_reducible refine (A1 _ ((by repeat' (first | (with_reducible exact Ext.refl _) | (with_reducible assumption) | (with_reducible refine Ext.alloc ?_ _) | (with_reducible refine Ext.drew ?_) | (with_reducible refine Ext.drewN ?_ _) | (with_reducible refine Ext.setCell ?_ (by first | exact Nat.le_refl _ | (simp; done) | (simp; omega) | omega) _) | (with_reducible refine Ext.trans ?_ (by assumption)))))).mono ?_); rintro e w4 ⟨f1, f2, rfl, hf1, hf2, hx4⟩)
    obtain ⟨A, Ca, rfl, _, _⟩ := own_form hf1
    obtain ⟨B, Cb, rfl, _, _⟩ := own_form hf2
    replace c0 := hx4.cell c0
    replace c1 := hx4.cell c1
    replace c2 := hx4.cell c2
    replace c3 := hx4.cell c3
    (go_wp2_with fail; (with_reducible refine (A2 _ ((by repeat' (first | (with_reducible exact Ext.refl _) | (with_reducible assumption) | (with_reducible refine Ext.alloc ?_ _) | (with_reducible refine Ext.drew ?_) | (with_reducible refine Ext.drewN ?_ _) | (with_reducible refine Ext.setCell ?_ (by first | exact Nat.le_refl _ | (simp; done) | (simp; omega) | omega) _) | (with_reducible refine Ext.trans ?_ (by assumption)))))).mono ?_); rintro e w5 ⟨f3, f4, rfl, hf3, hf4, hx5⟩)
    obtain ⟨A', Ca', rfl, _, _⟩ := own_form hf3
    obtain ⟨B', Cb', rfl, _, _⟩ := own_form hf4
    have hg1 := hx5.own hf1
    have hg2 := hx5.own hf2
    have hE5 := Lib.hid (hx4.trans hx5)
    clear A1 A2 c0 c1 c2 c3 hx4 hx5 hf1 hf2
    (go_wp2_with fail; (with_reducible refine (ksameF_own3 _ hg1 hf3 hr1).mono ?_); rintro e w6 ⟨rfl, hx6⟩)
    (go_wp2_with fail; (with_reducible refine (ksameW_own3 _ (hx6.own hg2) (hx6.own hf4) hr2).mono ?_); rintro e w7 ⟨rfl, hx7⟩)
    (go_wp2_with fail; (with_reducible refine (wakes10_calls _).mono ?_); rintro e w' ⟨rfl, hx8⟩)
    go_wp2
    go_ret
    exact ⟨rfl, hZ.out.trans (hE5.out.trans ((hx6.trans hx7).trans hx8))⟩

end Go.Proofs.Ytgjjngkmbplijaa
