/- ValueTells: What any number is on any day, by what is known, or that it is not known, or runs over; which names it needs. -/
import Derived.Test.YtgjjngkmbplijaaYSome4
import Derived.Test.YtgjjngkmbplijaaYRNeeds
import Derived.Test.YtgjjngkmbplijaaYKn9b
import Derived.Test.YtgjjngkmbplijaaYOwn2

namespace Go.Proofs.Ytgjjngkmbplijaa
open Go.RowKit
set_option linter.unusedSimpArgs false
set_option linter.unusedVariables false

theorem needs_none {o : Ob} {F : FixL} {d : Int} (h : o.checked ≠ 0) : o.needs F d = [] := by unfold Ob.needs; rw [if_neg h]

set_option maxRecDepth 100000 in
set_option maxHeartbeats 6400000 in
theorem valueTells_walk (p : Pl) (at0 what v : Int) (s : ByteArray) (odd : Int) (a : Option Addr) (n cap : Nat) (l : List Int) (day : Int) (w : World) (hp : p.In (· < w.heap.size) w) (hat : (Lit.int .i64 at0).wf = true) (hwh : (Lit.int .i64 what).wf = true)
    (hv : (Lit.int .i64 v).wf = true) (hs : s.size ≤ maxLen) (hod : (Lit.int .i64 odd).wf = true) (hl : InInts w a n cap l) (hd : (Lit.int .i64 day).wf = true) :
    Calls Try.prog 17 #[p.val, .int .i64 at0, .int .i64 what, .int .i64 v, .string s, .int .i64 odd, .slice a n cap, .int .i64 day] w fun e w' => e = .returned (.bool true) ∧ Below w.heap.size w w' := by
  have S1 := fun W (hW : Ext w W) => some4_calls p at0 what v odd s W ((hp.ext hW).weak (fun y hy => Nat.lt_of_lt_of_le hy hW.le)) (i64_of hat).1 (i64_of hat).2 (i64_of hwh).1 (i64_of hwh).2 (i64_of hv).1 (i64_of hv).2 (i64_of hod).1 (i64_of hod).2 hs
  have hbd := i64_of hd
  have HW := fun W => within_calls day 9 W (by omega) (by omega) hbd.1 hbd.2
  generalize day % 9 = d at *
  have hl0 := Lib.hid hl
  clear hp hat hwh hv hs hod hl hd hbd
  unfold Pl.val at *
  go_enter Try.func17, Try.ntmps17
  (go_wp2_with fail; (with_reducible refine (S1 _ ((by repeat' (first | (with_reducible exact Ext.refl _) | (with_reducible assumption) | (with_reducible refine Ext.alloc ?_ _) | (with_reducible refine Ext.drew ?_) | (with_reducible refine Ext.drewN ?_ _) | (with_reducible refine Ext.setCell ?_ (by first | exact Nat.le_refl _ | (simp; done) | (simp; omega) | omega) _) | (with_reducible refine Ext.trans ?_ (by assumption)))))).mono ?_); rintro e w1 ⟨o, h, rfl, how, hon, hod, htr, hin, hx1⟩)
  have hE1 : Ext w w1 := ((by repeat' (first | (with_reducible exact Ext.refl _) | (with_reducible assumption) | (with_reducible refine Ext.alloc ?_ _) | (with_reducible refine Ext.drew ?_) | (with_reducible refine Ext.drewN ?_ _) | (with_reducible refine Ext.setCell ?_ (by first | exact Nat.le_refl _ | (simp; done) | (simp; omega) | omega) _) | (with_reducible refine Ext.trans ?_ (by assumption)))))
  clear S1 hx1
  unfold HT.val
  go_upto_region 2 with fail
  have hB1 : (w1.alloc (.cells #[.int .i64 h.kd, .string h.s, .int .i64 h.n, .slice h.a h.k.length h.c] 76)).heap[w1.heap.size]? = some (.cells #[.int .i64 h.kd, .string h.s, .int .i64 h.n, .slice h.a h.k.length h.c] 76 (0, 0)) := heap_alloc_new _ _
  have hEX := hE1.alloc (.cells #[.int .i64 h.kd, .string h.s, .int .i64 h.n, .slice h.a h.k.length h.c] 76)
  have hinX := hin.ext ((Ext.refl w1).alloc (.cells #[.int .i64 h.kd, .string h.s, .int .i64 h.n, .slice h.a h.k.length h.c] 76))
  clear hE1 hin
  generalize (w1.alloc (.cells #[.int .i64 h.kd, .string h.s, .int .i64 h.n, .slice h.a h.k.length h.c] 76)) = X at *
  generalize w1.heap.size = B1 at *
  have hlX : InInts X a n cap l := ⟨hl0.out.1.ext hEX, hl0.out.2⟩
  (go_wp2_with fail; (with_reducible refine (new_own (Ext.refl X)).mono ?_); rintro e w' ⟨P, f, c, rfl, hO, hx⟩)
  have hT0 := hO.two
  clear hx hO
  (go_wp2_with fail; (with_reducible refine (known9b_calls X _ P f c [] [] _ _ _ a n cap l hT0 (by decide) (by simp) hlX).mono ?_); rintro e w3 ⟨F, v1, v2, rfl, hT, hFl, hFv⟩)
  generalize w'.heap.size = q at *
  clear hT0 hlX
  have hFl2 : F.length ≤ 2 ^ 33 := by have : F.length ≤ 0 + 12 := hFl; omega
  have hX3 := hT.a.ext
  obtain ⟨k0, kf, kl⟩ := obj_cells (hX3.obj hB1)
  have c0 : w3.cell? ⟨B1, 0, none⟩ = some (.int .i64 h.kd) := k0 0 _ rfl
  have c1 : w3.cell? ⟨B1, 1, none⟩ = some (.string h.s) := k0 1 _ rfl
  have c2 : w3.cell? ⟨B1, 2, none⟩ = some (.int .i64 h.n) := k0 2 _ rfl
  have c3 : w3.cell? ⟨B1, 3, none⟩ = some (.slice h.a h.k.length h.c) := k0 3 _ rfl
  have hin3 := hinX.ext hX3
  have A1 := fun W (hW : Ext w3 W) => vOf_calls P f c F [] d o W how (by omega) (hT.a.wld.ext hW)
  have A2 := fun W (hW : Ext w3 W) => vneeds_calls P f c F [] d o W how (by omega) (hT.a.wld.ext hW)
  have A3 := fun W (hW : Ext w3 W) => rcheck_calls h _ W true (hin3.ext hW) (by rw [htr]; exact Ob.tr_short how) (by rw [htr, Ob.tr_nodes]; omega) (by rw [htr, Ob.tr_labels]; simp)
  rw [htr, Ob.tr_check] at A3
  have hZ := Lib.hid (hEX.trans hX3)
  unfold HT.val at A3
  (go_wp2_with fail; (with_reducible refine (HW _).mono ?_); rintro e w' ⟨rfl, rfl⟩)
  by_cases hck : o.checked = 0
  · have A4 := fun W (hW : Ext w3 W) => rval_calls (base := X.heap.size) (p := q) (v1 := v1) (v2 := v2) (C := []) (d := d) hFl2 hFv o (Ob.checked_form hck) h _ W htr (hin3.ext hW) (hT.b.ext hW)
    have A5 := fun W (hW : Ext w3 W) => rneeds_calls X.heap.size q v1 v2 F [] d o h _ W htr (hin3.ext hW) (by omega) hck hFl2 (hT.b.ext hW)
    rw [Ob.ofV_yes hck] at A1
    have ht := o.value_tri (F := F) (d := d)
    unfold HT.val at A4 A5
    rw [hck] at A3
    clear hT hX3 hin3 how hon hod htr hB1 hEX hinX hFl hFv hFl2 hck k0
    generalize o.needs F d = N at *
    generalize o.value F d = kn at *
    generalize o.val = ov at *
    generalize h.kd = h0 at *
    generalize h.s = h1 at *
    generalize h.n = h2 at *
    generalize h.a = h3 at *
    generalize h.k.length = h4 at *
    generalize h.c = h5 at *
    rcases ht with ⟨m, rfl⟩ | rfl | rfl
    all_goals
      (go_wp2_with fail; (with_reducible refine (A1 _ ((by repeat' (first | (with_reducible exact Ext.refl _) | (with_reducible assumption) | (with_reducible refine Ext.alloc ?_ _) | (with_reducible refine Ext.drew ?_) | (with_reducible refine Ext.drewN ?_ _) | (with_reducible refine Ext.setCell ?_ (by first | exact Nat.le_refl _ | (simp; done) | (simp; omega) | omega) _) | (with_reducible refine Ext.trans ?_ (by assumption)))))).mono ?_); rintro e w4 ⟨rfl, hx4⟩)
      (go_wp2_with fail; (with_reducible refine (A2 _ ((by repeat' (first | (with_reducible exact Ext.refl _) | (with_reducible assumption) | (with_reducible refine Ext.alloc ?_ _) | (with_reducible refine Ext.drew ?_) | (with_reducible refine Ext.drewN ?_ _) | (with_reducible refine Ext.setCell ?_ (by first | exact Nat.le_refl _ | (simp; done) | (simp; omega) | omega) _) | (with_reducible refine Ext.trans ?_ (by assumption)))))).mono ?_); rintro e w5 ⟨nv, rfl, hno, hx5⟩)
      have hE5 := hx4.trans hx5
      obtain ⟨A, C, rfl, hn1, hn2⟩ := own_form hno
      replace c0 := hE5.cell c0
      replace c1 := hE5.cell c1
      replace c2 := hE5.cell c2
      replace c3 := hE5.cell c3
      (go_wp2_with fail; (with_reducible refine (A3 _ ((by repeat' (first | (with_reducible exact Ext.refl _) | (with_reducible assumption) | (with_reducible refine Ext.alloc ?_ _) | (with_reducible refine Ext.drew ?_) | (with_reducible refine Ext.drewN ?_ _) | (with_reducible refine Ext.setCell ?_ (by first | exact Nat.le_refl _ | (simp; done) | (simp; omega) | omega) _) | (with_reducible refine Ext.trans ?_ (by assumption)))))).mono ?_); rintro e w6 ⟨rfl, hx6⟩)
      replace c0 := hx6.cell c0
      replace c1 := hx6.cell c1
      replace c2 := hx6.cell c2
      replace c3 := hx6.cell c3
      (go_wp2_with fail; (with_reducible refine (A4 _ ((by repeat' (first | (with_reducible exact Ext.refl _) | (with_reducible assumption) | (with_reducible refine Ext.alloc ?_ _) | (with_reducible refine Ext.drew ?_) | (with_reducible refine Ext.drewN ?_ _) | (with_reducible refine Ext.setCell ?_ (by first | exact Nat.le_refl _ | (simp; done) | (simp; omega) | omega) _) | (with_reducible refine Ext.trans ?_ (by assumption)))))).mono ?_); rintro e w7 ⟨rfl, hx7⟩)
      replace c0 := hx7.cell c0
      replace c1 := hx7.cell c1
      replace c2 := hx7.cell c2
      replace c3 := hx7.cell c3
      (go_wp2_with fail; (with_reducible refine (A5 _ ((by repeat' (first | (with_reducible exact Ext.refl _) | (with_reducible assumption) | (with_reducible refine Ext.alloc ?_ _) | (with_reducible refine Ext.drew ?_) | (with_reducible refine Ext.drewN ?_ _) | (with_reducible refine Ext.setCell ?_ (by first | exact Nat.le_refl _ | (simp; done) | (simp; omega) | omega) _) | (with_reducible refine Ext.trans ?_ (by assumption)))))).mono ?_); rintro e w8 ⟨nv, rfl, hno2, hx8⟩)
      obtain ⟨A', C', rfl, hn3, hn4⟩ := own_form hno2
      have hno' := hx8.own (hx7.own (hx6.own hno))
      (go_wp2_with fail; (with_reducible refine (ksame_own2 _ hno' hno2).mono ?_); rintro e w9 ⟨rfl, hx9⟩)
      (go_wp2_with fail; (with_reducible refine (wakes09_calls _).mono ?_); rintro e w' ⟨rfl, hxa⟩)
      go_wp2
      go_ret
      exact ⟨rfl, hZ.out.trans ((by repeat' (first | (with_reducible exact Ext.refl _) | (with_reducible assumption) | (with_reducible refine Ext.alloc ?_ _) | (with_reducible refine Ext.drew ?_) | (with_reducible refine Ext.drewN ?_ _) | (with_reducible refine Ext.setCell ?_ (by first | exact Nat.le_refl _ | (simp; done) | (simp; omega) | omega) _) | (with_reducible refine Ext.trans ?_ (by assumption)))))⟩
  · have hne : (o.checked != 0) = true := by simpa using hck
    rw [Ob.ofV_no hck] at A1
    rw [needs_none hck] at A2
    clear hT hX3 hin3 how hon hod htr hB1 hEX hinX hFl hFv hFl2 hck k0
    generalize o.checked = ck at *
    generalize o.val = ov at *
    generalize h.kd = h0 at *
    generalize h.s = h1 at *
    generalize h.n = h2 at *
    generalize h.a = h3 at *
    generalize h.k.length = h4 at *
    generalize h.c = h5 at *
    (go_wp2_with fail; (with_reducible refine (A1 _ ((by repeat' (first | (with_reducible exact Ext.refl _) | (with_reducible assumption) | (with_reducible refine Ext.alloc ?_ _) | (with_reducible refine Ext.drew ?_) | (with_reducible refine Ext.drewN ?_ _) | (with_reducible refine Ext.setCell ?_ (by first | exact Nat.le_refl _ | (simp; done) | (simp; omega) | omega) _) | (with_reducible refine Ext.trans ?_ (by assumption)))))).mono ?_); rintro e w4 ⟨rfl, hx4⟩)
    (go_wp2_with fail; (with_reducible refine (A2 _ ((by repeat' (first | (with_reducible exact Ext.refl _) | (with_reducible assumption) | (with_reducible refine Ext.alloc ?_ _) | (with_reducible refine Ext.drew ?_) | (with_reducible refine Ext.drewN ?_ _) | (with_reducible refine Ext.setCell ?_ (by first | exact Nat.le_refl _ | (simp; done) | (simp; omega) | omega) _) | (with_reducible refine Ext.trans ?_ (by assumption)))))).mono ?_); rintro e w5 ⟨nv, rfl, hno, hx5⟩)
    have hE5 := hx4.trans hx5
    obtain ⟨A, C, rfl, hn1, hn2⟩ := own_form hno
    replace c0 := hE5.cell c0
    replace c1 := hE5.cell c1
    replace c2 := hE5.cell c2
    replace c3 := hE5.cell c3
    (go_wp2_with fail; (with_reducible refine (A3 _ ((by repeat' (first | (with_reducible exact Ext.refl _) | (with_reducible assumption) | (with_reducible refine Ext.alloc ?_ _) | (with_reducible refine Ext.drew ?_) | (with_reducible refine Ext.drewN ?_ _) | (with_reducible refine Ext.setCell ?_ (by first | exact Nat.le_refl _ | (simp; done) | (simp; omega) | omega) _) | (with_reducible refine Ext.trans ?_ (by assumption)))))).mono ?_); rintro e w6 ⟨rfl, hx6⟩)
    (go_wp2_with fail; (with_reducible refine (wakes09_calls _).mono ?_); rintro e w' ⟨rfl, hxa⟩)
    go_wp2
    go_ret
    exact ⟨rfl, hZ.out.trans ((by repeat' (first | (with_reducible exact Ext.refl _) | (with_reducible assumption) | (with_reducible refine Ext.alloc ?_ _) | (with_reducible refine Ext.drew ?_) | (with_reducible refine Ext.drewN ?_ _) | (with_reducible refine Ext.setCell ?_ (by first | exact Nat.le_refl _ | (simp; done) | (simp; omega) | omega) _) | (with_reducible refine Ext.trans ?_ (by assumption)))))⟩

end Go.Proofs.Ytgjjngkmbplijaa
