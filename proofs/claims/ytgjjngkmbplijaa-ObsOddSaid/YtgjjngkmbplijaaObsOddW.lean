/- The walk of the law ObsOdd. -/
import Derived.Test.YtgjjngkmbplijaaOdd
import Derived.Test.YtgjjngkmbplijaaObsSameW
namespace Go.Proofs.Ytgjjngkmbplijaa
open Go.RowKit
set_option linter.unusedSimpArgs false
set_option linter.unusedVariables false

/-- A number with something odd in it, not too great after j steps. -/
structure Tow (O : Ob) (j : Nat) : Prop where
  wf : O.wf
  formed : O.formed = false
  same : O.same O = false
  nodes : O.nodes + 1 ≤ 40 * 2 ^ j
theorem tow_odd {v : Value} (h : OddV v) : Tow (.odd v) 0 := ⟨h, rfl, rfl, by simp [Ob.nodes]⟩
section
variable {O y : Ob} {j : Nat}
theorem pow_up (j : Nat) : 2 ^ (j + 1) = 2 ^ j + 2 ^ j ∧ 1 ≤ 2 ^ j := ⟨by rw [Nat.pow_succ]; omega, Nat.one_le_two_pow⟩
theorem Tow.neg (h : Tow O j) : Tow (.neg O) (j + 1) := ⟨h.wf, h.formed, h.same, by have := h.nodes; have := pow_up j; simp only [Ob.nodes]; omega⟩
theorem Tow.add (h : Tow O j) (hy : y.wf) (hn : y.nodes < 32) : Tow (.add y O) (j + 1) := ⟨⟨hy, h.wf⟩, by simp [Ob.formed, h.formed], by simp [Ob.same, h.same], by have := h.nodes; have := pow_up j; simp only [Ob.nodes]; omega⟩
theorem Tow.mul (h : Tow O j) (hy : y.wf) (hn : y.nodes < 32) : Tow (.mul O y) (j + 1) := ⟨⟨h.wf, hy⟩, by simp [Ob.formed, h.formed], by simp [Ob.same, h.same], by have := h.nodes; have := pow_up j; simp only [Ob.nodes]; omega⟩
theorem Tow.max (h : Tow O j) : Tow (.max O O) (j + 1) := ⟨⟨h.wf, h.wf⟩, by simp [Ob.formed, h.formed], by simp [Ob.same, h.same], by have := h.nodes; have := pow_up j; simp only [Ob.nodes]; omega⟩
end
theorem pow_le6 {j : Nat} (h : j ≤ 6) : 2 ^ j ≤ 64 := by
  have : 2 ^ j ≤ 2 ^ 6 := Nat.pow_le_pow_right (by omega) h
  omega
theorem names_odd (v : Value) : (Ob.odd v).names = [] ∧ (Ob.odd v).kids = [] ∧ (Ob.odd v).nodes = 0 ∧ (Ob.odd v).depth = 0 ∧ (Ob.odd v).checked = 2 := ⟨rfl, rfl, rfl, rfl, rfl⟩

set_option maxRecDepth 100000 in
set_option maxHeartbeats 3200000 in
theorem obsOdd_walk (p : Pl) (n deep : Int) (w : World) (hp : p.In (· < w.heap.size) w) (hn : (Lit.int .i64 n).wf = true) (hd : (Lit.int .i64 deep).wf = true) : Calls Try.prog 12 #[p.val, .int .i64 n, .int .i64 deep] w fun e w' => e = .returned (.bool true) ∧ Ext w w' := by
  have hb := i64_of hn
  have hbd := i64_of hd
  obtain ⟨y, hy⟩ := obsT_ok p 4 0 16
  have hyw := hy.wf
  have hyn : y.nodes < 32 := hy.nodes
  have H1 := fun W (hW : Ext w W) => number_calls p W ((hp.ext hW).weak (fun y hy => Nat.lt_of_lt_of_le hy hW.le))
  have H2 := fun (h : HT) (q : Nat → Prop) (W : World) (e : h.tr = (obsT p 4 0 16).1) (hin : h.In q W) => pobs_at hy.is hy.wf h q W e hin
  have HOd := fun W => odd_calls n W hb.1 hb.2
  have hm0 : 0 ≤ deep % 6 := Int.emod_nonneg _ (by omega)
  have hm1 : deep % 6 < 6 := Int.emod_lt_of_pos _ (by omega)
  have HW := fun W => within_calls deep 6 W (by omega) (by omega) hbd.1 hbd.2
  obtain ⟨dp, hdp⟩ : ∃ dp : Nat, deep % 6 = dp := ⟨(deep % 6).toNat, by omega⟩
  rw [hdp] at HW hm0 hm1
  obtain ⟨ky, xy, ey⟩ := Ob.form_clean hy.clean
  have hyv := Lib.hid ey
  simp only [ey] at H2
  have hYW := Lib.hid (And.intro hyw hyn)
  clear hdp hb hbd hn hd hp hy ey hyw hyn
  generalize (obsT p 4 0 16).1 = T at *
  unfold Pl.val at *
  go_enter Try.func12, Try.ntmps12
  (go_wp2_with fail; (with_reducible refine (HOd _).mono ?_); rintro e w3 ⟨v, rfl, hodd, hx3⟩)
  have c0 : w3.cell? ⟨w.heap.size, 0, none⟩ = some (.slice p.a p.n p.c) := hx3.cell (by rw [World.cell?_alloc_new]; rfl)
  have c1 : w3.cell? ⟨w.heap.size, 1, none⟩ = some (.slice p.a2 p.n2 p.c2) := hx3.cell (by rw [World.cell?_alloc_new]; rfl)
  have hE3 := Lib.hid (show Ext w w3 from (by repeat' (first | (with_reducible exact Ext.refl _) | (with_reducible assumption) | (with_reducible refine Ext.alloc ?_ _) | (with_reducible refine Ext.drew ?_) | (with_reducible refine Ext.drewN ?_ _) | (with_reducible refine Ext.setCell ?_ (by first | exact Nat.le_refl _ | (simp; done) | (simp; omega) | omega) _) | (with_reducible refine Ext.trans ?_ (by assumption)))))
  clear HOd hx3
  rcases hodd.ob with (rfl | ⟨t, X, rfl, n1, n2, n3, n4, n5, n6⟩) | rfl
  · have hodv : OddV .nilIface := .inl rfl
    have hOd := Lib.hid (tow_odd hodv)
    have S1 := fun W => osize_calls _ (.odd (.nilIface)) W (Nat.lt_succ_self _) hodv (by simp [Ob.nodes])
    have S2 := fun W => onames_calls _ (.odd (.nilIface)) W (Nat.lt_succ_self _) hodv (by simp [Ob.nodes])
    have S3 := fun W => kids_own (.odd (.nilIface)) W hodv
    have S4 := fun W => osame_any (.odd (.nilIface)) (.odd (.nilIface)) hodv hodv false rfl W
    have S5 := fun W => ocheck_calls (.odd (.nilIface)) W hodv (by simp [Ob.nodes])
    simp only [(names_odd (.nilIface)).1, (names_odd (.nilIface)).2.1, (names_odd (.nilIface)).2.2.1, (names_odd (.nilIface)).2.2.2.1, (names_odd (.nilIface)).2.2.2.2, Ob.val, List.length_nil] at S1 S2 S3 S4 S5
    clear hodv
    (go_wp2_with fail; (with_reducible refine (S1 _).mono ?_); rintro e w4 ⟨rfl, hx4⟩)
    (go_wp2_with fail; (with_reducible refine (S2 _).mono ?_); rintro e w5 ⟨v2, rfl, ho2, hx5⟩)
    obtain ⟨A2, C2, rfl, _, _⟩ := own_form ho2
    clear ho2
    (go_wp2_with fail; (with_reducible refine (S3 _).mono ?_); rintro e w6 ⟨v3, rfl, ho3, hx6⟩)
    obtain ⟨A3, C3, rfl, _, _⟩ := own_form ho3
    clear ho3
    (go_wp2_with fail; (with_reducible refine (S4 _).mono ?_); rintro e w7 ⟨rfl, hx7⟩)
    (go_wp2_with fail; (with_reducible refine (S5 _).mono ?_); rintro e w8 ⟨rfl, hx8⟩)
    clear S1 S2 S3 S4 S5
    have hE38 : Ext w3 w8 := ((by repeat' (first | (with_reducible exact Ext.refl _) | (with_reducible assumption) | (with_reducible refine Ext.alloc ?_ _) | (with_reducible refine Ext.drew ?_) | (with_reducible refine Ext.drewN ?_ _) | (with_reducible refine Ext.setCell ?_ (by first | exact Nat.le_refl _ | (simp; done) | (simp; omega) | omega) _) | (with_reducible refine Ext.trans ?_ (by assumption)))))
    have d0 := hE38.cell c0
    have d1 := hE38.cell c1
    have hE8 := Lib.hid (hE3.out.trans hE38)
    clear hE38 hx4 hx5 hx6 hx7 hx8 c0 c1
    (go_wp2_with fail; (with_reducible refine (HW _).mono ?_); rintro e w' ⟨rfl, rfl⟩)
    (go_wp2_with fail; (with_reducible refine (H1 _ hE8.out).mono ?_); rintro e w9 ⟨h5, rfl, ht5, hi5, hv5⟩)
    (go_wp2_with fail; (with_reducible refine (H2 _ _ _ ht5 hi5).mono ?_); rintro e w10 ⟨rfl, hv6⟩)
    have hE10 := Lib.hid ((hE8.out.trans hv5).trans hv6)
    clear H1 H2 ht5 hi5 hv5 hv6 d0 d1 HW
    go_wp2_with fail
    go_loopw [14, 12] (fun i o wr => ∃ (j : Nat) (O : Ob), j ≤ dp + 1 ∧ i = .int .i64 j ∧ o = O.val ∧ Tow O j ∧ Ext w wr) (fun i _ _ => dp + 1 - (intOf i).toNat)
    case atStart => exact ⟨0, .odd (.nilIface), by omega, rfl, rfl, hOd.out, hE10.out⟩
    case round =>
      obtain ⟨j, O, hj, rfl, rfl, hT, hx⟩ := hrel
      have hp6 := pow_le6 (j := j) (by omega)
      by_cases hlt : j < dp + 1
      · have hT0 := Lib.hid (And.intro hT hx)
        have hq4 : (j : Int) % 4 = 0 ∨ (j : Int) % 4 = 1 ∨ (j : Int) % 4 = 2 ∨ (j : Int) % 4 = 3 := by omega
        have hform := Ob.form hT.wf
        obtain ⟨ov, hov⟩ : ∃ ov, O.val = ov := ⟨_, rfl⟩
        rw [hov] at hform ⊢
        have hov0 := Lib.hid hov
        clear hT hov hx hp6
        rcases hq4 with hq | hq | hq | hq <;> rcases hform with rfl | ⟨kt, kx, rfl⟩
        all_goals
          go_wp2_with fail
          clear hq
          go_roundw
          case measure => simp [intOf]; omega
        · exact ⟨j + 1, .neg O, by omega, by go_num, by simp only [Ob.val, hov0.out], hT0.out.1.neg, hT0.out.2⟩
        · exact ⟨j + 1, .neg O, by omega, by go_num, by simp only [Ob.val, hov0.out], hT0.out.1.neg, hT0.out.2⟩
        · exact ⟨j + 1, .add y O, by omega, by go_num, by simp only [Ob.val, hov0.out, hyv.out], hT0.out.1.add hYW.out.1 hYW.out.2, hT0.out.2⟩
        · exact ⟨j + 1, .add y O, by omega, by go_num, by simp only [Ob.val, hov0.out, hyv.out], hT0.out.1.add hYW.out.1 hYW.out.2, hT0.out.2⟩
        · exact ⟨j + 1, .mul O y, by omega, by go_num, by simp only [Ob.val, hov0.out, hyv.out], hT0.out.1.mul hYW.out.1 hYW.out.2, hT0.out.2⟩
        · exact ⟨j + 1, .mul O y, by omega, by go_num, by simp only [Ob.val, hov0.out, hyv.out], hT0.out.1.mul hYW.out.1 hYW.out.2, hT0.out.2⟩
        · exact ⟨j + 1, .max O O, by omega, by go_num, by simp only [Ob.val, hov0.out], hT0.out.1.max, hT0.out.2⟩
        · exact ⟨j + 1, .max O O, by omega, by go_num, by simp only [Ob.val, hov0.out], hT0.out.1.max, hT0.out.2⟩
      · have hnd := hT.nodes
        have R1 := fun W => ocheck_calls O W hT.wf (by omega)
        have R2 := fun W => osame_any O O hT.wf hT.wf false hT.same W
        rw [show O.checked = 2 by unfold Ob.checked; rw [hT.formed]; rfl] at R1
        have hlt' : decide ((j : Int) < (dp : Int) + 1) = false := decide_eq_false (by omega)
        have hxx := Lib.hid hx
        clear hT hnd hx hp6
        generalize O.val = ov at *
        (go_wp2_with fail; (with_reducible refine (R1 _).mono ?_); rintro e w11 ⟨rfl, hx11⟩)
        (go_wp2_with fail; (with_reducible refine (R2 _).mono ?_); rintro e w12 ⟨rfl, hx12⟩)
        (go_wp2_with fail; (with_reducible refine (wakes04_calls _).mono ?_); rintro e w' ⟨rfl, hx13⟩)
        go_wp2
        go_ret
        exact ⟨rfl, ((hxx.out.trans hx11).trans hx12).trans hx13⟩
  · have hodv : OddV (.iface t X) := .inr ⟨t, X, rfl, n1, n2, n3, n4, n5, n6⟩
    have hOd := Lib.hid (tow_odd hodv)
    have S1 := fun W => osize_calls _ (.odd (.iface t X)) W (Nat.lt_succ_self _) hodv (by simp [Ob.nodes])
    have S2 := fun W => onames_calls _ (.odd (.iface t X)) W (Nat.lt_succ_self _) hodv (by simp [Ob.nodes])
    have S3 := fun W => kids_own (.odd (.iface t X)) W hodv
    have S4 := fun W => osame_any (.odd (.iface t X)) (.odd (.iface t X)) hodv hodv false rfl W
    have S5 := fun W => ocheck_calls (.odd (.iface t X)) W hodv (by simp [Ob.nodes])
    simp only [(names_odd (.iface t X)).1, (names_odd (.iface t X)).2.1, (names_odd (.iface t X)).2.2.1, (names_odd (.iface t X)).2.2.2.1, (names_odd (.iface t X)).2.2.2.2, Ob.val, List.length_nil] at S1 S2 S3 S4 S5
    clear hodv
    (go_wp2_with fail; (with_reducible refine (S1 _).mono ?_); rintro e w4 ⟨rfl, hx4⟩)
    (go_wp2_with fail; (with_reducible refine (S2 _).mono ?_); rintro e w5 ⟨v2, rfl, ho2, hx5⟩)
    obtain ⟨A2, C2, rfl, _, _⟩ := own_form ho2
    clear ho2
    (go_wp2_with fail; (with_reducible refine (S3 _).mono ?_); rintro e w6 ⟨v3, rfl, ho3, hx6⟩)
    obtain ⟨A3, C3, rfl, _, _⟩ := own_form ho3
    clear ho3
    (go_wp2_with fail; (with_reducible refine (S4 _).mono ?_); rintro e w7 ⟨rfl, hx7⟩)
    (go_wp2_with fail; (with_reducible refine (S5 _).mono ?_); rintro e w8 ⟨rfl, hx8⟩)
    clear S1 S2 S3 S4 S5
    have hE38 : Ext w3 w8 := ((by repeat' (first | (with_reducible exact Ext.refl _) | (with_reducible assumption) | (with_reducible refine Ext.alloc ?_ _) | (with_reducible refine Ext.drew ?_) | (with_reducible refine Ext.drewN ?_ _) | (with_reducible refine Ext.setCell ?_ (by first | exact Nat.le_refl _ | (simp; done) | (simp; omega) | omega) _) | (with_reducible refine Ext.trans ?_ (by assumption)))))
    have d0 := hE38.cell c0
    have d1 := hE38.cell c1
    have hE8 := Lib.hid (hE3.out.trans hE38)
    clear hE38 hx4 hx5 hx6 hx7 hx8 c0 c1
    (go_wp2_with fail; (with_reducible refine (HW _).mono ?_); rintro e w' ⟨rfl, rfl⟩)
    (go_wp2_with fail; (with_reducible refine (H1 _ hE8.out).mono ?_); rintro e w9 ⟨h5, rfl, ht5, hi5, hv5⟩)
    (go_wp2_with fail; (with_reducible refine (H2 _ _ _ ht5 hi5).mono ?_); rintro e w10 ⟨rfl, hv6⟩)
    have hE10 := Lib.hid ((hE8.out.trans hv5).trans hv6)
    clear H1 H2 ht5 hi5 hv5 hv6 d0 d1 HW
    go_wp2_with fail
    go_loopw [14, 12] (fun i o wr => ∃ (j : Nat) (O : Ob), j ≤ dp + 1 ∧ i = .int .i64 j ∧ o = O.val ∧ Tow O j ∧ Ext w wr) (fun i _ _ => dp + 1 - (intOf i).toNat)
    case atStart => exact ⟨0, .odd (.iface t X), by omega, rfl, rfl, hOd.out, hE10.out⟩
    case round =>
      obtain ⟨j, O, hj, rfl, rfl, hT, hx⟩ := hrel
      have hp6 := pow_le6 (j := j) (by omega)
      by_cases hlt : j < dp + 1
      · have hT0 := Lib.hid (And.intro hT hx)
        have hq4 : (j : Int) % 4 = 0 ∨ (j : Int) % 4 = 1 ∨ (j : Int) % 4 = 2 ∨ (j : Int) % 4 = 3 := by omega
        have hform := Ob.form hT.wf
        obtain ⟨ov, hov⟩ : ∃ ov, O.val = ov := ⟨_, rfl⟩
        rw [hov] at hform ⊢
        have hov0 := Lib.hid hov
        clear hT hov hx hp6
        rcases hq4 with hq | hq | hq | hq <;> rcases hform with rfl | ⟨kt, kx, rfl⟩
        all_goals
          go_wp2_with fail
          clear hq
          go_roundw
          case measure => simp [intOf]; omega
        · exact ⟨j + 1, .neg O, by omega, by go_num, by simp only [Ob.val, hov0.out], hT0.out.1.neg, hT0.out.2⟩
        · exact ⟨j + 1, .neg O, by omega, by go_num, by simp only [Ob.val, hov0.out], hT0.out.1.neg, hT0.out.2⟩
        · exact ⟨j + 1, .add y O, by omega, by go_num, by simp only [Ob.val, hov0.out, hyv.out], hT0.out.1.add hYW.out.1 hYW.out.2, hT0.out.2⟩
        · exact ⟨j + 1, .add y O, by omega, by go_num, by simp only [Ob.val, hov0.out, hyv.out], hT0.out.1.add hYW.out.1 hYW.out.2, hT0.out.2⟩
        · exact ⟨j + 1, .mul O y, by omega, by go_num, by simp only [Ob.val, hov0.out, hyv.out], hT0.out.1.mul hYW.out.1 hYW.out.2, hT0.out.2⟩
        · exact ⟨j + 1, .mul O y, by omega, by go_num, by simp only [Ob.val, hov0.out, hyv.out], hT0.out.1.mul hYW.out.1 hYW.out.2, hT0.out.2⟩
        · exact ⟨j + 1, .max O O, by omega, by go_num, by simp only [Ob.val, hov0.out], hT0.out.1.max, hT0.out.2⟩
        · exact ⟨j + 1, .max O O, by omega, by go_num, by simp only [Ob.val, hov0.out], hT0.out.1.max, hT0.out.2⟩
      · have hnd := hT.nodes
        have R1 := fun W => ocheck_calls O W hT.wf (by omega)
        have R2 := fun W => osame_any O O hT.wf hT.wf false hT.same W
        rw [show O.checked = 2 by unfold Ob.checked; rw [hT.formed]; rfl] at R1
        have hlt' : decide ((j : Int) < (dp : Int) + 1) = false := decide_eq_false (by omega)
        have hxx := Lib.hid hx
        clear hT hnd hx hp6
        generalize O.val = ov at *
        (go_wp2_with fail; (with_reducible refine (R1 _).mono ?_); rintro e w11 ⟨rfl, hx11⟩)
        (go_wp2_with fail; (with_reducible refine (R2 _).mono ?_); rintro e w12 ⟨rfl, hx12⟩)
        (go_wp2_with fail; (with_reducible refine (wakes04_calls _).mono ?_); rintro e w' ⟨rfl, hx13⟩)
        go_wp2
        go_ret
        exact ⟨rfl, ((hxx.out.trans hx11).trans hx12).trans hx13⟩
  · have hodv : OddV .nilIface := .inl rfl
    have hOd := Lib.hid (tow_odd hodv)
    have S1 := fun W => osize_calls _ (.odd (.nilIface)) W (Nat.lt_succ_self _) hodv (by simp [Ob.nodes])
    have S2 := fun W => onames_calls _ (.odd (.nilIface)) W (Nat.lt_succ_self _) hodv (by simp [Ob.nodes])
    have S3 := fun W => kids_own (.odd (.nilIface)) W hodv
    have S4 := fun W => osame_any (.odd (.nilIface)) (.odd (.nilIface)) hodv hodv false rfl W
    have S5 := fun W => ocheck_calls (.odd (.nilIface)) W hodv (by simp [Ob.nodes])
    simp only [(names_odd (.nilIface)).1, (names_odd (.nilIface)).2.1, (names_odd (.nilIface)).2.2.1, (names_odd (.nilIface)).2.2.2.1, (names_odd (.nilIface)).2.2.2.2, Ob.val, List.length_nil] at S1 S2 S3 S4 S5
    clear hodv
    (go_wp2_with fail; (with_reducible refine (S1 _).mono ?_); rintro e w4 ⟨rfl, hx4⟩)
    (go_wp2_with fail; (with_reducible refine (S2 _).mono ?_); rintro e w5 ⟨v2, rfl, ho2, hx5⟩)
    obtain ⟨A2, C2, rfl, _, _⟩ := own_form ho2
    clear ho2
    (go_wp2_with fail; (with_reducible refine (S3 _).mono ?_); rintro e w6 ⟨v3, rfl, ho3, hx6⟩)
    obtain ⟨A3, C3, rfl, _, _⟩ := own_form ho3
    clear ho3
    (go_wp2_with fail; (with_reducible refine (S4 _).mono ?_); rintro e w7 ⟨rfl, hx7⟩)
    (go_wp2_with fail; (with_reducible refine (S5 _).mono ?_); rintro e w8 ⟨rfl, hx8⟩)
    clear S1 S2 S3 S4 S5
    have hE38 : Ext w3 w8 := ((by repeat' (first | (with_reducible exact Ext.refl _) | (with_reducible assumption) | (with_reducible refine Ext.alloc ?_ _) | (with_reducible refine Ext.drew ?_) | (with_reducible refine Ext.drewN ?_ _) | (with_reducible refine Ext.setCell ?_ (by first | exact Nat.le_refl _ | (simp; done) | (simp; omega) | omega) _) | (with_reducible refine Ext.trans ?_ (by assumption)))))
    have d0 := hE38.cell c0
    have d1 := hE38.cell c1
    have hE8 := Lib.hid (hE3.out.trans hE38)
    clear hE38 hx4 hx5 hx6 hx7 hx8 c0 c1
    (go_wp2_with fail; (with_reducible refine (HW _).mono ?_); rintro e w' ⟨rfl, rfl⟩)
    (go_wp2_with fail; (with_reducible refine (H1 _ hE8.out).mono ?_); rintro e w9 ⟨h5, rfl, ht5, hi5, hv5⟩)
    (go_wp2_with fail; (with_reducible refine (H2 _ _ _ ht5 hi5).mono ?_); rintro e w10 ⟨rfl, hv6⟩)
    have hE10 := Lib.hid ((hE8.out.trans hv5).trans hv6)
    clear H1 H2 ht5 hi5 hv5 hv6 d0 d1 HW
    go_wp2_with fail
    go_loopw [14, 12] (fun i o wr => ∃ (j : Nat) (O : Ob), j ≤ dp + 1 ∧ i = .int .i64 j ∧ o = O.val ∧ Tow O j ∧ Ext w wr) (fun i _ _ => dp + 1 - (intOf i).toNat)
    case atStart => exact ⟨0, .odd (.nilIface), by omega, rfl, rfl, hOd.out, hE10.out⟩
    case round =>
      obtain ⟨j, O, hj, rfl, rfl, hT, hx⟩ := hrel
      have hp6 := pow_le6 (j := j) (by omega)
      by_cases hlt : j < dp + 1
      · have hT0 := Lib.hid (And.intro hT hx)
        have hq4 : (j : Int) % 4 = 0 ∨ (j : Int) % 4 = 1 ∨ (j : Int) % 4 = 2 ∨ (j : Int) % 4 = 3 := by omega
        have hform := Ob.form hT.wf
        obtain ⟨ov, hov⟩ : ∃ ov, O.val = ov := ⟨_, rfl⟩
        rw [hov] at hform ⊢
        have hov0 := Lib.hid hov
        clear hT hov hx hp6
        rcases hq4 with hq | hq | hq | hq <;> rcases hform with rfl | ⟨kt, kx, rfl⟩
        all_goals
          go_wp2_with fail
          clear hq
          go_roundw
          case measure => simp [intOf]; omega
        · exact ⟨j + 1, .neg O, by omega, by go_num, by simp only [Ob.val, hov0.out], hT0.out.1.neg, hT0.out.2⟩
        · exact ⟨j + 1, .neg O, by omega, by go_num, by simp only [Ob.val, hov0.out], hT0.out.1.neg, hT0.out.2⟩
        · exact ⟨j + 1, .add y O, by omega, by go_num, by simp only [Ob.val, hov0.out, hyv.out], hT0.out.1.add hYW.out.1 hYW.out.2, hT0.out.2⟩
        · exact ⟨j + 1, .add y O, by omega, by go_num, by simp only [Ob.val, hov0.out, hyv.out], hT0.out.1.add hYW.out.1 hYW.out.2, hT0.out.2⟩
        · exact ⟨j + 1, .mul O y, by omega, by go_num, by simp only [Ob.val, hov0.out, hyv.out], hT0.out.1.mul hYW.out.1 hYW.out.2, hT0.out.2⟩
        · exact ⟨j + 1, .mul O y, by omega, by go_num, by simp only [Ob.val, hov0.out, hyv.out], hT0.out.1.mul hYW.out.1 hYW.out.2, hT0.out.2⟩
        · exact ⟨j + 1, .max O O, by omega, by go_num, by simp only [Ob.val, hov0.out], hT0.out.1.max, hT0.out.2⟩
        · exact ⟨j + 1, .max O O, by omega, by go_num, by simp only [Ob.val, hov0.out], hT0.out.1.max, hT0.out.2⟩
      · have hnd := hT.nodes
        have R1 := fun W => ocheck_calls O W hT.wf (by omega)
        have R2 := fun W => osame_any O O hT.wf hT.wf false hT.same W
        rw [show O.checked = 2 by unfold Ob.checked; rw [hT.formed]; rfl] at R1
        have hlt' : decide ((j : Int) < (dp : Int) + 1) = false := decide_eq_false (by omega)
        have hxx := Lib.hid hx
        clear hT hnd hx hp6
        generalize O.val = ov at *
        (go_wp2_with fail; (with_reducible refine (R1 _).mono ?_); rintro e w11 ⟨rfl, hx11⟩)
        (go_wp2_with fail; (with_reducible refine (R2 _).mono ?_); rintro e w12 ⟨rfl, hx12⟩)
        (go_wp2_with fail; (with_reducible refine (wakes04_calls _).mono ?_); rintro e w' ⟨rfl, hx13⟩)
        go_wp2
        go_ret
        exact ⟨rfl, ((hxx.out.trans hx11).trans hx12).trans hx13⟩

end Go.Proofs.Ytgjjngkmbplijaa
