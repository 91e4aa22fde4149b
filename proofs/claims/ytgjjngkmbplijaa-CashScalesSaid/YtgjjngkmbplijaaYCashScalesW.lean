/- The walk of the law CashScales. -/
import Derived.Test.YtgjjngkmbplijaaZRf
import Derived.Test.YtgjjngkmbplijaaZPt
import Derived.Test.YtgjjngkmbplijaaYKn10
import Derived.Test.YtgjjngkmbplijaaZFa

namespace Go.Proofs.Ytgjjngkmbplijaa
open Go.RowKit
set_option linter.unusedSimpArgs false
set_option linter.unusedVariables false

theorem wrap_mul {n a : Int} (h1 : -4 ≤ n) (h2 : n ≤ 4) (h : Vd a = true) : IntKind.i64.wrap (n * a) = n * a := by
  have hb := (Vd_iff a).1 h
  have h3 : (n * a).natAbs ≤ 4 * 1000000000000 := by
    rw [Int.natAbs_mul]
    exact Nat.mul_le_mul (by omega) (by omega)
  exact wrap_id _ (by omega) (by omega)
theorem Fl.same_rfl (x : Fl) : x.same x = true := by simp [Fl.same]
theorem Wa.same_rfl (x : Wa) : x.same x = true := by simp [Wa.same]
theorem flLen (n : Int) (st : CSt) : (timesS n st).1.length = st.1.length ∧ (timesS n st).2.length = st.2.length := by simp [timesS]

set_option maxRecDepth 100000 in
set_option maxHeartbeats 12800000 in
theorem cashScales_walk (p : Pl) (a1 : Option Addr) (n1 c1 : Nat) (l1 : List Int) (a2 : Option Addr) (n2 c2 : Nat) (l2 : List Int) (n day : Int) (w : World) (hp : p.In (· < w.heap.size) w) (hl1 : InInts w a1 n1 c1 l1) (hl2 : InInts w a2 n2 c2 l2) (hn : (Lit.int .i64 n).wf = true) (hd : (Lit.int .i64 day).wf = true) :
    Calls Try.prog 31 #[p.val, .slice a1 n1 c1, .slice a2 n2 c2, .int .i64 n, .int .i64 day] w fun e w' => e = .returned (.bool true) ∧ Ext w w' := by
  have hb1 := i64_of hn
  have hb2 := i64_of hd
  have HW9 := fun W => within_calls n 9 W (by omega) (by omega) hb1.1 hb1.2
  have HW5 := fun W => within_calls day 5 W (by omega) (by omega) hb2.1 hb2.2
  have m1 : 0 ≤ n % 9 := Int.emod_nonneg _ (by omega)
  have m2 : n % 9 < 9 := Int.emod_lt_of_pos _ (by omega)
  have m3 : 0 ≤ day % 5 := Int.emod_nonneg _ (by omega)
  have m4 : day % 5 < 5 := Int.emod_lt_of_pos _ (by omega)
  generalize day % 5 = d at *
  generalize n % 9 = n9 at *
  have hdB : dayB d = true := (dayB_iff d).2 (by omega)
  obtain ⟨o, ho, hoc⟩ := rightT_ok p
  have hwf := ho.wf
  have hnd := (Te.checked_form hoc).2.1
  have P1 := fun W (hW : Ext w W) => right_tree p W ((hp.ext hW).weak (fun y hy => Nat.lt_of_lt_of_le hy hW.le))
  have P2 := fun (h : HT) (r : Nat → Prop) (W : World) (e : h.tr = rightT p) (hin : h.In r W) => pterm_at ho.is hwf h r W e hin
  have K1 := fun W (hW : Ext w W) => known10_calls W a1 n1 c1 l1 a2 n2 c2 l2 ⟨hl1.1.ext hW, hl1.2⟩ ⟨hl2.1.ext hW, hl2.2⟩
  have HT := fun (m : Int) (h1 : -4 ≤ m) (h2 : m ≤ 4) W => tcheck_calls (.scale (.const m) o) W ⟨⟨by omega, by omega⟩, hwf⟩ (by simp only [Te.nodes, Ob.nodes]; omega)
  have HA := fun (F : FixL) (C : ChL) (p f c : Nat) W (hW : Wld W p f c F C) => cof_calls p f c F C ⟨#[116]⟩ o d W hwf (by omega) hW
  have HB := fun (F : FixL) (C : ChL) (p f c : Nat) (m : Int) (h1 : -4 ≤ m) (h2 : m ≤ 4) W (hW : Wld W p f c F C) => cof_calls p f c F C ⟨#[116]⟩ (.scale (.const m) o) d W ⟨⟨by omega, by omega⟩, hwf⟩ (by simp only [Te.nodes, Ob.nodes]; omega) hW
  have hways := Lib.hid (fun (F : FixL) (C : ChL) (m : Int) (h : (Te.scale (.const m) o).checked = 0) => scale_ways (F := F) (C := C) (id := ⟨#[116]⟩) (o := o) (n := m) (d := d) h hdB)
  obtain ⟨kx, vx, ex⟩ := Te.form_cl ho.clean
  have hEf := Lib.hid eql_flow
  have hEw := Lib.hid eql_wait
  have f2 := held_flow.2
  have f3 := held_wait.2
  have hsv : ∀ m, (Te.scale (.const m) o).val = .iface 108 (.agg #[.iface 52 (.agg #[.int .i64 m]), o.val]) := fun _ => rfl
  simp only [hsv, ex] at P2 HT HA HB
  clear hn hd hb1 hb2 hp hl1 hl2 ho hoc hwf hnd ex hsv hdB
  generalize rightT p = T at *
  unfold Pl.val at *
  go_enter Try.func31, Try.ntmps31
  (go_wp2_with fail; (with_reducible refine (P1 _ ((by repeat' (first | (with_reducible exact Ext.refl _) | (with_reducible assumption) | (with_reducible refine Ext.alloc ?_ _) | (with_reducible refine Ext.drew ?_) | (with_reducible refine Ext.drewN ?_ _) | (with_reducible refine Ext.setCell ?_ (by first | exact Nat.le_refl _ | (simp; done) | (simp; omega) | omega) _) | (with_reducible refine Ext.trans ?_ (by assumption)))))).mono ?_); rintro e w3 ⟨h3, rfl, ht3, hi3, hx3⟩)
  (go_wp2_with fail; (with_reducible refine (P2 _ _ _ ht3 hi3).mono ?_); rintro e w4 ⟨rfl, hx4⟩)
  have hE4 : Ext w w4 := ((by repeat' (first | (with_reducible exact Ext.refl _) | (with_reducible assumption) | (with_reducible refine Ext.alloc ?_ _) | (with_reducible refine Ext.drew ?_) | (with_reducible refine Ext.drewN ?_ _) | (with_reducible refine Ext.setCell ?_ (by first | exact Nat.le_refl _ | (simp; done) | (simp; omega) | omega) _) | (with_reducible refine Ext.trans ?_ (by assumption)))))
  clear P1 P2 ht3 hi3 hx3 hx4
  (go_wp2_with fail; (with_reducible refine (K1 _ hE4).mono ?_); rintro e w5 ⟨P, f, c, q, v1, v2, F, C, rfl, hTw, hCk⟩)
  have hW5 := hTw.a.wld
  have hE5 := Lib.hid (hE4.trans hTw.a.ext)
  clear K1 hTw hCk hE4
  (go_wp2_with fail; (with_reducible refine (HW9 _).mono ?_); rintro e w' ⟨rfl, rfl⟩)
  (go_wp2_with fail; (with_reducible refine (HW5 _).mono ?_); rintro e w' ⟨rfl, rfl⟩)
  go_upto_region 6 with fail
  obtain ⟨m, hm⟩ : ∃ m, n9 - 4 = m := ⟨_, rfl⟩
  rw [hm]
  have hm1 : -4 ≤ m := by omega
  have hm2 : m ≤ 4 := by omega
  have HT := HT m hm1 hm2
  have HA := fun W (hW : Wld W P f c F C) => HA F C P f c W hW
  have HB := fun W (hW : Wld W P f c F C) => HB F C P f c m hm1 hm2 W hW
  have hways := Lib.hid (hways.out F C m)
  clear hm m1 m2 HW9 HW5
  by_cases htc : (Te.scale (.const m) o).checked = 0
  case neg =>
    have hne : ((Te.scale (.const m) o).checked != 0) = true := by simpa using htc
    generalize (Te.scale (.const m) o).checked = ck at *
    clear htc HA HB hways
    (go_wp2_with fail; (with_reducible refine (HT _).mono ?_); rintro e w' ⟨rfl, hx1⟩)
    (go_wp2_with fail; (with_reducible refine (wakes10_calls _).mono ?_); rintro e w' ⟨rfl, hx2⟩)
    go_wp2
    go_ret
    exact ⟨rfl, hE5.out.trans ((by repeat' (first | (with_reducible exact Ext.refl _) | (with_reducible assumption) | (with_reducible refine Ext.alloc ?_ _) | (with_reducible refine Ext.drew ?_) | (with_reducible refine Ext.drewN ?_ _) | (with_reducible refine Ext.setCell ?_ (by first | exact Nat.le_refl _ | (simp; done) | (simp; omega) | omega) _) | (with_reducible refine Ext.trans ?_ (by assumption)))))⟩
  have hways := hways.out htc
  rw [htc] at HT
  clear htc
  generalize cashOf F C ⟨#[116]⟩ o d = A at *
  generalize cashOf F C ⟨#[116]⟩ (.scale (.const m) o) d = B at *
  (go_wp2_with fail; (with_reducible refine (HT _).mono ?_); rintro e w' ⟨rfl, hx1⟩)
  have hb0 : w'.cell? ⟨w5.heap.size, 0, none⟩ = some (.iface 52 (.agg #[.int .i64 m])) := hx1.cell (by rw [World.cell?_alloc_new]; rfl)
  have hb1 : w'.cell? ⟨w5.heap.size, 1, none⟩ = some (.iface kx vx) := hx1.cell (by rw [World.cell?_alloc_new]; rfl)
  have hE1 : Ext w5 w' := ((by repeat' (first | (with_reducible exact Ext.refl _) | (with_reducible assumption) | (with_reducible refine Ext.alloc ?_ _) | (with_reducible refine Ext.drew ?_) | (with_reducible refine Ext.drewN ?_ _) | (with_reducible refine Ext.setCell ?_ (by first | exact Nat.le_refl _ | (simp; done) | (simp; omega) | omega) _) | (with_reducible refine Ext.trans ?_ (by assumption)))))
  (go_wp2_with fail; (with_reducible refine (HA _ (hW5.ext hE1)).mono ?_); rintro e w6 ⟨u1, u2, rfl, hfa, hwa, hx6⟩)
  replace hb0 := hx6.cell hb0
  replace hb1 := hx6.cell hb1
  obtain ⟨A1, C1, rfl, ha1, ha2⟩ := own_form hfa
  obtain ⟨A2, C2, rfl, ha3, ha4⟩ := own_form hwa
  (go_wp2_with fail; (with_reducible refine (HB _ (hW5.ext (hE1.trans hx6))).mono ?_); rintro e w7 ⟨u3, u4, rfl, hfb, hwb, hx7⟩)
  obtain ⟨A3, C3, rfl, hb3, hb4⟩ := own_form hfb
  obtain ⟨A4, C4, rfl, hb5, hb6⟩ := own_form hwb
  have hE7 := Lib.hid (hE5.out.trans (hE1.trans (hx6.trans hx7)))
  have hfa7 := hx7.own hfa
  have hwa7 := hx7.own hwa
  unfold maxLen at ha2 ha4 hb4 hb6
  clear hfa hwa hx1 hx6 hx7 hE1 hW5 HT HA HB hE5 hb0 hb1
  rcases hways with ⟨h0, e2⟩ | ⟨h0, e2⟩ | ⟨h0, st, e1, e2, hamt, hsd⟩
  · subst e2
    subst h0
    clear hfa7 hwa7 hfb hwb
    go_wp2_with fail
    (with_reducible refine (wakes10_calls _).mono ?_)
    rintro e w8 ⟨rfl, hx8⟩
    go_wp2
    go_ret
    exact ⟨rfl, hE7.out.trans hx8⟩
  · subst e2
    have hm0 : (m == 0) = false := by simpa using h0
    clear hfa7 hwa7 hfb hwb
    go_wp2_with fail
    (with_reducible refine (wakes10_calls _).mono ?_)
    rintro e w8 ⟨rfl, hx8⟩
    go_wp2
    go_ret
    exact ⟨rfl, hE7.out.trans hx8⟩
  · subst e1 e2
    have hm0 : (m == 0) = false := by simpa using h0
    obtain ⟨fl, wa⟩ := st
    simp only [timesS, List.length_map] at *
    have hwb0 := Lib.hid hwb
    have hwa0 := Lib.hid hwa7
    have hfb0 := Lib.hid hfb
    have hfa0 := Lib.hid hfa7
    have hsd := Lib.hid hsd
    clear hwb hwa7 hfb hfa7 h0
    go_wp2_with fail
    go_loopw [109] (fun i wr => ∃ j : Nat, j ≤ fl.length ∧ i = .int .i64 j ∧ Ext w7 wr) (fun i _ => fl.length - (intOf i).toNat)
    case atStart => exact ⟨0, by omega, rfl, Ext.refl _⟩
    case round =>
      obtain ⟨j, hj, rfl, hx⟩ := hrel
      by_cases hlt : j < fl.length
      · have e1 : fl[j]? = some fl[j] := List.getElem?_eq_getElem hlt
        generalize fl[j] = x at e1
        obtain ⟨g1, rfl, q0, q1, q2⟩ := fl_at (hx.own hfa0.out) e1 hlt
        obtain ⟨g3, rfl, r0, r1, r2⟩ := fl_at (x := x.times m) (hx.own hfb0.out) (by rw [List.getElem?_map, e1]; rfl) hlt
        have hwr := wrap_mul hm1 hm2 (hamt x (List.mem_of_getElem? e1))
        have hE := fun W => hEf.out (x.times m) (x.times m) W
        simp only [Fl.same_rfl, Fl.val, Fl.times] at hE r0 r1 r2
        have hj0 := Lib.hid (show j + 1 ≤ fl.length from hlt)
        have hx0 := Lib.hid hx
        have hji : (j : Int) < (fl.length : Int) := by omega
        have hji0 : (0 : Int) ≤ (j : Int) := by omega
        clear e1 hamt hx
        go_wp2_with fail
        go_quiet (fail)
        go_wp2_with fail
        go_roundw
        case rel => exact ⟨j + 1, hj0.out, by go_num, hx0.out.drewN _⟩
        case measure => simp [intOf]; omega
      · obtain rfl : j = fl.length := by omega
        have hx0 := Lib.hid hx
        clear hx hamt
        go_wp2_with fail
        go_loopw [138] (fun i wq => ∃ j : Nat, j ≤ wa.length ∧ i = .int .i64 j ∧ Ext wr wq) (fun i _ => wa.length - (intOf i).toNat)
        case atStart => exact ⟨0, by omega, rfl, Ext.refl _⟩
        case round =>
          obtain ⟨k, hk, rfl, hxk⟩ := hrel
          by_cases hlt2 : k < wa.length
          · have e1 : wa[k]? = some wa[k] := List.getElem?_eq_getElem hlt2
            generalize wa[k] = x at e1
            obtain ⟨g2, rfl, q0, q1, q2, q3, q4⟩ := wa_at ((hx0.out.trans hxk).own hwa0.out) e1 hlt2
            obtain ⟨g4, rfl, r0, r1, r2, r3, r4⟩ := wa_at (x := x.turn m) ((hx0.out.trans hxk).own hwb0.out) (by rw [List.getElem?_map, e1]; rfl) hlt2
            have hsx := hsd.out x (List.mem_of_getElem? e1)
            have hs0 : 0 ≤ x.side := by rcases hsx with h | h <;> rw [h] <;> decide
            have hs1 : x.side ≤ 1 := by rcases hsx with h | h <;> rw [h] <;> decide
            have hE := fun W => hEw.out (x.turn m) (x.turn m) W
            have hj0 := Lib.hid (show k + 1 ≤ wa.length from hlt2)
            have hx1 := Lib.hid hxk
            have hji : (k : Int) < (wa.length : Int) := by omega
            have hji0 : (0 : Int) ≤ (k : Int) := by omega
            have hcase : (x.ch = true ∧ m < 0 ∧ x.turn m = ⟨x.ch, x.name, x.label, x.day, 1 - x.side⟩) ∨ (x.ch = true ∧ 0 ≤ m ∧ x.turn m = x) ∨ (x.ch = false ∧ x.turn m = x) := by
              unfold Wa.turn
              cases x.ch with
              | false => exact .inr (.inr ⟨rfl, by simp⟩)
              | true =>
                by_cases h : m < 0
                · exact .inl ⟨rfl, h, by simp [h]⟩
                · exact .inr (.inl ⟨rfl, by omega, by simp [h]⟩)
            clear e1 hxk hsx
            rcases hcase with ⟨k1, k2, k3⟩ | ⟨k1, k2, k3⟩ | ⟨k1, k3⟩
            all_goals
              rw [k3] at r0 r1 r2 r3 r4
              simp only [Wa.same_rfl, k3, Wa.val, k1] at hE q0 r0 r1 r2 r3 r4
              clear k3
              go_wp2_with fail
              go_quiet (fail)
              go_wp2_with fail
              go_roundw
              case rel => exact ⟨k + 1, hj0.out, by go_num, hx1.out.drewN _⟩
              case measure => simp [intOf]; omega
          · obtain rfl : k = wa.length := by omega
            have hx1 := Lib.hid hxk
            clear hxk
            (go_wp2_with fail; (with_reducible refine (wakes10_calls _).mono ?_); rintro e w' ⟨rfl, hx8⟩)
            go_wp2
            go_ret
            exact ⟨rfl, ((hE7.out.trans hx0.out).trans hx1.out).trans hx8⟩

end Go.Proofs.Ytgjjngkmbplijaa
