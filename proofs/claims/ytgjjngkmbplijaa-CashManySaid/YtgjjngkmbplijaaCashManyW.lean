/- The walk of the law CashMany. -/
import Derived.Test.YtgjjngkmbplijaaKeep
import Derived.Deep.QuietTactic
import Derived.BigQuiet
namespace Go.Proofs.Ytgjjngkmbplijaa
open Go.RowKit
set_option linter.unusedSimpArgs false
set_option linter.unusedVariables false

theorem flsame_rfl (x : Fl) : x.same x = true := by obtain ⟨a, b, c⟩ := x; simp [Fl.same]
def payT (d n : Int) : Te := .whn d (.scale (.const n) (.one ⟨#[117, 115, 100]⟩))
/-- Many payments: what such a contract is. -/
structure ManyP (T : Te) (L : List Fl) (s : Int) (j : Nat) : Prop where
  wf : T.wf
  formed : T.formed = true
  nodes : T.nodes = 1 + 5 * j
  depth : T.depth ≤ 3 + j
  labels : T.labels = []
  form : ∃ k x, T.val = .iface k x
  len : L.length ≤ j
  walk : ∀ (F : FixL) (C : ChL) (id : ByteArray) (st : CSt), T.walk F C id s 1 st = (0, (st.1 ++ L, st.2))
theorem many0 (s : Int) : ManyP .zero [] s 0 := ⟨trivial, rfl, rfl, by decide, rfl, ⟨_, _, rfl⟩, Nat.le_refl _, fun F C id st => by simp [Te.walk]⟩
theorem payT_walk {s d n : Int} (h3 : -100 ≤ n) (h4 : n ≤ 100) (F : FixL) (C : ChL) (id : ByteArray) (st : CSt) : (payT d n).walk F C id s 1 st = (0, (if n = 0 then st.1 else st.1 ++ [⟨Max.max s d, ⟨#[117, 115, 100]⟩, n⟩], st.2)) := by
  have vn : Vd n = true := Vd_of (by omega) (by omega)
  have e : mulS 1 n = (n, true) := by rw [mulS_yes (by decide) vn (by rw [Int.one_mul]; exact vn), Int.one_mul]
  show (Te.scale (.const n) (.one ⟨#[117, 115, 100]⟩)).walk F C id (Max.max s d) 1 st = _
  by_cases h : n = 0
  · rw [sk_zero vn (by rw [e]) (by rw [e]; exact h), if_pos h]
  · rw [sk_go vn (by rw [e]) (by rw [e]; exact h), e, if_neg h]
    rfl
theorem ManyP.step {T : Te} {L : List Fl} {s d n : Int} {j : Nat} (h : ManyP T L s j) (h1 : 0 ≤ d) (h2 : d < 40) (h3 : -100 ≤ n) (h4 : n ≤ 100) :
    ManyP (.and T (payT d n)) (if n = 0 then L else L ++ [⟨Max.max s d, ⟨#[117, 115, 100]⟩, n⟩]) s (j + 1) := by
  have vn : Vd n = true := Vd_of (by omega) (by omega)
  have hsz : (⟨#[117, 115, 100]⟩ : ByteArray).size ≤ 1000 := by decide
  have hd : dayB d = true := (dayB_iff d).2 (by omega)
  have h5 := h.depth
  have h6 := h.len
  refine ⟨⟨h.wf, ⟨by omega, by omega⟩, ⟨by omega, by omega⟩, hsz⟩, ?_, ?_, ?_, ?_, ⟨_, _, rfl⟩, ?_, fun F C id st => ?_⟩
  · simp only [payT, Te.formed, Ob.formed, h.formed, hd, vn, usd_name, Bool.and_self]
  · simp only [payT, Te.nodes, Ob.nodes, h.nodes]; omega
  · simp only [payT, Te.depth, Ob.depth]; omega
  · simp only [payT, Te.labels, h.labels]; rfl
  · split
    · omega
    · simp only [List.length_append, List.length_cons, List.length_nil]; omega
  · rw [and_ok (by rw [h.walk]), h.walk, payT_walk h3 h4]
    simp only
    split <;> simp
theorem ManyP.of {T : Te} {L : List Fl} {s : Int} {j : Nat} (h : ManyP T L s j) (hj : j ≤ 8) (h1 : 0 ≤ s) (h2 : s ≤ 100) (id : ByteArray) : cashOf [] [] id T s = (0, (L, [])) := by
  have hw := h.walk [] [] id ([], [])
  have hn := h.nodes
  have hd := h.depth
  rw [cashOf_ok (Te.checked_ok h.formed (by omega) (by omega) (by rw [h.labels]; rfl)) ((dayB_iff s).2 (by omega)) (by rw [hw]), hw]
  simp

set_option maxRecDepth 100000 in
set_option maxHeartbeats 6400000 in
theorem cashMany_walk (a : Option Addr) (n c : Nat) (l : List Int) (a2 : Option Addr) (n2 c2 : Nat) (l2 : List Int) (start : Int) (w : World) (w0 : InInts w a n c l) (w1 : InInts w a2 n2 c2 l2) (w2 : (Lit.int .i64 start).wf = true) :
    Calls Try.prog 24 #[.slice a n c, .slice a2 n2 c2, .int .i64 start] w fun e w' => e = .returned (.bool true) ∧ Ext w w' := by
  have b1 := i64_of w2
  obtain ⟨hr, hnc, hcm, hwf⟩ := w0
  obtain ⟨hr2, hnc2, hcm2, hwf2⟩ := w1
  have m1 := within_lo start 20 (by omega)
  have m2 := within_hi start 20 (by omega)
  unfold maxLen at hcm hcm2
  clear w2
  go_enter Try.func24, Try.ntmps24
  (go_wp2_with fail; (with_reducible refine (within_calls _ _ _ (by omega) (by omega) b1.1 b1.2).mono ?_); rintro e w' ⟨rfl, rfl⟩)
  generalize start % 20 = s at *
  clear b1
  go_wp2_with fail
  go_loopw [9, 7, 8] (fun i t wt wr => ∃ (j : Nat) (T : Te) (A1 : Option Addr) (C1 : Nat) (L : List Fl), j ≤ n ∧ j ≤ n2 ∧ j ≤ 8 ∧ i = .int .i64 j ∧ t = T.val ∧ wt = .slice A1 L.length C1 ∧ ManyP T L s j ∧ wr.ownsRow w.heap.size 144 3 (.slice A1 L.length C1) L.length (flCells L) ∧ Ext w wr) (fun i _ _ _ => 9 - (intOf i).toNat)
  case atStart => exact ⟨0, _, none, 0, [], by omega, by omega, by omega, rfl, rfl, rfl, many0 s, World.ownsRow_nil _ _ _ _, Ext.refl w⟩
  case round =>
    obtain ⟨j, T, A1, C1, L, hj, hj2, hj8, rfl, rfl, rfl, hP, hown, hE⟩ := hrel
    have hP0 := Lib.hid hP
    obtain ⟨tk, tx, hform⟩ := hP.form
    have hLl := hP.len
    obtain ⟨_, _, _, hC1, hC1m⟩ := own_form hown
    by_cases hlt : j < n ∧ j < n2 ∧ j < 8
    · obtain ⟨hlt1, hlt2, hlt3⟩ := hlt
      obtain ⟨ad, u, rfl, hu, hc⟩ := (hr.ext hE).at1 hlt1
      obtain ⟨ad2, u2, rfl, hu2, hc2⟩ := (hr2.ext hE).at1 hlt2
      simp only [ints, List.getElem?_map] at hu hu2
      cases hx : l[j]? with
      | none => rw [hx] at hu; cases hu
      | some x =>
        rw [hx] at hu
        cases hx2 : l2[j]? with
        | none => rw [hx2] at hu2; cases hu2
        | some x2 =>
          rw [hx2] at hu2
          obtain rfl : u = .int .i64 x := by simpa using hu.symm
          obtain rfl : u2 = .int .i64 x2 := by simpa using hu2.symm
          have hb := i64_of (hwf x (List.mem_of_getElem? hx))
          have hb2 := i64_of (hwf2 x2 (List.mem_of_getElem? hx2))
          have y1 := within_lo x 40 (by omega)
          have y2 := within_hi x 40 (by omega)
          have y3 := within_lo x2 201 (by omega)
          have y4 := within_hi x2 201 (by omega)
          have hji0 : (0 : Int) ≤ (j : Int) := by omega
          have hji : (j : Int) < (n : Int) := by omega
          have hji2 : (j : Int) < (n2 : Int) := by omega
          have hji8 : (j : Int) < 8 := by omega
          have hown0 := Lib.hid hown
          have hE0 := Lib.hid hE
          rw [hform]
          have hform := Lib.hid hform
          clear hu hx hu2 hx2 hP hown
          go_wp2_with fail
          go_quiet ((go_at_call 34; refine Calls.quiet_of_same ((within_calls _ _ _ (by omega) (by omega) (by omega) (by omega)).mono fun _ _ h => ⟨h.1, h.2.symm⟩)))
          have y5 : -100 ≤ x2 % 201 - 100 ∧ x2 % 201 - 100 ≤ 100 := by omega
          have y6 := y5.1
          have y7 := y5.2
          clear y5 y3 y4
          generalize x % 40 = d at *
          generalize x2 % 201 - 100 = m at *
          have hS := Lib.hid (hP0.out.step y1 y2 y6 y7)
          have hv := Lib.hid (show (Te.and T (payT d m)).val = .iface 118 (.agg #[T.val, .iface 106 (.agg #[.int .i64 d, .iface 108 (.agg #[.iface 52 (.agg #[.int .i64 m]), .iface 96 (.agg #[.string ⟨#[117, 115, 100]⟩])])])]) from rfl)
          clear hc hc2 hb hb2 hwf hwf2
          by_cases hm0 : m = 0
          · have hz : (m != 0) = false := by simp [hm0]
            rw [if_pos hm0] at hS
            clear hm0
            go_wp2_with fail
            go_roundw
            case rel => exact ⟨j + 1, _, A1, C1, L, by omega, by omega, by omega, by go_num, by rw [hv.out, hform.out], rfl, hS.out, Ext.own ((by repeat' (first | (with_reducible exact Ext.refl _) | (with_reducible assumption) | (with_reducible refine Ext.alloc ?_ _) | (with_reducible refine Ext.drew ?_) | (with_reducible refine Ext.drewN ?_ _) | (with_reducible refine Ext.setCell ?_ (by first | exact Nat.le_refl _ | (simp; done) | (simp; omega) | omega) _) | (with_reducible refine Ext.trans ?_ (by assumption))))) hown0.out, hE0.out.trans ((by repeat' (first | (with_reducible exact Ext.refl _) | (with_reducible assumption) | (with_reducible refine Ext.alloc ?_ _) | (with_reducible refine Ext.drew ?_) | (with_reducible refine Ext.drewN ?_ _) | (with_reducible refine Ext.setCell ?_ (by first | exact Nat.le_refl _ | (simp; done) | (simp; omega) | omega) _) | (with_reducible refine Ext.trans ?_ (by assumption)))))⟩
            case measure => simp [intOf]; omega
          · have hz : (m != 0) = true := by simpa using hm0
            rw [if_neg hm0] at hS
            clear hm0
            have h63 : L.length + 1 ≤ maxLen := by unfold maxLen; omega
            have hby : (L.length + 1) * 32 ≤ 140737488355328 := by omega
            have hmx : (d < s ∧ Max.max s d = s) ∨ (s ≤ d ∧ Max.max s d = d) := by omega
            rcases hmx with ⟨g1, g2⟩ | ⟨g1, g2⟩
            all_goals
              rw [g2] at hS
              clear g2
              go_wp2_with (at_builtin; (refine wpList_app elemFl rfl _ _ rfl w.heap.size (.slice A1 L.length C1) L.length (flCells L) rfl ((Ext.own (Ext.drewN (Ext.refl _) _) hown0.out).alloc _) (some ⟨wr.heap.size, 0, none⟩) 1 1 (Fl.mk _ ⟨#[117, 115, 100]⟩ m).cells rfl (by exact Rd.newAt (by simp) rfl rfl) (by simp [Fl.cells, Value.oneCell']) h63 hby (by have := hE0.out.le; simp; omega) ?_); intro v1 w1 hown1 hg1 hat1)
              obtain ⟨A6, C6, rfl, h6, h7⟩ := own_form hown1
              have hE1 := Lib.hid ((show Ext w _ from (hE0.out.trans ((Ext.drewN (Ext.refl _) _).alloc _))).grown hg1 (fun k hk => (hown0.out.lt k hk).1))
              have e7 := Lib.hid (show ∀ x : Fl, (L ++ [x]).length = L.length + 1 from fun x => by simp)
              have hown6 := Lib.hid hown1
              clear hown1 hg1 hat1 h63 hby
              go_wp2_with fail
              go_roundw
              case rel => exact ⟨j + 1, _, A6, C6, _, by omega, by omega, by omega, by go_num, by rw [hv.out, hform.out], by rw [e7.out], hS.out, by rw [e7.out, flCells_app]; exact hown6.out, hE1.out⟩
              case measure => simp [intOf]; omega
    · have hstop : ((n : Int) ≤ (j : Int)) ∨ ((j : Int) < (n : Int) ∧ (n2 : Int) ≤ (j : Int)) ∨ ((j : Int) < (n : Int) ∧ (j : Int) < (n2 : Int) ∧ (8 : Int) ≤ (j : Int)) := by omega
      have H1 := fun p f c w' hW => cof_calls p f c [] [] ⟨#[116]⟩ T s w' hP.wf (by have := hP.nodes; omega) hW
      rw [hP.of hj8 m1 (by omega) ⟨#[116]⟩] at H1
      have K1 := fun w' b1 a1 c1 a2 c2 h1 h2 h3 h4 => ksameF_calls b1 w.heap.size L L a1 c1 a2 c2 w' h1 h2 (by omega) h3 h4
      rw [eqL_rfl flsame_rfl] at K1
      rw [hform] at H1 ⊢
      clear hP hlt hform hr hr2 hwf hwf2
      rcases hstop with g1 | ⟨g1, g2⟩ | ⟨g1, g2, g3⟩
      all_goals
        (go_wp2_with fail; (with_reducible refine (new_calls _).mono ?_); rintro e w' ⟨p, f, c3, rfl, hW, hx, h1, h2, h3⟩)
        (go_wp2_with fail; (with_reducible refine (H1 p f c3 _ hW).mono ?_); rintro e w' ⟨v1, v2, rfl, hf, hw, hy⟩)
        obtain ⟨A3, C3, rfl, _, hC3⟩ := own_form hf
        obtain ⟨A4, C4, rfl, _, _⟩ := own_form hw
        simp only [List.length_nil] at *
        have hown2 := (hx.trans hy).own hown
        go_wp2_with fail
        (with_reducible refine (K1 _ _ A3 C3 A1 C1 hf hown2 hC3 hC1m).mono ?_)
        rintro e w5 ⟨rfl, hk⟩
        clear hf hw hown2
        go_wp2_with (go_at_call 83; (with_reducible refine (wakes10_calls _).mono ?_); rintro e w' ⟨rfl, hv⟩)
        go_ret
        exact ⟨rfl, (by repeat' (first | (with_reducible exact Ext.refl _) | (with_reducible assumption) | (with_reducible refine Ext.alloc ?_ _) | (with_reducible refine Ext.drew ?_) | (with_reducible refine Ext.drewN ?_ _) | (with_reducible refine Ext.setCell ?_ (by first | exact Nat.le_refl _ | (simp; done) | (simp; omega) | omega) _) | (with_reducible refine Ext.trans ?_ (by assumption))))⟩

end Go.Proofs.Ytgjjngkmbplijaa
