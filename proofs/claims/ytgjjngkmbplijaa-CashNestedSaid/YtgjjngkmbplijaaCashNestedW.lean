/- The walk of the law CashNested. -/
import Derived.Test.YtgjjngkmbplijaaCash8
import Derived.Deep.RegionHeld3
namespace Go.Proofs.Ytgjjngkmbplijaa
open Go.RowKit
set_option linter.unusedSimpArgs false
set_option linter.unusedVariables false

theorem flsame_rfl (x : Fl) : x.same x = true := by obtain ⟨a, b, c⟩ := x; simp [Fl.same]
theorem nname_a : isName ⟨#[97]⟩ = true := by decide +kernel
theorem nname_t : isName ⟨#[116]⟩ = true := by decide +kernel
/-- Days in one another: what such a contract is. -/
structure NestP (T : Te) (D : Int) (j : Nat) : Prop where
  wf : T.wf
  formed : T.formed = true
  nodes : T.nodes = j + 1
  depth : T.depth = j + 1
  labels : T.labels = []
  form : ∃ k x, T.val = .iface k x
  lo : 0 ≤ D
  hi : D < 50
  walk : ∀ (F : FixL) (C : ChL) (id : ByteArray) (s k : Int) (st : CSt), 0 ≤ s → T.walk F C id s k st = (0, (st.1 ++ [⟨Max.max s D, ⟨#[117, 115, 100]⟩, k⟩], st.2))
theorem nest0 : NestP (.one ⟨#[117, 115, 100]⟩) 0 0 :=
  ⟨by show (⟨#[117, 115, 100]⟩ : ByteArray).size ≤ 1000; decide, usd_name, rfl, rfl, rfl, ⟨_, _, rfl⟩, by omega, by omega, fun F C id s k st hs => by
    simp only [Te.walk]
    rw [Int.max_eq_left hs]⟩
theorem NestP.step {T : Te} {D n : Int} {j : Nat} (h : NestP T D j) (h1 : 0 ≤ n) (h2 : n < 50) : NestP (.whn n T) (Max.max D n) (j + 1) :=
  ⟨⟨⟨by omega, by omega⟩, h.wf⟩, by simp only [Te.formed, h.formed, Bool.and_true]; exact (dayB_iff n).2 (by omega), by simp only [Te.nodes, h.nodes], by simp only [Te.depth, h.depth], h.labels, ⟨_, _, rfl⟩, by have := h.lo; omega, by have := h.hi; omega,
   fun F C id s k st hs => by
    simp only [Te.walk]
    rw [h.walk F C id _ k st (by omega), show Max.max (Max.max s n) D = Max.max s (Max.max D n) by omega]⟩
theorem NestP.of {T : Te} {D : Int} {j : Nat} (h : NestP T D j) (hj : j ≤ 4) (s : Int) (h1 : 0 ≤ s) (h2 : s ≤ 100) (id : ByteArray) : cashOf [] [] id T s = (0, ([⟨Max.max s D, ⟨#[117, 115, 100]⟩, 1⟩], [])) := by
  have hw := h.walk [] [] id s 1 ([], []) h1
  have hn := h.nodes
  have hd := h.depth
  rw [cashOf_ok (Te.checked_ok h.formed (by omega) (by omega) (by rw [h.labels]; rfl)) ((dayB_iff s).2 (by omega)) (by rw [hw]), hw]
  rfl
def nestO (T : Te) : Te := .whn 10 (.or ⟨#[97]⟩ T .zero)
def cN (ch : Int) : ChL := [] ++ [((⟨#[116]⟩, ⟨#[97]⟩), (0, ch))]
theorem NestP.ofO {T : Te} {D : Int} {j : Nat} (h : NestP T D j) (hj : j ≤ 4) (s ch : Int) (h1 : 0 ≤ s) (h2 : s ≤ 100) (h3 : 0 ≤ ch) : (nestO T).wf ∧ (nestO T).nodes ≤ 60 ∧ cashOf [] (cN ch) ⟨#[116]⟩ (nestO T) s = (0, ([⟨Max.max (Max.max s 10) (Max.max ch D), ⟨#[117, 115, 100]⟩, 1⟩], [])) := by
  have hl : (cN ch).lookup (⟨#[116]⟩, ⟨#[97]⟩) = some (0, ch) := by
    have e : (((⟨#[116]⟩ : ByteArray), (⟨#[97]⟩ : ByteArray)) == (⟨#[116]⟩, ⟨#[97]⟩)) = true := by decide
    simp [cN, List.lookup, e]
  have hn := h.nodes
  have hd := h.depth
  have hf : (nestO T).formed = true := by simp only [nestO, Te.formed, h.formed, nname_a, Bool.and_self, Bool.and_true]; decide
  have hw : (nestO T).walk [] (cN ch) ⟨#[116]⟩ s 1 ([], []) = (0, ([⟨Max.max (Max.max s 10) (Max.max ch D), ⟨#[117, 115, 100]⟩, 1⟩], [])) := by
    show (Te.or ⟨#[97]⟩ T .zero).walk [] (cN ch) ⟨#[116]⟩ (Max.max s 10) 1 ([], []) = _
    rw [or_0 hl rfl, h.walk _ _ _ _ _ _ (by omega)]
    simp only [List.nil_append]
    rw [show Max.max (Max.max (Max.max s 10) ch) D = Max.max (Max.max s 10) (Max.max ch D) by omega]
  refine ⟨⟨⟨by omega, by omega⟩, by show (⟨#[97]⟩ : ByteArray).size ≤ 1000; decide, h.wf, trivial⟩, by simp only [nestO, Te.nodes]; omega, ?_⟩
  rw [cashOf_ok (Te.checked_ok hf (by simp only [nestO, Te.nodes]; omega) (by simp only [nestO, Te.depth]; omega) (by simp only [nestO, Te.labels, h.labels]; rfl)) ((dayB_iff s).2 (by omega)) (by rw [hw]), hw]

set_option maxRecDepth 100000 in
set_option maxHeartbeats 12800000 in
theorem cashNested_walk (a : Option Addr) (n c : Nat) (l : List Int) (start chosen : Int) (w : World) (w0 : InInts w a n c l) (w1 : (Lit.int .i64 start).wf = true) (w2 : (Lit.int .i64 chosen).wf = true) :
    Calls Try.prog 27 #[.slice a n c, .int .i64 start, .int .i64 chosen] w fun e w' => e = .returned (.bool true) ∧ Ext w w' := by
  have b1 := i64_of w1
  have b2 := i64_of w2
  obtain ⟨hr, hnc, hcm, hwf⟩ := w0
  have m1 := within_lo start 30 (by omega)
  have m2 := within_hi start 30 (by omega)
  have m3 := within_lo chosen 60 (by omega)
  have m4 := within_hi chosen 60 (by omega)
  unfold maxLen at hcm
  have hlen : l.length = n := by have := hr.1; simpa [ints] using this
  clear w1 w2
  go_enter Try.func27, Try.ntmps27
  (go_wp2_with fail; (with_reducible refine (within_calls _ _ _ (by omega) (by omega) b1.1 b1.2).mono ?_); rintro e w' ⟨rfl, rfl⟩)
  (go_wp2_with fail; (with_reducible refine (within_calls _ _ _ (by omega) (by omega) b2.1 b2.2).mono ?_); rintro e w' ⟨rfl, rfl⟩)
  generalize start % 30 = s at *
  generalize chosen % 60 = ch at *
  clear b1 b2
  go_wp2_with fail
  go_loop [9, 7, 8] (fun i t d => ∃ (j : Nat) (T : Te) (D : Int), j ≤ n ∧ j ≤ 4 ∧ i = .int .i64 j ∧ t = T.val ∧ d = .int .i64 D ∧ NestP T D j) (fun i _ _ => 5 - (intOf i).toNat)
  case atStart => exact ⟨0, _, 0, by omega, by omega, rfl, rfl, rfl, nest0⟩
  case round =>
    obtain ⟨j, T, D, hj, hj4, rfl, rfl, rfl, hP⟩ := hrel
    have hP0 := Lib.hid hP
    obtain ⟨tk, tx, hform⟩ := hP.form
    have hlo := hP.lo
    have hhi := hP.hi
    by_cases hlt : j < n ∧ j < 4
    · obtain ⟨hlt1, hlt2⟩ := hlt
      obtain ⟨ad, u, rfl, hu, hc⟩ := hr.at1 hlt1
      simp only [ints, List.getElem?_map] at hu
      cases hx : l[j]? with
      | none => rw [hx] at hu; cases hu
      | some x =>
        rw [hx] at hu
        obtain rfl : u = .int .i64 x := by simpa using hu.symm
        have hb := i64_of (hwf x (List.mem_of_getElem? hx))
        have x1 := within_lo x 50 (by omega)
        have x2 := within_hi x 50 (by omega)
        have hji : (j : Int) < (n : Int) := by omega
        have hji4 : (j : Int) < 4 := by omega
        rw [hform]
        have hform := Lib.hid hform
        clear hu hx hlen hP
        (go_wp2_with fail; (with_reducible refine (within_calls _ _ _ (by omega) (by omega) hb.1 hb.2).mono ?_); rintro e w' ⟨rfl, rfl⟩)
        generalize x % 50 = y at *
        have hS := Lib.hid (hP0.out.step x1 x2)
        have hv := Lib.hid (show (Te.whn y T).val = .iface 106 (.agg #[.int .i64 y, T.val]) from rfl)
        have hmx : (D < y ∧ Max.max D y = y) ∨ (y ≤ D ∧ Max.max D y = D) := by omega
        rcases hmx with ⟨g1, g2⟩ | ⟨g1, g2⟩
        all_goals
          rw [g2] at hS
          clear g2
          go_wp2_with fail
          go_round
          case rel => exact ⟨j + 1, _, _, by omega, by omega, by go_num, by rw [hv.out, hform.out], rfl, hS.out⟩
          case measure => simp [intOf]; omega
    · have hstop : ((n : Int) ≤ (j : Int)) ∨ ((j : Int) < (n : Int) ∧ (4 : Int) ≤ (j : Int)) := by omega
      have E1 := hP.of hj4 s m1 (by omega) ⟨#[116]⟩
      obtain ⟨ow, on, E2⟩ := hP.ofO hj4 s ch m1 (by omega) m3
      have hnn := hP.nodes
      have H1 := fun p f c w' hW => cof_calls p f c [] [] ⟨#[116]⟩ T s w' hP.wf (by omega) hW
      have H2 := fun p f c w' hW => cof_calls p f c [] (cN ch) ⟨#[116]⟩ (nestO T) s w' ow (by omega) hW
      rw [E1] at H1
      rw [E2] at H2
      have hh : dayB ch = true := (dayB_iff ch).2 (by omega)
      have q2 := fun x W => eql_flow x x W
      simp only [flsame_rfl] at q2
      have f2 := held_flow.2
      unfold Fl.val at q2
      simp only [nestO, Te.val] at H2
      rw [hform] at H1 H2 ⊢
      clear E1 E2 ow on hP hlen hnn hwf hr hlt hform
      have hmx1 : (s < D ∧ Max.max s D = D) ∨ (D ≤ s ∧ Max.max s D = s) := by omega
      have hmx2 : (s < 10 ∧ Max.max s 10 = 10) ∨ (10 ≤ s ∧ Max.max s 10 = s) := by omega
      have hmx3 : (ch < D ∧ Max.max ch D = D) ∨ (D ≤ ch ∧ Max.max ch D = ch) := by omega
      rcases hstop with hst | ⟨hst1, hst⟩ <;> rcases hmx1 with ⟨l1, e1⟩ | ⟨l1, e1⟩ <;> rw [e1] at H1 <;> clear e1
      all_goals
        (go_wp2_with fail; (with_reducible refine (new_own (Ext.refl w)).mono ?_); rintro e w' ⟨p, f, c2, rfl, hO, hx⟩)
        clear hx
        (go_wp2_with fail; (with_reducible refine (H1 p f c2 _ hO.wld).mono ?_); rintro e w' ⟨v1, v2, rfl, hf, hw, hy⟩)
        obtain ⟨A1, C1, rfl, _, _⟩ := own_form hf
        obtain ⟨A2, C2, rfl, _, _⟩ := own_form hw
        obtain ⟨g, rfl, r0, r1, r2⟩ := fl_at hf (j := 0) rfl (by simp)
        simp only [List.length_cons, List.length_nil, Nat.zero_add, Nat.zero_mul] at *
        have hO1 := hO.keep hy
        have gl := World.block_lt_of_cell? _ _ r0
        clear hO hf hw hy
        have hcl := hO1.wld.lts.2.2
        obtain ⟨wo, rfl⟩ : ∃ wo : World, wo = w' := ⟨_, rfl⟩
        (go_wp2_with fail; (with_reducible refine (ch_ok ⟨#[116]⟩ ⟨#[97]⟩ 0 ch (hO1.keep ((by repeat' (first | (with_reducible exact Ext.refl _) | (with_reducible assumption) | (with_reducible refine Ext.alloc ?_ _) | (with_reducible refine Ext.drew ?_) | (with_reducible refine Ext.drewN ?_ _) | (with_reducible refine Ext.setCell ?_ (by first | exact Nat.le_refl _ | (simp; done) | (simp; omega) | omega) _) | (with_reducible refine Ext.trans ?_ (by assumption)))))) nname_t nname_a (by decide) hh rfl).mono ?_); rintro e w' ⟨rfl, hO2, hg⟩)
        have hb := (hg.block wo.heap.size (by simp) (by intro e; injection e with e; omega)).trans (heap_new wo _)
        obtain ⟨z, zf, zl⟩ := obj_cells hb
        have z0 := z 0 _ rfl
        have z1 := z 1 _ rfl
        have hE2 := hO2.ext
        clear hg hO1 z hb r0 r1 r2 gl
        have hmx4 : (Max.max s 10 < Max.max ch D ∧ Max.max (Max.max s 10) (Max.max ch D) = Max.max ch D) ∨ (Max.max ch D ≤ Max.max s 10 ∧ Max.max (Max.max s 10) (Max.max ch D) = Max.max s 10) := by omega
        rcases hmx2 with ⟨l2, e2⟩ | ⟨l2, e2⟩ <;> rcases hmx3 with ⟨l3, e3⟩ | ⟨l3, e3⟩ <;> rcases hmx4 with ⟨l4, e4⟩ | ⟨l4, e4⟩ <;> rw [e2, e3] at l4 <;> rw [e4] at H2 <;> (first | rw [e3] at H2 | rw [e2] at H2) <;> clear e2 e3 e4
        all_goals (try (exfalso; omega))
        all_goals
          (go_wp2_with fail; (with_reducible refine (H2 p f c2 _ hO2.wld).mono ?_); rintro e w' ⟨v1, v2, rfl, hf, hw, hy⟩)
          obtain ⟨A5, C5, rfl, _, _⟩ := own_form hf
          obtain ⟨A6, C6, rfl, _, _⟩ := own_form hw
          obtain ⟨g7, rfl, s0, s1, s2⟩ := fl_at hf (j := 0) rfl (by simp)
          simp only [List.length_cons, List.length_nil, Nat.zero_add, Nat.zero_mul] at *
          clear hf hw
          go_wp2_with (go_at_call 83; (with_reducible refine (wakes10_calls _).mono ?_); rintro e w' ⟨rfl, hv⟩)
          go_ret
          exact ⟨rfl, (by repeat' (first | (with_reducible exact Ext.refl _) | (with_reducible assumption) | (with_reducible refine Ext.alloc ?_ _) | (with_reducible refine Ext.drew ?_) | (with_reducible refine Ext.drewN ?_ _) | (with_reducible refine Ext.setCell ?_ (by first | exact Nat.le_refl _ | (simp; done) | (simp; omega) | omega) _) | (with_reducible refine Ext.trans ?_ (by assumption))))⟩

end Go.Proofs.Ytgjjngkmbplijaa
