/- The walk of the law CashChoices. -/
import Derived.Test.YtgjjngkmbplijaaCash8
import Derived.Deep.RegionHeld3
namespace Go.Proofs.Ytgjjngkmbplijaa
open Go.RowKit
set_option linter.unusedSimpArgs false
set_option linter.unusedVariables false

theorem name_a : isName ⟨#[97]⟩ = true := by decide +kernel
theorem name_u : isName ⟨#[117]⟩ = true := by decide +kernel
theorem name_t : isName ⟨#[116]⟩ = true := by decide +kernel
theorem Wa.same_rfl (x : Wa) : x.same x = true := by obtain ⟨a, b, c, d, e⟩ := x; simp [Wa.same]
theorem Fl.same_rfl (x : Fl) : x.same x = true := by obtain ⟨a, b, c⟩ := x; simp [Fl.same]
def choT (give neg : Bool) : Te :=
  let o := Te.or ⟨#[97]⟩ (.one ⟨#[117, 115, 100]⟩) (.scale (.const 3) (.one ⟨#[101, 117, 114]⟩))
  let n := if neg = true then Te.scale (.const (-2)) o else o
  if give = true then Te.give n else n
def chK (give neg : Bool) : Int := (if give = true then -1 else 1) * (if neg = true then -2 else 1)
def chS (give neg : Bool) : Int := if 0 < chK give neg then 0 else 1
theorem choT_facts (give neg : Bool) : (choT give neg).wf ∧ (choT give neg).checked = 0 ∧ (choT give neg).nodes ≤ 60 := by
  have s1 : (⟨#[97]⟩ : ByteArray).size ≤ 1000 := by decide
  have s2 : (⟨#[117, 115, 100]⟩ : ByteArray).size ≤ 1000 := by decide
  have s3 : (⟨#[101, 117, 114]⟩ : ByteArray).size ≤ 1000 := by decide
  have h : (Te.or ⟨#[97]⟩ (.one ⟨#[117, 115, 100]⟩) (.scale (.const 3) (.one ⟨#[101, 117, 114]⟩))).wf := ⟨s1, s2, ⟨by omega, by omega⟩, s3⟩
  cases give <;> cases neg
  · exact ⟨h, by decide +kernel, by decide⟩
  · exact ⟨⟨⟨by omega, by omega⟩, h⟩, by decide +kernel, by decide⟩
  · exact ⟨h, by decide +kernel, by decide⟩
  · exact ⟨⟨⟨by omega, by omega⟩, h⟩, by decide +kernel, by decide⟩
theorem mul_c {k a : Int} (hk : -1000 ≤ k ∧ k ≤ 1000) (ha : -1000 ≤ a ∧ a ≤ 1000) (h : -1000000 ≤ k * a ∧ k * a ≤ 1000000) : mulS k a = (k * a, true) :=
  mulS_yes (Vd_of (by omega) (by omega)) (Vd_of (by omega) (by omega)) (Vd_of (by omega) (by omega))
theorem choT_walk (give neg : Bool) (C : ChL) (d : Int) : (choT give neg).walk [] C ⟨#[116]⟩ d 1 ([], []) = (Te.or ⟨#[97]⟩ (.one ⟨#[117, 115, 100]⟩) (.scale (.const 3) (.one ⟨#[101, 117, 114]⟩))).walk [] C ⟨#[116]⟩ d (chK give neg) ([], []) := by
  have e1 : mulS 1 (-2) = (-2, true) := by decide
  have e2 : mulS (-1) (-2) = (2, true) := by decide
  cases give <;> cases neg
  · rfl
  · show (Te.scale (.const (-2)) _).walk [] C _ d 1 ([], []) = _
    rw [sk_go (by decide) (by rw [e1]) (by rw [e1]; decide), e1]; rfl
  · rfl
  · show (Te.scale (.const (-2)) _).walk [] C _ d (-1) ([], []) = _
    rw [sk_go (by decide) (by rw [e2]) (by rw [e2]; decide), e2]; rfl
theorem choT_wait (give neg : Bool) (C : ChL) (d : Int) (hd : dayB d = true) (hC : C.lookup (⟨#[116]⟩, ⟨#[97]⟩) = none) :
    cashOf [] C ⟨#[116]⟩ (choT give neg) d = (0, ([], [⟨true, ⟨#[]⟩, ⟨#[97]⟩, d, chS give neg⟩])) := by
  have hc := (choT_facts give neg).2.1
  have hw := choT_walk give neg C d
  have e : (Te.or ⟨#[97]⟩ (.one ⟨#[117, 115, 100]⟩) (.scale (.const 3) (.one ⟨#[101, 117, 114]⟩))).walk [] C ⟨#[116]⟩ d (chK give neg) ([], []) = (0, ([], [⟨true, ⟨#[]⟩, ⟨#[97]⟩, d, chS give neg⟩])) := by
    simp only [Te.walk, hC]; rfl
  rw [e] at hw
  rw [cashOf_ok hc hd (by rw [hw]), hw]
theorem choT_pay (give neg : Bool) (C : ChL) (d pick when : Int) (hd : dayB d = true) (hp : pick = 0 ∨ pick = 1) (hC : C.lookup (⟨#[116]⟩, ⟨#[97]⟩) = some (pick, when)) :
    cashOf [] C ⟨#[116]⟩ (choT give neg) d = (0, ([if pick = 0 then ⟨Max.max d when, ⟨#[117, 115, 100]⟩, chK give neg⟩ else ⟨Max.max d when, ⟨#[101, 117, 114]⟩, 3 * chK give neg⟩], [])) := by
  have hc := (choT_facts give neg).2.1
  have hw := choT_walk give neg C d
  have hk : chK give neg = 1 ∨ chK give neg = -1 ∨ chK give neg = 2 ∨ chK give neg = -2 := by cases give <;> cases neg <;> decide
  have e : (Te.or ⟨#[97]⟩ (.one ⟨#[117, 115, 100]⟩) (.scale (.const 3) (.one ⟨#[101, 117, 114]⟩))).walk [] C ⟨#[116]⟩ d (chK give neg) ([], []) = (0, ([if pick = 0 then ⟨Max.max d when, ⟨#[117, 115, 100]⟩, chK give neg⟩ else ⟨Max.max d when, ⟨#[101, 117, 114]⟩, 3 * chK give neg⟩], [])) := by
    generalize chK give neg = k at *
    rcases hp with rfl | rfl
    · rw [or_0 hC rfl]; rfl
    · rw [or_1 hC (by decide)]
      have e3 : mulS k 3 = (k * 3, true) := mul_c (by omega) (by omega) (by omega)
      rw [sk_go (by decide) (by rw [e3]) (by rw [e3]; simp only; omega), e3, Int.mul_comm k 3]; rfl
  rw [e] at hw
  rw [cashOf_ok hc hd (by rw [hw]), hw]

def cU (pick when : Int) : ChL := [] ++ [((⟨#[117]⟩, ⟨#[97]⟩), (pick, when))]
def cT (pick when : Int) : ChL := cU pick when ++ [((⟨#[116]⟩, ⟨#[97]⟩), (pick, when))]
theorem cU_no (pick when : Int) : (cU pick when).lookup (⟨#[116]⟩, ⟨#[97]⟩) = none := by
  have e : (((⟨#[116]⟩ : ByteArray), (⟨#[97]⟩ : ByteArray)) == (⟨#[117]⟩, ⟨#[97]⟩)) = false := by decide
  simp [cU, List.lookup, e]
theorem cT_yes (pick when : Int) : (cT pick when).lookup (⟨#[116]⟩, ⟨#[97]⟩) = some (pick, when) := by
  have e : (((⟨#[116]⟩ : ByteArray), (⟨#[97]⟩ : ByteArray)) == (⟨#[117]⟩, ⟨#[97]⟩)) = false := by decide
  simp [cT, cU, List.lookup, e]

set_option maxRecDepth 100000 in
set_option maxHeartbeats 12800000 in
theorem cashChoices_walk (day when pick : Int) (give neg : Bool) (w : World) (w0 : (Lit.int .i64 day).wf = true) (w1 : (Lit.int .i64 when).wf = true) (w2 : (Lit.int .i64 pick).wf = true) :
    Calls Try.prog 26 #[.int .i64 day, .int .i64 when, .int .i64 pick, .bool give, .bool neg] w fun e w' => e = .returned (.bool true) ∧ Ext w w' := by
  have b1 := i64_of w0
  have b2 := i64_of w1
  have b3 := i64_of w2
  have m1 := within_lo day 50 (by omega)
  have m2 := within_hi day 50 (by omega)
  have m3 := within_lo when 100 (by omega)
  have m4 := within_hi when 100 (by omega)
  have m5 := within_lo pick 2 (by omega)
  have m6 := within_hi pick 2 (by omega)
  clear w0 w1 w2
  go_enter Try.func26, Try.ntmps26
  (go_wp2_with fail; (with_reducible refine (within_calls _ _ _ (by omega) (by omega) b1.1 b1.2).mono ?_); rintro e w' ⟨rfl, rfl⟩)
  (go_wp2_with fail; (with_reducible refine (within_calls _ _ _ (by omega) (by omega) b2.1 b2.2).mono ?_); rintro e w' ⟨rfl, rfl⟩)
  (go_wp2_with fail; (with_reducible refine (within_calls _ _ _ (by omega) (by omega) b3.1 b3.2).mono ?_); rintro e w' ⟨rfl, rfl⟩)
  generalize day % 50 = d0 at *
  generalize when % 100 = h0 at *
  generalize pick % 2 = p0 at *
  clear b1 b2 b3
  have hd : dayB d0 = true := (dayB_iff d0).2 (by omega)
  have hh : dayB h0 = true := (dayB_iff h0).2 (by omega)
  have hp : p0 = 0 ∨ p0 = 1 := by omega
  have hs : sideB p0 = true := (sideB_iff p0).2 hp
  have hmx : (d0 < h0 ∧ Max.max d0 h0 = h0) ∨ (h0 ≤ d0 ∧ Max.max d0 h0 = d0) := by omega
  obtain ⟨t1, t2, t3⟩ := choT_facts give neg
  have H1 := fun p f c w' hW => cof_calls p f c [] [] ⟨#[116]⟩ (choT give neg) d0 w' t1 (by omega) hW
  have H2 := fun p f c w' hW => cof_calls p f c [] (cU p0 h0) ⟨#[116]⟩ (choT give neg) d0 w' t1 (by omega) hW
  have H3 := fun p f c w' hW => cof_calls p f c [] (cT p0 h0) ⟨#[116]⟩ (choT give neg) d0 w' t1 (by omega) hW
  rw [choT_wait give neg [] d0 hd rfl] at H1
  rw [choT_wait give neg (cU p0 h0) d0 hd (cU_no p0 h0)] at H2
  rw [choT_pay give neg (cT p0 h0) d0 p0 h0 hd hp (cT_yes p0 h0)] at H3
  have q1 := fun W => eql_wait ⟨true, ⟨#[]⟩, ⟨#[97]⟩, d0, chS give neg⟩ ⟨true, ⟨#[]⟩, ⟨#[97]⟩, d0, chS give neg⟩ W
  rw [Wa.same_rfl] at q1
  have q2 := fun x W => eql_flow x x W
  simp only [Fl.same_rfl] at q2
  have f2 := held_flow.2
  have f3 := held_wait.2
  have hlk := Lib.hid (show ((([] : ChL) ++ [(((⟨#[117]⟩ : ByteArray), (⟨#[97]⟩ : ByteArray)), (p0, h0))]).lookup ((⟨#[116]⟩ : ByteArray), (⟨#[97]⟩ : ByteArray))).isSome = false from congrArg Option.isSome (cU_no p0 h0))
  clear t1 t2 t3
  unfold Wa.val at q1
  unfold Fl.val at q2
  rcases hmx with ⟨g1, g2⟩ | ⟨g1, g2⟩ <;> rw [g2] at H3 <;> clear g2
  all_goals
    cases give <;> cases neg
    all_goals
      simp only [choT, chK, chS, Te.val, Ob.val, if_true, if_false, Bool.false_eq_true] at H1 H2 H3 q1
      rcases hp with rfl | rfl
      all_goals
        simp only [↓reduceIte, Int.reduceNeg, Int.reduceMul, Int.reduceLT, Int.reduceEq, Int.one_mul, Int.mul_one] at H1 H2 H3 q1
        (go_wp2_with fail; (with_reducible refine (new_own (Ext.refl w)).mono ?_); rintro e w' ⟨p, f, c, rfl, hO, hx⟩)
        clear hx
        (go_wp2_with fail; (with_reducible refine (H1 p f c _ hO.wld).mono ?_); rintro e w' ⟨v1, v2, rfl, hf, hw, hy⟩)
        obtain ⟨A1, C1, rfl, _, _⟩ := own_form hf
        obtain ⟨A2, C2, rfl, _, _⟩ := own_form hw
        obtain ⟨g, rfl, r0, r1, r2, r3, r4⟩ := wa_at hw (j := 0) rfl (by simp)
        simp only [List.length_cons, List.length_nil, Nat.zero_add, Nat.zero_mul] at *
        have hO1 := hO.keep hy
        clear hO hf hw hy
        (go_wp2_with fail; (with_reducible refine (ch_ok ⟨#[117]⟩ ⟨#[97]⟩ _ _ hO1 name_u name_a hs hh rfl).mono ?_); rintro e w' ⟨rfl, hO2, hg⟩)
        clear hg hO1
        (go_wp2_with fail; (with_reducible refine (H2 p f c _ hO2.wld).mono ?_); rintro e w' ⟨v1, v2, rfl, hf, hw, hy⟩)
        obtain ⟨A3, C3, rfl, _, _⟩ := own_form hf
        obtain ⟨A4, C4, rfl, _, _⟩ := own_form hw
        simp only [List.length_cons, List.length_nil, Nat.zero_add, Nat.zero_mul] at *
        have hO3 := hO2.keep hy
        clear hO2 hf hw hy
        (go_wp2_with fail; (with_reducible refine (ch_ok ⟨#[116]⟩ ⟨#[97]⟩ _ _ hO3 name_t name_a hs hh hlk.out).mono ?_); rintro e w' ⟨rfl, hO4, hg⟩)
        clear hg hO3
        (go_wp2_with fail; (with_reducible refine (H3 p f c _ hO4.wld).mono ?_); rintro e w' ⟨v1, v2, rfl, hf, hw, hy⟩)
        have hO5 := hO4.keep hy
        obtain ⟨A5, C5, rfl, _, _⟩ := own_form hf
        obtain ⟨A6, C6, rfl, _, _⟩ := own_form hw
        obtain ⟨g7, rfl, s0, s1, s2⟩ := fl_at hf (j := 0) rfl (by simp)
        simp only [List.length_cons, List.length_nil, Nat.zero_add, Nat.zero_mul] at *
        have hE := hO5.ext
        have g7l := World.block_lt_of_cell? _ _ s0
        clear hO5 hO4 hf hw hy
        go_wp2_with fail
        have g7l2 : g7 < w'.heap.size + 1 + 1 := by omega
        go_region_held3 (fun W => W.cell? ⟨g7, 0, none⟩ = w'.cell? ⟨g7, 0, none⟩ ∧ W.cell? ⟨g7, 1, none⟩ = w'.cell? ⟨g7, 1, none⟩ ∧ W.cell? ⟨g7, 2, none⟩ = w'.cell? ⟨g7, 2, none⟩ ∧ W.cell? ⟨w'.heap.size + 1, 0, none⟩ = w'.cell? ⟨g7, 0, none⟩ ∧ W.cell? ⟨w'.heap.size + 1, 1, none⟩ = w'.cell? ⟨g7, 1, none⟩ ∧ W.cell? ⟨w'.heap.size + 1, 2, none⟩ = w'.cell? ⟨g7, 2, none⟩) (go_keep)
          (first | (go_at_call 83; (with_reducible refine (wakes10_calls _).mono ?_); rintro e w5 ⟨rfl, hv⟩; obtain ⟨hc, hf⟩ := hv.cells) | fail)
        go_wp2
        go_ret
        exact ⟨rfl, (by repeat' (first | (with_reducible exact Ext.refl _) | (with_reducible assumption) | (with_reducible refine Ext.alloc ?_ _) | (with_reducible refine Ext.drew ?_) | (with_reducible refine Ext.drewN ?_ _) | (with_reducible refine Ext.setCell ?_ (by first | exact Nat.le_refl _ | (simp; done) | (simp; omega) | omega) _) | (with_reducible refine Ext.trans ?_ (by assumption))))⟩

end Go.Proofs.Ytgjjngkmbplijaa
