/- The walk of the law ValueSums. -/
import Derived.Test.YtgjjngkmbplijaaValueOverW
namespace Go.Proofs.Ytgjjngkmbplijaa
open Go.RowKit
set_option linter.unusedSimpArgs false
set_option linter.unusedVariables false

def byB : ByteArray := ⟨#[121]⟩
theorem name_y : isName ⟨#[121]⟩ = true := by decide +kernel
def sumsTab (a b c : Int) : List (Ob × Int) :=
  [(.fix bx, a), (.const c, c), (.add (.fix bx) (.fix byB), a + b), (.mul (.fix bx) (.const c), a * c), (.neg (.fix byB), -b), (.max (.fix bx) (.fix byB), Max.max a b),
   (.add (.mul (.fix bx) (.fix byB)) (.neg (.max (.const c) (.fix bx))), a * b - Max.max c a)]
def sumsF (day a b : Int) : FixL := [((bx, day), a), ((byB, day), b)]
theorem look_x (day a b : Int) : (sumsF day a b).lookup (bx, day) = some a := by simp [sumsF, List.lookup]
theorem look_y (day a b : Int) : (sumsF day a b).lookup (byB, day) = some b := by
  have e : ((byB, day) == (bx, day)) = false := by
    show (byB == bx && day == day) = false
    rw [show (byB == bx) = false by decide]; rfl
  simp [sumsF, List.lookup, e]
theorem look_x' (day a b : Int) : (sumsF day a b).lookup (bx, day + 1) = none := by
  have h : (day + 1 == day) = false := by simp; omega
  have e1 : ((bx, day + 1) == (bx, day)) = false := by
    show (bx == bx && day + 1 == day) = false
    rw [h, Bool.and_false]
  have e2 : ((bx, day + 1) == (byB, day)) = false := by
    show (bx == byB && day + 1 == day) = false
    rw [h, Bool.and_false]
  simp [sumsF, List.lookup, e1, e2]
theorem look_y' (day a b : Int) : (sumsF day a b).lookup (byB, day + 1) = none := by
  have h : (day + 1 == day) = false := by simp; omega
  have e1 : ((byB, day + 1) == (bx, day)) = false := by
    show (byB == bx && day + 1 == day) = false
    rw [h, Bool.and_false]
  have e2 : ((byB, day + 1) == (byB, day)) = false := by
    show (byB == byB && day + 1 == day) = false
    rw [h, Bool.and_false]
  simp [sumsF, List.lookup, e1, e2]
def Small (a : Int) : Prop := -1000 ≤ a ∧ a ≤ 1000
theorem small_mul {a b : Int} (h : Small a) (h' : Small b) : -1000000 ≤ a * b ∧ a * b ≤ 1000000 := by
  obtain ⟨h1, h2⟩ := h
  obtain ⟨h3, h4⟩ := h'
  have e : (a * b).natAbs = a.natAbs * b.natAbs := Int.natAbs_mul a b
  have : a.natAbs * b.natAbs ≤ 1000 * 1000 := Nat.mul_le_mul (by omega) (by omega)
  omega
theorem pair_add {a b : Int} (h1 : Vd a = true) (h2 : Vd b = true) (h3 : Vd (a + b) = true) : pairK addS ⟨a, true, 0⟩ ⟨b, true, 0⟩ = ⟨a + b, true, 0⟩ := by
  rw [pairK_ok rfl rfl rfl rfl]; simp only [addS, h1, h2, h3, and_self, if_true, toldK_yes]
theorem pair_mul {a b : Int} (h1 : Vd a = true) (h2 : Vd b = true) (h3 : Vd (a * b) = true) : pairK mulS ⟨a, true, 0⟩ ⟨b, true, 0⟩ = ⟨a * b, true, 0⟩ := by
  rw [pairK_ok rfl rfl rfl rfl]; simp only [mulS, h1, h2, h3, and_self, if_true, toldK_yes]
theorem pair_max {a b : Int} : pairK maxS ⟨a, true, 0⟩ ⟨b, true, 0⟩ = ⟨Max.max a b, true, 0⟩ := by
  rw [pairK_ok rfl rfl rfl rfl]; rfl
theorem neg_k {a : Int} (h1 : Vd a = true) : negK ⟨a, true, 0⟩ = ⟨-a, true, 0⟩ := by
  rw [negK_ok rfl rfl]; simp only [negS_yes h1, toldK_yes]
theorem pair_no (put : Int → Int → Int × Bool) (a b : Int) (x y : Bool) (h : x = false ∨ y = false) : pairK put ⟨a, x, 0⟩ ⟨b, y, 0⟩ = ⟨0, false, 0⟩ := pairK_e2 rfl (.inr h)
theorem neg_no (a : Int) : negK ⟨a, false, 0⟩ = ⟨0, false, 0⟩ := negK_no (.inr rfl)
theorem sums_now (day a b c : Int) (ha : Small a) (hb : Small b) (hc : Small c) : ∀ x ∈ sumsTab a b c, x.1.wf ∧ x.1.checked = 0 ∧ x.1.nodes ≤ 60 ∧ x.1.ofV (sumsF day a b) day = ⟨x.2, true, 0⟩ ∧
    (x.1.ofV (sumsF day a b) (day + 1)).e = 0 ∧ (x.1.ofV (sumsF day a b) (day + 1)).is = decide ((x.1.needs (sumsF day a b) (day + 1)).length = 0) ∧ -2000000 ≤ x.2 ∧ x.2 ≤ 2000000 := by
  have hab := small_mul ha hb
  have hac := small_mul ha hc
  obtain ⟨a1, a2⟩ := ha
  obtain ⟨b1, b2⟩ := hb
  obtain ⟨c1, c2⟩ := hc
  have va : Vd a = true := Vd_of (by omega) (by omega)
  have vb : Vd b = true := Vd_of (by omega) (by omega)
  have vc : Vd c = true := Vd_of (by omega) (by omega)
  have vm : Vd (Max.max c a) = true := Vd_of (by omega) (by omega)
  have vmn : Vd (-(Max.max c a)) = true := Vd_of (by omega) (by omega)
  have vab : Vd (a * b) = true := Vd_of (by omega) (by omega)
  have vac : Vd (a * c) = true := Vd_of (by omega) (by omega)
  have vs : Vd (a + b) = true := Vd_of (by omega) (by omega)
  have vl : Vd (a * b + -(Max.max c a)) = true := Vd_of (by omega) (by omega)
  have sx : bx.size ≤ 1000 := by decide
  have sy : byB.size ≤ 1000 := by decide
  have nx : isName bx = true := name_x
  have ny : isName byB = true := name_y
  intro x hx
  simp only [sumsTab, List.mem_cons, List.not_mem_nil, or_false] at hx
  have nf : ∀ (l : List ByteArray), (∀ s ∈ l, s = bx ∨ s = byB) → notFixed (sumsF day a b) (day + 1) l = l := by
    intro l hl
    unfold notFixed
    rw [List.filter_eq_self]
    intro s hs
    rcases hl s hs with rfl | rfl
    · rw [look_x']; rfl
    · rw [look_y']; rfl
  have key : ∀ (o : Ob) (n : Int), o.wf → o.formed = true → o.nodes ≤ 60 → o.depth ≤ 12 → o.value (sumsF day a b) day = ⟨n, true, 0⟩ → (∃ b', o.value (sumsF day a b) (day + 1) = ⟨if b' then c else 0, b', 0⟩ ∧ ∃ N, o.names = N ∧ (∀ s ∈ N, s = bx ∨ s = byB) ∧ b' = decide (N.length = 0)) →
      -2000000 ≤ n → n ≤ 2000000 → o.wf ∧ o.checked = 0 ∧ o.nodes ≤ 60 ∧ o.ofV (sumsF day a b) day = ⟨n, true, 0⟩ ∧ (o.ofV (sumsF day a b) (day + 1)).e = 0 ∧ (o.ofV (sumsF day a b) (day + 1)).is = decide ((o.needs (sumsF day a b) (day + 1)).length = 0) ∧ -2000000 ≤ n ∧ n ≤ 2000000 := by
    intro o n h1 h2 h3 h4 h5 ⟨b', h6, N, hN, hN2, h7⟩ h8 h9
    have hck := checked_ok h2 h3 h4
    refine ⟨h1, hck, h3, by rw [ofV_ok _ _ h2 h3 h4, h5], by rw [ofV_ok _ _ h2 h3 h4, h6], ?_, h8, h9⟩
    rw [ofV_ok _ _ h2 h3 h4, h6]
    unfold Ob.needs
    rw [if_pos hck, hN, nf N hN2]
    exact h7
  have hX : ∀ s ∈ [bx], s = bx ∨ s = byB := by simp
  have hY : ∀ s ∈ [byB], s = bx ∨ s = byB := by simp
  have hXY : ∀ s ∈ [bx, byB], s = bx ∨ s = byB := by simp
  have x1 := look_x day a b
  have y1 := look_y day a b
  have x2 := look_x' day a b
  have y2 := look_y' day a b
  rcases hx with rfl | rfl | rfl | rfl | rfl | rfl | rfl
  · refine key (.fix bx) _ sx nx (by simp [Ob.nodes]) (by simp [Ob.depth]) (by simp only [Ob.value, x1]; rfl) ⟨false, by simp only [Ob.value, x2]; rfl, [bx], rfl, hX, rfl⟩ (by omega) (by omega)
  · refine key (.const c) _ ⟨by omega, by omega⟩ vc (by simp [Ob.nodes]) (by simp [Ob.depth]) rfl ⟨true, rfl, [], rfl, by simp, rfl⟩ (by omega) (by omega)
  · refine key (.add (.fix bx) (.fix byB)) _ ⟨sx, sy⟩ (by simp [Ob.formed, nx, ny]) (by simp [Ob.nodes]) (by simp [Ob.depth]) ?_ ⟨false, ?_, [bx, byB], by simp only [Ob.names]; decide, hXY, rfl⟩ (by omega) (by omega)
    · simp only [Ob.value, x1, y1, Option.getD, Option.isSome]; exact pair_add va vb vs
    · simp only [Ob.value, x2, y2, Option.getD, Option.isSome]; exact pair_no _ _ _ _ _ (.inl rfl)
  · refine key (.mul (.fix bx) (.const c)) _ ⟨sx, by omega, by omega⟩ (by simp [Ob.formed, nx, vc]) (by simp [Ob.nodes]) (by simp [Ob.depth]) ?_ ⟨false, ?_, [bx], by simp only [Ob.names]; decide, hX, rfl⟩ (by omega) (by omega)
    · simp only [Ob.value, x1, y1, Option.getD, Option.isSome]; exact pair_mul va vc vac
    · simp only [Ob.value, x2, y2, Option.getD, Option.isSome]; exact pair_no _ _ _ _ _ (.inl rfl)
  · refine key (.neg (.fix byB)) _ sy (by simp [Ob.formed, ny]) (by simp [Ob.nodes]) (by simp [Ob.depth]) ?_ ⟨false, ?_, [byB], by simp only [Ob.names]; decide, hY, rfl⟩ (by omega) (by omega)
    · simp only [Ob.value, x1, y1, Option.getD, Option.isSome]; exact neg_k vb
    · simp only [Ob.value, x2, y2, Option.getD, Option.isSome]; exact neg_no _
  · refine key (.max (.fix bx) (.fix byB)) _ ⟨sx, sy⟩ (by simp [Ob.formed, nx, ny]) (by simp [Ob.nodes]) (by simp [Ob.depth]) ?_ ⟨false, ?_, [bx, byB], by simp only [Ob.names]; decide, hXY, rfl⟩ (by omega) (by omega)
    · simp only [Ob.value, x1, y1, Option.getD, Option.isSome]; exact pair_max
    · simp only [Ob.value, x2, y2, Option.getD, Option.isSome]; exact pair_no _ _ _ _ _ (.inl rfl)
  · refine key (.add (.mul (.fix bx) (.fix byB)) (.neg (.max (.const c) (.fix bx)))) _ ⟨⟨sx, sy⟩, ⟨by omega, by omega⟩, sx⟩ (by simp [Ob.formed, nx, ny, vc]) (by simp [Ob.nodes]) (by simp [Ob.depth]) ?_ ⟨false, ?_, [bx, byB], by simp only [Ob.names]; decide, hXY, rfl⟩ (by omega) (by omega)
    · simp only [Ob.value, x1, y1, Option.getD, Option.isSome]
      rw [pair_mul va vb vab, pair_max, neg_k vm, pair_add vab vmn vl]
      rfl
    · simp only [Ob.value, x2, y2, Option.getD, Option.isSome]
      rw [pair_no mulS _ _ _ _ (.inl rfl), pair_no maxS _ _ _ _ (.inr rfl), neg_no, pair_no _ _ _ _ _ (.inl rfl)]
      rfl

def tabCells (l : List (Ob × Int)) : List Value := l.flatMap fun x => [x.1.val, .int .i64 x.2]
theorem tabCells_len (l : List (Ob × Int)) : (tabCells l).length = l.length * 2 := by
  induction l with
  | nil => rfl
  | cons x r ih => simp only [tabCells, List.flatMap_cons, List.length_append, List.length_cons, List.length_nil] at *; omega
theorem tabCells_at {l : List (Ob × Int)} {j : Nat} {x : Ob × Int} (h : l[j]? = some x) : (tabCells l)[j * 2]? = some x.1.val ∧ (tabCells l)[j * 2 + 1]? = some (.int .i64 x.2) := by
  induction l generalizing j with
  | nil => simp at h
  | cons y r ih =>
    cases j with
    | zero => simp at h; subst h; exact ⟨rfl, rfl⟩
    | succ j =>
      simp only [List.getElem?_cons_succ] at h
      obtain ⟨h1, h2⟩ := ih h
      have e : ∀ k, (tabCells (y :: r))[k + 2]? = (tabCells r)[k]? := fun k => by simp [tabCells]
      rw [show (j + 1) * 2 = j * 2 + 2 by omega, show j * 2 + 2 + 1 = (j * 2 + 1) + 2 by omega, e, e]
      exact ⟨h1, h2⟩
/-- The row of an element of two cells. -/
theorem Rd.at2 {w : World} {ad : Addr} {n : Nat} {l : List (Ob × Int)} (h : Rd w 2 (some ad) n (tabCells l)) {j : Nat} {x : Ob × Int} (hx : l[j]? = some x) :
    w.cell? (ad.add (j * 2)) = some x.1.val ∧ w.cell? (ad.add (j * 2 + 1)) = some (.int .i64 x.2) := by
  obtain ⟨h1, h2⟩ := tabCells_at hx
  obtain ⟨a1, e1, c1⟩ := h.2 _ _ h1
  obtain ⟨a2, e2, c2⟩ := h.2 _ _ h2
  injection e1 with e1
  injection e2 with e2
  subst e1 e2
  exact ⟨c1, c2⟩

set_option maxRecDepth 100000 in
set_option maxHeartbeats 3200000 in
theorem valueSums_walk (a b c day : Int) (w : World) (w0 : (Lit.int .i64 a).wf = true) (w1 : (Lit.int .i64 b).wf = true) (w2 : (Lit.int .i64 c).wf = true) (w3 : (Lit.int .i64 day).wf = true) :
    Calls Try.prog 16 #[.int .i64 a, .int .i64 b, .int .i64 c, .int .i64 day] w fun e w' => e = .returned (.bool true) ∧ Ext w w' := by
  have b1 := i64_of w0
  have b2 := i64_of w1
  have b3 := i64_of w2
  have b4 := i64_of w3
  have m1 := within_lo a 2001 (by omega)
  have m2 := within_hi a 2001 (by omega)
  have m3 := within_lo b 2001 (by omega)
  have m4 := within_hi b 2001 (by omega)
  have m5 := within_lo c 2001 (by omega)
  have m6 := within_hi c 2001 (by omega)
  have m7 := within_lo day 100 (by omega)
  have m8 := within_hi day 100 (by omega)
  clear w0 w1 w2 w3
  go_enter Try.func16, Try.ntmps16
  (go_wp2_with fail; (with_reducible refine (within_calls _ _ _ (by omega) (by omega) b1.1 b1.2).mono ?_); rintro e w' ⟨rfl, rfl⟩)
  (go_wp2_with fail; (with_reducible refine (within_calls _ _ _ (by omega) (by omega) b2.1 b2.2).mono ?_); rintro e w' ⟨rfl, rfl⟩)
  (go_wp2_with fail; (with_reducible refine (within_calls _ _ _ (by omega) (by omega) b3.1 b3.2).mono ?_); rintro e w' ⟨rfl, rfl⟩)
  (go_wp2_with fail; (with_reducible refine (within_calls _ _ _ (by omega) (by omega) b4.1 b4.2).mono ?_); rintro e w' ⟨rfl, rfl⟩)
  generalize a % 2001 = a0 at *
  generalize b % 2001 = b0 at *
  generalize c % 2001 = c0 at *
  generalize day % 100 = d at *
  clear b1 b2 b3 b4
  (go_wp2_with fail; (with_reducible refine (new_own (Ext.refl _)).mono ?_); rintro e w' ⟨p, f, c, rfl, hO, hx⟩)
  clear hx
  have q1 : -1000 ≤ a0 - 1000 ∧ a0 - 1000 ≤ 1000 := by omega
  have q2 : -1000 ≤ b0 - 1000 ∧ b0 - 1000 ≤ 1000 := by omega
  have q3 : -1000 ≤ c0 - 1000 ∧ c0 - 1000 ≤ 1000 := by omega
  clear m1 m2 m3 m4 m5 m6
  go_wp2_with fail
  generalize a0 - 1000 = a1 at *
  generalize b0 - 1000 = b1 at *
  generalize c0 - 1000 = c1 at *
  have hd : dayB d = true := (dayB_iff d).2 (by omega)
  with_reducible refine (fix_ok ⟨#[120]⟩ d a1 hO name_x hd (Vd_of (by omega) (by omega)) rfl (by decide)).mono ?_
  rintro e w2 ⟨rfl, hO, hg⟩
  clear hg
  have hl : ((([] : FixL) ++ [(((⟨#[120]⟩ : ByteArray), d), a1)]).lookup ((⟨#[121]⟩ : ByteArray), d)).isSome = false := by
    have e : (((⟨#[121]⟩ : ByteArray), d) == (⟨#[120]⟩, d)) = false := by
      show ((⟨#[121]⟩ : ByteArray) == ⟨#[120]⟩ && d == d) = false
      rw [show ((⟨#[121]⟩ : ByteArray) == ⟨#[120]⟩) = false by decide]; rfl
    simp [List.lookup, e]
  (go_wp2_with fail; (with_reducible refine (fix_ok ⟨#[121]⟩ d b1 hO name_y hd (Vd_of (by omega) (by omega)) hl (by simp)).mono ?_); rintro e w' ⟨rfl, hO, hg⟩)
  clear hg hl
  have hO : Own w w' p f c (sumsF d a1 b1) [] := hO
  have HT := sums_now d a1 b1 c1 ⟨q1.1, q1.2⟩ ⟨q2.1, q2.2⟩ ⟨q3.1, q3.2⟩
  have HT0 := Lib.hid HT
  have HO := Lib.hid hO
  have hmul1 := small_mul (a := a1) (b := c1) ⟨q1.1, q1.2⟩ ⟨q3.1, q3.2⟩
  have hmul2 := small_mul (a := a1) (b := b1) ⟨q1.1, q1.2⟩ ⟨q2.1, q2.2⟩
  clear HT hO
  have hM1 : (a1 < b1 ∧ Max.max a1 b1 = b1) ∨ (b1 ≤ a1 ∧ Max.max a1 b1 = a1) := by omega
  have hM2 : (c1 < a1 ∧ Max.max c1 a1 = a1) ∨ (a1 ≤ c1 ∧ Max.max c1 a1 = c1) := by omega
  have hlen : (sumsTab a1 b1 c1).length = 7 := rfl
  rcases hM1 with ⟨l1, M1⟩ | ⟨l1, M1⟩ <;> rcases hM2 with ⟨l2, M2⟩ | ⟨l2, M2⟩
  all_goals
    have hcs := Lib.hid (show tabCells (sumsTab a1 b1 c1) = tabCells (sumsTab a1 b1 c1) from rfl)
    have M1 := Lib.hid M1
    have M2 := Lib.hid M2
    go_wp2_with fail
    go_loopw [124] (fun i wr => ∃ j : Nat, j ≤ 7 ∧ i = .int .i64 j ∧ Own w wr p f c (sumsF d a1 b1) [] ∧ Rd wr 2 (some ⟨w'.heap.size + 1 + 1 + 1, 0, none⟩) 7 (tabCells (sumsTab a1 b1 c1))) (fun i _ => 7 - (intOf i).toNat)
    case atStart =>
      refine ⟨0, by omega, rfl, HO.out.keep ((by repeat' (first | (with_reducible exact Ext.refl _) | (with_reducible assumption) | (with_reducible refine Ext.alloc ?_ _) | (with_reducible refine Ext.drew ?_) | (with_reducible refine Ext.drewN ?_ _) | (with_reducible refine Ext.setCell ?_ (by first | exact Nat.le_refl _ | (simp; done) | (simp; omega) | omega) _) | (with_reducible refine Ext.trans ?_ (by assumption))))), ?_⟩
      refine Rd.newAt (by simp) ?_ rfl
      simp only [sumsTab, M1.out, M2.out]
      rfl
    case round =>
      obtain ⟨j, hj, rfl, hO, hr⟩ := hrel
      by_cases hlt : j < 7
      · have h1 : (sumsTab a1 b1 c1)[j]? = some (sumsTab a1 b1 c1)[j] := List.getElem?_eq_getElem (by rw [hlen]; exact hlt)
        generalize (sumsTab a1 b1 c1)[j] = x at h1
        obtain ⟨o, n⟩ := x
        obtain ⟨t1, t2, t3, t4, t5, t6, t7, t8⟩ := HT0.out _ (List.mem_of_getElem? h1)
        obtain ⟨r1, r2⟩ := hr.at2 h1
        have hr0 := Lib.hid hr
        have hO0 := Lib.hid hO
        have V1 := fun w' h => vOf_calls p f c (sumsF d a1 b1) [] d o w' t1 (by simp only at t3; omega) (Wld.ext hO.wld h)
        have V2 := fun w' h => vOf_calls p f c (sumsF d a1 b1) [] (d + 1) o w' t1 (by simp only at t3; omega) (Wld.ext hO.wld h)
        have V3 := fun w' h => vneeds_calls p f c (sumsF d a1 b1) [] (d + 1) o w' t1 (by simp only at t3; omega) (Wld.ext hO.wld h)
        simp only at r1 r2 t4 t5 t6 t7 t8
        rw [t4] at V1
        generalize o.ofV (sumsF d a1 b1) (d + 1) = k2 at *
        obtain ⟨k2n, k2i, k2e⟩ := k2
        simp only at t5 t6
        subst t5 t6
        have hform := Ob.form t1
        simp only at hform
        generalize (o.needs (sumsF d a1 b1) (d + 1)) = N at *
        generalize o.val = ov at *
        clear hr h1 t1 t2 t3 t4 hO
        rw [Addr.add_lit] at r1 r2
        simp only [Nat.zero_add] at r1 r2
        have hd1 : (0 : Int) ≤ d + 1 := by omega
        have hN : (decide (N.length = 0) = true ∧ ((N.length : Int) == 0) = true) ∨ (decide (N.length = 0) = false ∧ ((N.length : Int) == 0) = false) := by
          rw [nat0]
          cases decide (N.length = 0) <;> simp
        have hnn : (n != n) = false := by simp
        rcases hform with rfl | ⟨ty, x, rfl⟩
        all_goals
          rcases hN with ⟨hN, hN2⟩ | ⟨hN, hN2⟩
          all_goals
            rw [hN] at V2
            clear hN
            (go_wp2_with fail; (with_reducible refine (V1 _ ((by repeat' (first | (with_reducible exact Ext.refl _) | (with_reducible assumption) | (with_reducible refine Ext.alloc ?_ _) | (with_reducible refine Ext.drew ?_) | (with_reducible refine Ext.drewN ?_ _) | (with_reducible refine Ext.setCell ?_ (by first | exact Nat.le_refl _ | (simp; done) | (simp; omega) | omega) _) | (with_reducible refine Ext.trans ?_ (by assumption)))))).mono ?_); rintro e w' ⟨rfl, hx⟩)
            obtain ⟨r3, r4, r5, hz⟩ := hx.two
            go_wp2_with fail
            try go_quiet (fail)
            (go_wp2_with fail; (with_reducible refine (V2 _ ((by repeat' (first | (with_reducible exact Ext.refl _) | (with_reducible assumption) | (with_reducible refine Ext.alloc ?_ _) | (with_reducible refine Ext.drew ?_) | (with_reducible refine Ext.drewN ?_ _) | (with_reducible refine Ext.setCell ?_ (by first | exact Nat.le_refl _ | (simp; done) | (simp; omega) | omega) _) | (with_reducible refine Ext.trans ?_ (by assumption)))))).mono ?_); rintro e w' ⟨rfl, hy⟩)
            have r3 := hy.cell r3
            (go_wp2_with fail; (with_reducible refine (V3 _ ((by repeat' (first | (with_reducible exact Ext.refl _) | (with_reducible assumption) | (with_reducible refine Ext.alloc ?_ _) | (with_reducible refine Ext.drew ?_) | (with_reducible refine Ext.drewN ?_ _) | (with_reducible refine Ext.setCell ?_ (by first | exact Nat.le_refl _ | (simp; done) | (simp; omega) | omega) _) | (with_reducible refine Ext.trans ?_ (by assumption)))))).mono ?_); rintro e w' ⟨nv, rfl, hno, hu⟩)
            obtain ⟨A, C, rfl, hA1, hA2⟩ := own_form hno
            go_wp2_with fail
            go_roundw
            case rel => exact ⟨j + 1, by omega, by go_num, hO0.out.keep ((by repeat' (first | (with_reducible exact Ext.refl _) | (with_reducible assumption) | (with_reducible refine Ext.alloc ?_ _) | (with_reducible refine Ext.drew ?_) | (with_reducible refine Ext.drewN ?_ _) | (with_reducible refine Ext.setCell ?_ (by first | exact Nat.le_refl _ | (simp; done) | (simp; omega) | omega) _) | (with_reducible refine Ext.trans ?_ (by assumption))))), hr0.out.ext ((by repeat' (first | (with_reducible exact Ext.refl _) | (with_reducible assumption) | (with_reducible refine Ext.alloc ?_ _) | (with_reducible refine Ext.drew ?_) | (with_reducible refine Ext.drewN ?_ _) | (with_reducible refine Ext.setCell ?_ (by first | exact Nat.le_refl _ | (simp; done) | (simp; omega) | omega) _) | (with_reducible refine Ext.trans ?_ (by assumption)))))⟩
            case measure => simp [intOf]; omega
      · obtain rfl : j = 7 := by omega
        go_wp2_with (go_at_call 63; (with_reducible refine (wakes09_calls _).mono ?_); rintro e w' ⟨rfl, hv⟩)
        go_ret
        exact ⟨rfl, hO.ext.trans hv⟩

end Go.Proofs.Ytgjjngkmbplijaa
