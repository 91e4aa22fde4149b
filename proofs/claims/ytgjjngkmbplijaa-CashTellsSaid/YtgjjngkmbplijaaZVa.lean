/- Texts put together: Value, Value2, Value3. -/
import Derived.Test.YtgjjngkmbplijaaYLaw04
import Derived.Test.YtgjjngkmbplijaaYLaw08
/- Package value: what a number is. -/
namespace Go.Proofs.Ytgjjngkmbplijaa
open Go.RowKit
set_option linter.unusedSimpArgs false
set_option linter.unusedVariables false

/-- A number, if it is known; an error. -/
structure Kn where
  n : Int
  is : Bool
  e : Int
def toldK (p : Int × Bool) : Kn := if p.2 = true then ⟨p.1, true, 0⟩ else ⟨0, false, 6⟩
def pairK (put : Int → Int → Int × Bool) (a b : Kn) : Kn :=
  if a.e ≠ 0 then ⟨0, false, a.e⟩ else if b.e ≠ 0 ∨ a.is = false ∨ b.is = false then ⟨0, false, b.e⟩ else toldK (put a.n b.n)
def negK (a : Kn) : Kn := if a.e ≠ 0 ∨ a.is = false then ⟨0, false, a.e⟩ else toldK (negS a.n)
def maxS (a b : Int) : Int × Bool := (Max.max a b, true)
def Ob.value (F : FixL) (d : Int) : Ob → Kn
  | .const n => ⟨n, true, 0⟩
  | .fix s => ⟨(F.lookup (s, d)).getD 0, (F.lookup (s, d)).isSome, 0⟩
  | .add l r => pairK addS (l.value F d) (r.value F d)
  | .neg o => negK (o.value F d)
  | .mul l r => pairK mulS (l.value F d) (r.value F d)
  | .max l r => pairK maxS (l.value F d) (r.value F d)
  | .odd _ => ⟨0, false, 0⟩
theorem toldK_yes {n : Int} : toldK (n, true) = ⟨n, true, 0⟩ := rfl
theorem toldK_no {n : Int} : toldK (n, false) = ⟨0, false, 6⟩ := rfl
theorem pairK_e1 {put : Int → Int → Int × Bool} {a b : Kn} (h : a.e ≠ 0) : pairK put a b = ⟨0, false, a.e⟩ := by unfold pairK; rw [if_pos h]
theorem pairK_e2 {put : Int → Int → Int × Bool} {a b : Kn} (h : a.e = 0) (h2 : b.e ≠ 0 ∨ a.is = false ∨ b.is = false) : pairK put a b = ⟨0, false, b.e⟩ := by unfold pairK; rw [if_neg (by simp [h]), if_pos h2]
theorem pairK_ok {put : Int → Int → Int × Bool} {a b : Kn} (h : a.e = 0) (h2 : b.e = 0) (h3 : a.is = true) (h4 : b.is = true) : pairK put a b = toldK (put a.n b.n) := by
  unfold pairK; rw [if_neg (by simp [h]), if_neg (by simp [h2, h3, h4])]
theorem negK_no {a : Kn} (h : a.e ≠ 0 ∨ a.is = false) : negK a = ⟨0, false, a.e⟩ := by unfold negK; rw [if_pos h]
theorem negK_ok {a : Kn} (h : a.e = 0) (h2 : a.is = true) : negK a = toldK (negS a.n) := by unfold negK; rw [if_neg (by simp [h, h2])]

/-- What is known of a number comes back; nothing that was there has turned. -/
def RetKn (w : World) (k : Kn) (e : Ending) (w' : World) : Prop := e = .returned (.tuple #[.agg #[.int .i64 k.n, .bool k.is], .int .i64 k.e]) ∧ Ext w w'

set_option maxRecDepth 100000 in
set_option maxHeartbeats 400000 in
theorem vtold_calls (p : Int × Bool) (w : World) : Calls Try.prog 139 #[.int .i64 p.1, .bool p.2] w fun e w' => RetKn w (toldK p) e w' := by
  obtain ⟨n, ok⟩ := p
  cases ok with
  | false =>
    go_enter Try.func139, Try.ntmps139
    go_wp2
    exact bodyPost_ret (v := .tuple #[.agg #[.int .i64 0, .bool false], .int .i64 6]) (by simp [results, Try.results139, go_sem]) rfl ⟨rfl, (by repeat' (first | (with_reducible exact Ext.refl _) | (with_reducible assumption) | (with_reducible refine Ext.alloc ?_ _) | (with_reducible refine Ext.drew ?_) | (with_reducible refine Ext.drewN ?_ _) | (with_reducible refine Ext.setCell ?_ (by first | exact Nat.le_refl _ | (simp; done) | (simp; omega) | omega) _) | (with_reducible refine Ext.trans ?_ (by assumption))))⟩
  | true =>
    go_enter Try.func139, Try.ntmps139
    go_wp2
    exact bodyPost_ret (v := .tuple #[.agg #[.int .i64 n, .bool true], .int .i64 0]) (by simp [results, Try.results139, go_sem]) rfl ⟨rfl, (by repeat' (first | (with_reducible exact Ext.refl _) | (with_reducible assumption) | (with_reducible refine Ext.alloc ?_ _) | (with_reducible refine Ext.drew ?_) | (with_reducible refine Ext.drewN ?_ _) | (with_reducible refine Ext.setCell ?_ (by first | exact Nat.le_refl _ | (simp; done) | (simp; omega) | omega) _) | (with_reducible refine Ext.trans ?_ (by assumption))))⟩

set_option maxRecDepth 100000 in
set_option maxHeartbeats 400000 in
theorem greater_calls (a b : Int) (w : World) : Calls Try.prog 138 #[.int .i64 a, .int .i64 b] w fun e w' => e = retIB (maxS a b) ∧ w = w' := by
  by_cases h : a < b
  · have e1 := Lib.hid (show maxS a b = (b, true) by unfold maxS; rw [Int.max_eq_right (by omega)])
    go_enter Try.func138, Try.ntmps138
    go_wp2
    go_ret2
    exact ⟨by rw [e1.out]; first | rfl | (simp [retIB]; omega), rfl⟩
  · have e1 := Lib.hid (show maxS a b = (a, true) by unfold maxS; rw [Int.max_eq_left (by omega)])
    go_enter Try.func138, Try.ntmps138
    go_wp2
    go_ret2
    exact ⟨by rw [e1.out]; first | rfl | (simp [retIB]; omega), rfl⟩

theorem Ext.lit {a b : World} (h : Ext a b) {k : Nat} {cs : Array Value} {e : TypeId} (hb : a.heap[k]? = some (.cells cs e (0, 0))) : b.heap[k]? = some (.cells cs e (0, 0)) := h.obj hb
theorem obj_cells {b : World} {k : Nat} {cs : Array Value} {e : TypeId} (hb : b.heap[k]? = some (.cells cs e (0, 0))) : (∀ j v, cs[j]? = some v → b.cell? ⟨k, j, none⟩ = some v) ∧ (∀ o, b.frozen? ⟨k, o, none⟩ = false) ∧ k < b.heap.size := by
  refine ⟨fun j v hv => ?_, fun o => ?_, (Array.getElem?_eq_some_iff.1 hb).1⟩
  · simp only [World.cell?, hb]; simpa using hv
  · simp [World.frozen?, hb]
/-- A block of two cells that was made ahead of a call. -/
theorem Ext.two {w b : World} {x y : Value} {e : TypeId} (h : Ext (w.alloc (.cells #[x, y] e (0, 0))) b) : b.cell? ⟨w.heap.size, 0, none⟩ = some x ∧ b.cell? ⟨w.heap.size, 1, none⟩ = some y ∧ (∀ o, b.frozen? ⟨w.heap.size, o, none⟩ = false) ∧ w.heap.size < b.heap.size := by
  obtain ⟨h1, h2, h3⟩ := obj_cells (h.lit (heap_new w _))
  exact ⟨h1 0 x rfl, h1 1 y rfl, h2, h3⟩

set_option maxRecDepth 100000 in
set_option maxHeartbeats 800000 in
theorem pairAdd_calls (l r : Ob) (d : Int) (p : Nat) (a b : Kn) (w : World) (Hl : ∀ w', Ext w w' → Calls Try.prog 109 #[l.val, .int .i64 d, .pointer (some ⟨p, 0, none⟩)] w' fun e w'' => RetKn w' a e w'')
    (Hr : ∀ w', Ext w w' → Calls Try.prog 109 #[r.val, .int .i64 d, .pointer (some ⟨p, 0, none⟩)] w' fun e w'' => RetKn w' b e w'') :
    Calls Try.prog 136 #[l.val, r.val, .int .i64 d, .pointer (some ⟨p, 0, none⟩), .func (.func 72) #[] #[]] w fun e w' => RetKn w (pairK addS a b) e w' := by
  generalize l.val = lv at *
  generalize r.val = rv at *
  obtain ⟨an, ai, ae⟩ := a
  obtain ⟨bn, bi, be⟩ := b
  have hA := (Ext.refl w).alloc (.cells #[.int .i64 0, .bool false] 204 (0, 0))
  by_cases h1 : ae = 0
  · subst h1
    by_cases h2 : be = 0
    · subst h2
      cases ai with
      | true => cases bi with
        | true =>
          have HP := Lib.hid (pairK_ok (put := addS) (a := ⟨an, true, 0⟩) (b := ⟨bn, true, 0⟩) rfl rfl rfl rfl)
          have hput' := fun w => add_calls an bn w
          generalize addS an bn = q at *
          have HT := fun w => vtold_calls q w
          obtain ⟨qn, qb⟩ := q
          go_enter Try.func136, Try.ntmps136
          (go_wp2_with fail; (with_reducible refine (Hl _ hA).mono ?_); rintro e w' ⟨rfl, hx⟩)
          obtain ⟨c0, c1, cf, hz⟩ := hx.two
          go_wp2_with fail
          have hB : Ext w (w'.alloc (.cells #[.int .i64 an, .bool true] 204)) := (hA.trans hx).alloc _
          with_reducible refine (Hr _ hB).mono ?_
          rintro e w2 ⟨rfl, hy⟩
          obtain ⟨b0, b1, bf, hz2⟩ := hy.two
          have hxy := (hx.alloc (.cells #[.int .i64 an, .bool true] 204)).trans hy
          obtain ⟨c0, c1, cf, hz3⟩ := hxy.two
          go_wp2_with fail
          with_reducible refine (hput' _).mono ?_
          rintro e w3 ⟨rfl, rfl⟩
          unfold retIB
          (go_wp2_with fail; (with_reducible refine (HT _).mono ?_); rintro e w' ⟨rfl, hv⟩)
          generalize toldK (qn, qb) = k at *
          obtain ⟨c0, c1, cf, hz4⟩ := ((hxy.alloc (.cells #[.int .i64 bn, .bool true] 204)).trans hv).two
          go_wp2_with fail
          exact bodyPost_ret (v := .tuple #[.agg #[.int .i64 k.n, .bool k.is], .int .i64 k.e]) (by simp [results, Try.results136, c0, c1, go_sem, hz4]) rfl ⟨by rw [HP.out], (by repeat' (first | (with_reducible exact Ext.refl _) | (with_reducible assumption) | (with_reducible refine Ext.alloc ?_ _) | (with_reducible refine Ext.drew ?_) | (with_reducible refine Ext.drewN ?_ _) | (with_reducible refine Ext.setCell ?_ (by first | exact Nat.le_refl _ | (simp; done) | (simp; omega) | omega) _) | (with_reducible refine Ext.trans ?_ (by assumption))))⟩
        | false =>
          have HP := Lib.hid (pairK_e2 (put := addS) (a := ⟨an, true, 0⟩) (b := ⟨bn, false, 0⟩) rfl (.inr (.inr rfl)))
          go_enter Try.func136, Try.ntmps136
          (go_wp2_with fail; (with_reducible refine (Hl _ hA).mono ?_); rintro e w' ⟨rfl, hx⟩)
          obtain ⟨c0, c1, cf, hz⟩ := hx.two
          go_wp2_with fail
          have hB := (hA.trans hx).alloc (.cells #[.int .i64 an, .bool true] 204)
          with_reducible refine (Hr _ hB).mono ?_
          rintro e w2 ⟨rfl, hy⟩
          obtain ⟨b0, b1, bf, hz2⟩ := hy.two
          have hxy := (hx.alloc (.cells #[.int .i64 an, .bool true] 204)).trans hy
          obtain ⟨c0, c1, cf, hz3⟩ := hxy.two
          go_wp2_with fail
          exact bodyPost_ret (v := .tuple #[.agg #[.int .i64 0, .bool false], .int .i64 0]) (by simp [results, Try.results136, c0, c1, go_sem, hz3]) rfl ⟨by rw [HP.out], (by repeat' (first | (with_reducible exact Ext.refl _) | (with_reducible assumption) | (with_reducible refine Ext.alloc ?_ _) | (with_reducible refine Ext.drew ?_) | (with_reducible refine Ext.drewN ?_ _) | (with_reducible refine Ext.setCell ?_ (by first | exact Nat.le_refl _ | (simp; done) | (simp; omega) | omega) _) | (with_reducible refine Ext.trans ?_ (by assumption))))⟩
      | false =>
        have HP := Lib.hid (pairK_e2 (put := addS) (a := ⟨an, false, 0⟩) (b := ⟨bn, bi, 0⟩) rfl (.inr (.inl rfl)))
        go_enter Try.func136, Try.ntmps136
        (go_wp2_with fail; (with_reducible refine (Hl _ hA).mono ?_); rintro e w' ⟨rfl, hx⟩)
        obtain ⟨c0, c1, cf, hz⟩ := hx.two
        go_wp2_with fail
        have hB := (hA.trans hx).alloc (.cells #[.int .i64 an, .bool false] 204)
        with_reducible refine (Hr _ hB).mono ?_
        rintro e w2 ⟨rfl, hy⟩
        obtain ⟨b0, b1, bf, hz2⟩ := hy.two
        have hxy := (hx.alloc (.cells #[.int .i64 an, .bool false] 204)).trans hy
        obtain ⟨c0, c1, cf, hz3⟩ := hxy.two
        go_wp2_with fail
        exact bodyPost_ret (v := .tuple #[.agg #[.int .i64 0, .bool false], .int .i64 0]) (by simp [results, Try.results136, c0, c1, go_sem, hz3]) rfl ⟨by rw [HP.out], (by repeat' (first | (with_reducible exact Ext.refl _) | (with_reducible assumption) | (with_reducible refine Ext.alloc ?_ _) | (with_reducible refine Ext.drew ?_) | (with_reducible refine Ext.drewN ?_ _) | (with_reducible refine Ext.setCell ?_ (by first | exact Nat.le_refl _ | (simp; done) | (simp; omega) | omega) _) | (with_reducible refine Ext.trans ?_ (by assumption))))⟩
    · have HP := Lib.hid (pairK_e2 (put := addS) (a := ⟨an, ai, 0⟩) (b := ⟨bn, bi, be⟩) rfl (.inl h2))
      have hne : (be != 0) = true := by simpa using h2
      go_enter Try.func136, Try.ntmps136
      (go_wp2_with fail; (with_reducible refine (Hl _ hA).mono ?_); rintro e w' ⟨rfl, hx⟩)
      obtain ⟨c0, c1, cf, hz⟩ := hx.two
      go_wp2_with fail
      have hB := (hA.trans hx).alloc (.cells #[.int .i64 an, .bool ai] 204)
      with_reducible refine (Hr _ hB).mono ?_
      rintro e w2 ⟨rfl, hy⟩
      obtain ⟨b0, b1, bf, hz2⟩ := hy.two
      have hxy := (hx.alloc (.cells #[.int .i64 an, .bool ai] 204)).trans hy
      obtain ⟨c0, c1, cf, hz3⟩ := hxy.two
      go_wp2_with fail
      exact bodyPost_ret (v := .tuple #[.agg #[.int .i64 0, .bool false], .int .i64 be]) (by simp [results, Try.results136, c0, c1, go_sem, hz3]) rfl ⟨by rw [HP.out], (by repeat' (first | (with_reducible exact Ext.refl _) | (with_reducible assumption) | (with_reducible refine Ext.alloc ?_ _) | (with_reducible refine Ext.drew ?_) | (with_reducible refine Ext.drewN ?_ _) | (with_reducible refine Ext.setCell ?_ (by first | exact Nat.le_refl _ | (simp; done) | (simp; omega) | omega) _) | (with_reducible refine Ext.trans ?_ (by assumption))))⟩
  · have HP := Lib.hid (pairK_e1 (put := addS) (a := ⟨an, ai, ae⟩) (b := ⟨bn, bi, be⟩) h1)
    have hne : (ae != 0) = true := by simpa using h1
    go_enter Try.func136, Try.ntmps136
    (go_wp2_with fail; (with_reducible refine (Hl _ hA).mono ?_); rintro e w' ⟨rfl, hx⟩)
    obtain ⟨c0, c1, cf, hz⟩ := hx.two
    go_wp2_with fail
    exact bodyPost_ret (v := .tuple #[.agg #[.int .i64 0, .bool false], .int .i64 ae]) (by simp [results, Try.results136, c0, c1, go_sem, hz]) rfl ⟨by rw [HP.out], (by repeat' (first | (with_reducible exact Ext.refl _) | (with_reducible assumption) | (with_reducible refine Ext.alloc ?_ _) | (with_reducible refine Ext.drew ?_) | (with_reducible refine Ext.drewN ?_ _) | (with_reducible refine Ext.setCell ?_ (by first | exact Nat.le_refl _ | (simp; done) | (simp; omega) | omega) _) | (with_reducible refine Ext.trans ?_ (by assumption))))⟩

set_option maxRecDepth 100000 in
set_option maxHeartbeats 800000 in
theorem pairMul_calls (l r : Ob) (d : Int) (p : Nat) (a b : Kn) (w : World) (Hl : ∀ w', Ext w w' → Calls Try.prog 109 #[l.val, .int .i64 d, .pointer (some ⟨p, 0, none⟩)] w' fun e w'' => RetKn w' a e w'')
    (Hr : ∀ w', Ext w w' → Calls Try.prog 109 #[r.val, .int .i64 d, .pointer (some ⟨p, 0, none⟩)] w' fun e w'' => RetKn w' b e w'') :
    Calls Try.prog 136 #[l.val, r.val, .int .i64 d, .pointer (some ⟨p, 0, none⟩), .func (.func 137) #[] #[]] w fun e w' => RetKn w (pairK mulS a b) e w' := by
  generalize l.val = lv at *
  generalize r.val = rv at *
  obtain ⟨an, ai, ae⟩ := a
  obtain ⟨bn, bi, be⟩ := b
  have hA := (Ext.refl w).alloc (.cells #[.int .i64 0, .bool false] 204 (0, 0))
  by_cases h1 : ae = 0
  · subst h1
    by_cases h2 : be = 0
    · subst h2
      cases ai with
      | true => cases bi with
        | true =>
          have HP := Lib.hid (pairK_ok (put := mulS) (a := ⟨an, true, 0⟩) (b := ⟨bn, true, 0⟩) rfl rfl rfl rfl)
          have hput' := fun w => mul_calls an bn w
          generalize mulS an bn = q at *
          have HT := fun w => vtold_calls q w
          obtain ⟨qn, qb⟩ := q
          go_enter Try.func136, Try.ntmps136
          (go_wp2_with fail; (with_reducible refine (Hl _ hA).mono ?_); rintro e w' ⟨rfl, hx⟩)
          obtain ⟨c0, c1, cf, hz⟩ := hx.two
          go_wp2_with fail
          have hB : Ext w (w'.alloc (.cells #[.int .i64 an, .bool true] 204)) := (hA.trans hx).alloc _
          with_reducible refine (Hr _ hB).mono ?_
          rintro e w2 ⟨rfl, hy⟩
          obtain ⟨b0, b1, bf, hz2⟩ := hy.two
          have hxy := (hx.alloc (.cells #[.int .i64 an, .bool true] 204)).trans hy
          obtain ⟨c0, c1, cf, hz3⟩ := hxy.two
          go_wp2_with fail
          with_reducible refine (hput' _).mono ?_
          rintro e w3 ⟨rfl, rfl⟩
          unfold retIB
          (go_wp2_with fail; (with_reducible refine (HT _).mono ?_); rintro e w' ⟨rfl, hv⟩)
          generalize toldK (qn, qb) = k at *
          obtain ⟨c0, c1, cf, hz4⟩ := ((hxy.alloc (.cells #[.int .i64 bn, .bool true] 204)).trans hv).two
          go_wp2_with fail
          exact bodyPost_ret (v := .tuple #[.agg #[.int .i64 k.n, .bool k.is], .int .i64 k.e]) (by simp [results, Try.results136, c0, c1, go_sem, hz4]) rfl ⟨by rw [HP.out], (by repeat' (first | (with_reducible exact Ext.refl _) | (with_reducible assumption) | (with_reducible refine Ext.alloc ?_ _) | (with_reducible refine Ext.drew ?_) | (with_reducible refine Ext.drewN ?_ _) | (with_reducible refine Ext.setCell ?_ (by first | exact Nat.le_refl _ | (simp; done) | (simp; omega) | omega) _) | (with_reducible refine Ext.trans ?_ (by assumption))))⟩
        | false =>
          have HP := Lib.hid (pairK_e2 (put := mulS) (a := ⟨an, true, 0⟩) (b := ⟨bn, false, 0⟩) rfl (.inr (.inr rfl)))
          go_enter Try.func136, Try.ntmps136
          (go_wp2_with fail; (with_reducible refine (Hl _ hA).mono ?_); rintro e w' ⟨rfl, hx⟩)
          obtain ⟨c0, c1, cf, hz⟩ := hx.two
          go_wp2_with fail
          have hB := (hA.trans hx).alloc (.cells #[.int .i64 an, .bool true] 204)
          with_reducible refine (Hr _ hB).mono ?_
          rintro e w2 ⟨rfl, hy⟩
          obtain ⟨b0, b1, bf, hz2⟩ := hy.two
          have hxy := (hx.alloc (.cells #[.int .i64 an, .bool true] 204)).trans hy
          obtain ⟨c0, c1, cf, hz3⟩ := hxy.two
          go_wp2_with fail
          exact bodyPost_ret (v := .tuple #[.agg #[.int .i64 0, .bool false], .int .i64 0]) (by simp [results, Try.results136, c0, c1, go_sem, hz3]) rfl ⟨by rw [HP.out], (by repeat' (first | (with_reducible exact Ext.refl _) | (with_reducible assumption) | (with_reducible refine Ext.alloc ?_ _) | (with_reducible refine Ext.drew ?_) | (with_reducible refine Ext.drewN ?_ _) | (with_reducible refine Ext.setCell ?_ (by first | exact Nat.le_refl _ | (simp; done) | (simp; omega) | omega) _) | (with_reducible refine Ext.trans ?_ (by assumption))))⟩
      | false =>
        have HP := Lib.hid (pairK_e2 (put := mulS) (a := ⟨an, false, 0⟩) (b := ⟨bn, bi, 0⟩) rfl (.inr (.inl rfl)))
        go_enter Try.func136, Try.ntmps136
        (go_wp2_with fail; (with_reducible refine (Hl _ hA).mono ?_); rintro e w' ⟨rfl, hx⟩)
        obtain ⟨c0, c1, cf, hz⟩ := hx.two
        go_wp2_with fail
        have hB := (hA.trans hx).alloc (.cells #[.int .i64 an, .bool false] 204)
        with_reducible refine (Hr _ hB).mono ?_
        rintro e w2 ⟨rfl, hy⟩
        obtain ⟨b0, b1, bf, hz2⟩ := hy.two
        have hxy := (hx.alloc (.cells #[.int .i64 an, .bool false] 204)).trans hy
        obtain ⟨c0, c1, cf, hz3⟩ := hxy.two
        go_wp2_with fail
        exact bodyPost_ret (v := .tuple #[.agg #[.int .i64 0, .bool false], .int .i64 0]) (by simp [results, Try.results136, c0, c1, go_sem, hz3]) rfl ⟨by rw [HP.out], (by repeat' (first | (with_reducible exact Ext.refl _) | (with_reducible assumption) | (with_reducible refine Ext.alloc ?_ _) | (with_reducible refine Ext.drew ?_) | (with_reducible refine Ext.drewN ?_ _) | (with_reducible refine Ext.setCell ?_ (by first | exact Nat.le_refl _ | (simp; done) | (simp; omega) | omega) _) | (with_reducible refine Ext.trans ?_ (by assumption))))⟩
    · have HP := Lib.hid (pairK_e2 (put := mulS) (a := ⟨an, ai, 0⟩) (b := ⟨bn, bi, be⟩) rfl (.inl h2))
      have hne : (be != 0) = true := by simpa using h2
      go_enter Try.func136, Try.ntmps136
      (go_wp2_with fail; (with_reducible refine (Hl _ hA).mono ?_); rintro e w' ⟨rfl, hx⟩)
      obtain ⟨c0, c1, cf, hz⟩ := hx.two
      go_wp2_with fail
      have hB := (hA.trans hx).alloc (.cells #[.int .i64 an, .bool ai] 204)
      with_reducible refine (Hr _ hB).mono ?_
      rintro e w2 ⟨rfl, hy⟩
      obtain ⟨b0, b1, bf, hz2⟩ := hy.two
      have hxy := (hx.alloc (.cells #[.int .i64 an, .bool ai] 204)).trans hy
      obtain ⟨c0, c1, cf, hz3⟩ := hxy.two
      go_wp2_with fail
      exact bodyPost_ret (v := .tuple #[.agg #[.int .i64 0, .bool false], .int .i64 be]) (by simp [results, Try.results136, c0, c1, go_sem, hz3]) rfl ⟨by rw [HP.out], (by repeat' (first | (with_reducible exact Ext.refl _) | (with_reducible assumption) | (with_reducible refine Ext.alloc ?_ _) | (with_reducible refine Ext.drew ?_) | (with_reducible refine Ext.drewN ?_ _) | (with_reducible refine Ext.setCell ?_ (by first | exact Nat.le_refl _ | (simp; done) | (simp; omega) | omega) _) | (with_reducible refine Ext.trans ?_ (by assumption))))⟩
  · have HP := Lib.hid (pairK_e1 (put := mulS) (a := ⟨an, ai, ae⟩) (b := ⟨bn, bi, be⟩) h1)
    have hne : (ae != 0) = true := by simpa using h1
    go_enter Try.func136, Try.ntmps136
    (go_wp2_with fail; (with_reducible refine (Hl _ hA).mono ?_); rintro e w' ⟨rfl, hx⟩)
    obtain ⟨c0, c1, cf, hz⟩ := hx.two
    go_wp2_with fail
    exact bodyPost_ret (v := .tuple #[.agg #[.int .i64 0, .bool false], .int .i64 ae]) (by simp [results, Try.results136, c0, c1, go_sem, hz]) rfl ⟨by rw [HP.out], (by repeat' (first | (with_reducible exact Ext.refl _) | (with_reducible assumption) | (with_reducible refine Ext.alloc ?_ _) | (with_reducible refine Ext.drew ?_) | (with_reducible refine Ext.drewN ?_ _) | (with_reducible refine Ext.setCell ?_ (by first | exact Nat.le_refl _ | (simp; done) | (simp; omega) | omega) _) | (with_reducible refine Ext.trans ?_ (by assumption))))⟩

set_option maxRecDepth 100000 in
set_option maxHeartbeats 800000 in
theorem pairMax_calls (l r : Ob) (d : Int) (p : Nat) (a b : Kn) (w : World) (Hl : ∀ w', Ext w w' → Calls Try.prog 109 #[l.val, .int .i64 d, .pointer (some ⟨p, 0, none⟩)] w' fun e w'' => RetKn w' a e w'')
    (Hr : ∀ w', Ext w w' → Calls Try.prog 109 #[r.val, .int .i64 d, .pointer (some ⟨p, 0, none⟩)] w' fun e w'' => RetKn w' b e w'') :
    Calls Try.prog 136 #[l.val, r.val, .int .i64 d, .pointer (some ⟨p, 0, none⟩), .func (.func 138) #[] #[]] w fun e w' => RetKn w (pairK maxS a b) e w' := by
  generalize l.val = lv at *
  generalize r.val = rv at *
  obtain ⟨an, ai, ae⟩ := a
  obtain ⟨bn, bi, be⟩ := b
  have hA := (Ext.refl w).alloc (.cells #[.int .i64 0, .bool false] 204 (0, 0))
  by_cases h1 : ae = 0
  · subst h1
    by_cases h2 : be = 0
    · subst h2
      cases ai with
      | true => cases bi with
        | true =>
          have HP := Lib.hid (pairK_ok (put := maxS) (a := ⟨an, true, 0⟩) (b := ⟨bn, true, 0⟩) rfl rfl rfl rfl)
          have hput' := fun w => greater_calls an bn w
          generalize maxS an bn = q at *
          have HT := fun w => vtold_calls q w
          obtain ⟨qn, qb⟩ := q
          go_enter Try.func136, Try.ntmps136
          (go_wp2_with fail; (with_reducible refine (Hl _ hA).mono ?_); rintro e w' ⟨rfl, hx⟩)
          obtain ⟨c0, c1, cf, hz⟩ := hx.two
          go_wp2_with fail
          have hB : Ext w (w'.alloc (.cells #[.int .i64 an, .bool true] 204)) := (hA.trans hx).alloc _
          with_reducible refine (Hr _ hB).mono ?_
          rintro e w2 ⟨rfl, hy⟩
          obtain ⟨b0, b1, bf, hz2⟩ := hy.two
          have hxy := (hx.alloc (.cells #[.int .i64 an, .bool true] 204)).trans hy
          obtain ⟨c0, c1, cf, hz3⟩ := hxy.two
          go_wp2_with fail
          with_reducible refine (hput' _).mono ?_
          rintro e w3 ⟨rfl, rfl⟩
          unfold retIB
          (go_wp2_with fail; (with_reducible refine (HT _).mono ?_); rintro e w' ⟨rfl, hv⟩)
          generalize toldK (qn, qb) = k at *
          obtain ⟨c0, c1, cf, hz4⟩ := ((hxy.alloc (.cells #[.int .i64 bn, .bool true] 204)).trans hv).two
          go_wp2_with fail
          exact bodyPost_ret (v := .tuple #[.agg #[.int .i64 k.n, .bool k.is], .int .i64 k.e]) (by simp [results, Try.results136, c0, c1, go_sem, hz4]) rfl ⟨by rw [HP.out], (by repeat' (first | (with_reducible exact Ext.refl _) | (with_reducible assumption) | (with_reducible refine Ext.alloc ?_ _) | (with_reducible refine Ext.drew ?_) | (with_reducible refine Ext.drewN ?_ _) | (with_reducible refine Ext.setCell ?_ (by first | exact Nat.le_refl _ | (simp; done) | (simp; omega) | omega) _) | (with_reducible refine Ext.trans ?_ (by assumption))))⟩
        | false =>
          have HP := Lib.hid (pairK_e2 (put := maxS) (a := ⟨an, true, 0⟩) (b := ⟨bn, false, 0⟩) rfl (.inr (.inr rfl)))
          go_enter Try.func136, Try.ntmps136
          (go_wp2_with fail; (with_reducible refine (Hl _ hA).mono ?_); rintro e w' ⟨rfl, hx⟩)
          obtain ⟨c0, c1, cf, hz⟩ := hx.two
          go_wp2_with fail
          have hB := (hA.trans hx).alloc (.cells #[.int .i64 an, .bool true] 204)
          with_reducible refine (Hr _ hB).mono ?_
          rintro e w2 ⟨rfl, hy⟩
          obtain ⟨b0, b1, bf, hz2⟩ := hy.two
          have hxy := (hx.alloc (.cells #[.int .i64 an, .bool true] 204)).trans hy
          obtain ⟨c0, c1, cf, hz3⟩ := hxy.two
          go_wp2_with fail
          exact bodyPost_ret (v := .tuple #[.agg #[.int .i64 0, .bool false], .int .i64 0]) (by simp [results, Try.results136, c0, c1, go_sem, hz3]) rfl ⟨by rw [HP.out], (by repeat' (first | (with_reducible exact Ext.refl _) | (with_reducible assumption) | (with_reducible refine Ext.alloc ?_ _) | (with_reducible refine Ext.drew ?_) | (with_reducible refine Ext.drewN ?_ _) | (with_reducible refine Ext.setCell ?_ (by first | exact Nat.le_refl _ | (simp; done) | (simp; omega) | omega) _) | (with_reducible refine Ext.trans ?_ (by assumption))))⟩
      | false =>
        have HP := Lib.hid (pairK_e2 (put := maxS) (a := ⟨an, false, 0⟩) (b := ⟨bn, bi, 0⟩) rfl (.inr (.inl rfl)))
        go_enter Try.func136, Try.ntmps136
        (go_wp2_with fail; (with_reducible refine (Hl _ hA).mono ?_); rintro e w' ⟨rfl, hx⟩)
        obtain ⟨c0, c1, cf, hz⟩ := hx.two
        go_wp2_with fail
        have hB := (hA.trans hx).alloc (.cells #[.int .i64 an, .bool false] 204)
        with_reducible refine (Hr _ hB).mono ?_
        rintro e w2 ⟨rfl, hy⟩
        obtain ⟨b0, b1, bf, hz2⟩ := hy.two
        have hxy := (hx.alloc (.cells #[.int .i64 an, .bool false] 204)).trans hy
        obtain ⟨c0, c1, cf, hz3⟩ := hxy.two
        go_wp2_with fail
        exact bodyPost_ret (v := .tuple #[.agg #[.int .i64 0, .bool false], .int .i64 0]) (by simp [results, Try.results136, c0, c1, go_sem, hz3]) rfl ⟨by rw [HP.out], (by repeat' (first | (with_reducible exact Ext.refl _) | (with_reducible assumption) | (with_reducible refine Ext.alloc ?_ _) | (with_reducible refine Ext.drew ?_) | (with_reducible refine Ext.drewN ?_ _) | (with_reducible refine Ext.setCell ?_ (by first | exact Nat.le_refl _ | (simp; done) | (simp; omega) | omega) _) | (with_reducible refine Ext.trans ?_ (by assumption))))⟩
    · have HP := Lib.hid (pairK_e2 (put := maxS) (a := ⟨an, ai, 0⟩) (b := ⟨bn, bi, be⟩) rfl (.inl h2))
      have hne : (be != 0) = true := by simpa using h2
      go_enter Try.func136, Try.ntmps136
      (go_wp2_with fail; (with_reducible refine (Hl _ hA).mono ?_); rintro e w' ⟨rfl, hx⟩)
      obtain ⟨c0, c1, cf, hz⟩ := hx.two
      go_wp2_with fail
      have hB := (hA.trans hx).alloc (.cells #[.int .i64 an, .bool ai] 204)
      with_reducible refine (Hr _ hB).mono ?_
      rintro e w2 ⟨rfl, hy⟩
      obtain ⟨b0, b1, bf, hz2⟩ := hy.two
      have hxy := (hx.alloc (.cells #[.int .i64 an, .bool ai] 204)).trans hy
      obtain ⟨c0, c1, cf, hz3⟩ := hxy.two
      go_wp2_with fail
      exact bodyPost_ret (v := .tuple #[.agg #[.int .i64 0, .bool false], .int .i64 be]) (by simp [results, Try.results136, c0, c1, go_sem, hz3]) rfl ⟨by rw [HP.out], (by repeat' (first | (with_reducible exact Ext.refl _) | (with_reducible assumption) | (with_reducible refine Ext.alloc ?_ _) | (with_reducible refine Ext.drew ?_) | (with_reducible refine Ext.drewN ?_ _) | (with_reducible refine Ext.setCell ?_ (by first | exact Nat.le_refl _ | (simp; done) | (simp; omega) | omega) _) | (with_reducible refine Ext.trans ?_ (by assumption))))⟩
  · have HP := Lib.hid (pairK_e1 (put := maxS) (a := ⟨an, ai, ae⟩) (b := ⟨bn, bi, be⟩) h1)
    have hne : (ae != 0) = true := by simpa using h1
    go_enter Try.func136, Try.ntmps136
    (go_wp2_with fail; (with_reducible refine (Hl _ hA).mono ?_); rintro e w' ⟨rfl, hx⟩)
    obtain ⟨c0, c1, cf, hz⟩ := hx.two
    go_wp2_with fail
    exact bodyPost_ret (v := .tuple #[.agg #[.int .i64 0, .bool false], .int .i64 ae]) (by simp [results, Try.results136, c0, c1, go_sem, hz]) rfl ⟨by rw [HP.out], (by repeat' (first | (with_reducible exact Ext.refl _) | (with_reducible assumption) | (with_reducible refine Ext.alloc ?_ _) | (with_reducible refine Ext.drew ?_) | (with_reducible refine Ext.drewN ?_ _) | (with_reducible refine Ext.setCell ?_ (by first | exact Nat.le_refl _ | (simp; done) | (simp; omega) | omega) _) | (with_reducible refine Ext.trans ?_ (by assumption))))⟩

end Go.Proofs.Ytgjjngkmbplijaa

/- Package value: of, Of, Needs. -/
namespace Go.Proofs.Ytgjjngkmbplijaa
open Go.RowKit
set_option linter.unusedSimpArgs false
set_option linter.unusedVariables false

theorem negOf_nil (w : World) : (Instr.field 62 (.agg #[.nilIface]) 0).run Try.prog w = .ok .nilIface w := by kernel_rfl
theorem negOf_if (t : TypeId) (x : Value) (w : World) : (Instr.field 62 (.agg #[.iface t x]) 0).run Try.prog w = .ok (.iface t x) w := by kernel_rfl
attribute [local go_sem] negOf_nil negOf_if

set_option maxRecDepth 100000 in
set_option maxHeartbeats 800000 in
theorem of_calls (k : Nat) (p f c : Nat) (F : FixL) (C : ChL) (d : Int) : ∀ (o : Ob) (w : World), SizeOf.sizeOf o < k → o.wf → o.formed = true → Wld w p f c F C →
    Calls Try.prog 109 #[o.val, .int .i64 d, .pointer (some ⟨p, 0, none⟩)] w fun e w' => RetKn w (o.value F d) e w' := by
  induction k with
  | zero => intro o w h; omega
  | succ k ih =>
    intro o w hk hwf hfo hW
    cases o with
    | const n =>
      simp only [Ob.val, Ob.value]
      clear ih
      go_enter Try.func109, Try.ntmps109
      go_wp2
      exact bodyPost_ret (v := .tuple #[.agg #[.int .i64 n, .bool true], .int .i64 0]) (by simp [results, Try.results109, go_sem]) rfl ⟨rfl, (by repeat' (first | (with_reducible exact Ext.refl _) | (with_reducible assumption) | (with_reducible refine Ext.alloc ?_ _) | (with_reducible refine Ext.drew ?_) | (with_reducible refine Ext.drewN ?_ _) | (with_reducible refine Ext.setCell ?_ (by first | exact Nat.le_refl _ | (simp; done) | (simp; omega) | omega) _) | (with_reducible refine Ext.trans ?_ (by assumption))))⟩
    | fix s =>
      simp only [Ob.val, Ob.value]
      clear ih
      have H := fun w' (h : Ext w w') => fixed_calls p f c F C s d w' (hW.ext h)
      generalize (F.lookup (s, d)).getD 0 = q1 at *
      generalize (F.lookup (s, d)).isSome = q2 at *
      clear hW
      go_enter Try.func109, Try.ntmps109
      go_wp2_with fail
      with_reducible refine (H _ ((by repeat' (first | (with_reducible exact Ext.refl _) | (with_reducible assumption) | (with_reducible refine Ext.alloc ?_ _) | (with_reducible refine Ext.drew ?_) | (with_reducible refine Ext.drewN ?_ _) | (with_reducible refine Ext.setCell ?_ (by first | exact Nat.le_refl _ | (simp; done) | (simp; omega) | omega) _) | (with_reducible refine Ext.trans ?_ (by assumption)))))).mono ?_
      rintro e w' ⟨rfl, rfl⟩
      go_wp2_with fail
      exact bodyPost_ret (v := .tuple #[.agg #[.int .i64 q1, .bool q2], .int .i64 0]) (by simp [results, Try.results109, go_sem]) rfl ⟨rfl, (by repeat' (first | (with_reducible exact Ext.refl _) | (with_reducible assumption) | (with_reducible refine Ext.alloc ?_ _) | (with_reducible refine Ext.drew ?_) | (with_reducible refine Ext.drewN ?_ _) | (with_reducible refine Ext.setCell ?_ (by first | exact Nat.le_refl _ | (simp; done) | (simp; omega) | omega) _) | (with_reducible refine Ext.trans ?_ (by assumption))))⟩
    | add l r =>
      simp only [Ob.formed, Bool.and_eq_true] at hfo
      simp only [Ob.val, Ob.value]
      have H := fun w' (h : Ext w w') => pairAdd_calls l r d p (l.value F d) (r.value F d) w' (fun w'' h' => ih l w'' (by simp at hk; omega) hwf.1 hfo.1 (hW.ext (h.trans h'))) (fun w'' h' => ih r w'' (by simp at hk; omega) hwf.2 hfo.2 (hW.ext (h.trans h')))
      generalize pairK addS (l.value F d) (r.value F d) = q at *
      rcases Ob.form hwf.1 with e1 | ⟨t1, x1, e1⟩ <;> rcases Ob.form hwf.2 with e2 | ⟨t2, x2, e2⟩
      all_goals
        rw [e1, e2] at H ⊢
        clear e1 e2 ih hW hwf hfo
        go_enter Try.func109, Try.ntmps109
        go_wp2_with fail
        with_reducible refine (H _ ((by repeat' (first | (with_reducible exact Ext.refl _) | (with_reducible assumption) | (with_reducible refine Ext.alloc ?_ _) | (with_reducible refine Ext.drew ?_) | (with_reducible refine Ext.drewN ?_ _) | (with_reducible refine Ext.setCell ?_ (by first | exact Nat.le_refl _ | (simp; done) | (simp; omega) | omega) _) | (with_reducible refine Ext.trans ?_ (by assumption)))))).mono ?_
        rintro e w' ⟨rfl, hx⟩
        have hxx : Ext (w.alloc (.cells #[.int .i64 0, .bool false] 204 (0, 0))) w' := ((by repeat' (first | (with_reducible exact Ext.refl _) | (with_reducible assumption) | (with_reducible refine Ext.alloc ?_ _) | (with_reducible refine Ext.drew ?_) | (with_reducible refine Ext.drewN ?_ _) | (with_reducible refine Ext.setCell ?_ (by first | exact Nat.le_refl _ | (simp; done) | (simp; omega) | omega) _) | (with_reducible refine Ext.trans ?_ (by assumption)))))
        obtain ⟨c0, c1, cf, hz⟩ := hxx.two
        go_wp2_with fail
        exact bodyPost_ret (v := .tuple #[.agg #[.int .i64 q.n, .bool q.is], .int .i64 q.e]) (by simp [results, Try.results109, c0, c1, go_sem, hz]) rfl ⟨rfl, (by repeat' (first | (with_reducible exact Ext.refl _) | (with_reducible assumption) | (with_reducible refine Ext.alloc ?_ _) | (with_reducible refine Ext.drew ?_) | (with_reducible refine Ext.drewN ?_ _) | (with_reducible refine Ext.setCell ?_ (by first | exact Nat.le_refl _ | (simp; done) | (simp; omega) | omega) _) | (with_reducible refine Ext.trans ?_ (by assumption))))⟩
    | neg o =>
      simp only [Ob.formed] at hfo
      simp only [Ob.val, Ob.value]
      have hwo : o.wf := hwf
      have H := fun w' (h : Ext w w') => ih o w' (by simp at hk; omega) hwo hfo (hW.ext h)
      generalize o.value F d = q at *
      obtain ⟨qn, qi, qe⟩ := q
      have form := Ob.form hwo
      generalize o.val = ov at *
      clear ih hW hwf hwo hfo
      by_cases h1 : qe = 0
      · subst h1
        cases qi with
        | true =>
          have HP := Lib.hid (negK_ok (a := ⟨qn, true, 0⟩) rfl rfl)
          have hN := fun w => neg_calls qn w
          generalize negS qn = q at *
          have HT := fun w => vtold_calls q w
          obtain ⟨q1, q2⟩ := q
          rcases form with rfl | ⟨t1, x1, rfl⟩
          all_goals
            go_enter Try.func109, Try.ntmps109
            go_wp2_with fail
            with_reducible refine (H _ ((by repeat' (first | (with_reducible exact Ext.refl _) | (with_reducible assumption) | (with_reducible refine Ext.alloc ?_ _) | (with_reducible refine Ext.drew ?_) | (with_reducible refine Ext.drewN ?_ _) | (with_reducible refine Ext.setCell ?_ (by first | exact Nat.le_refl _ | (simp; done) | (simp; omega) | omega) _) | (with_reducible refine Ext.trans ?_ (by assumption)))))).mono ?_
            rintro e w' ⟨rfl, hx⟩
            have hxx : Ext (w.alloc (.cells #[.int .i64 0, .bool false] 204 (0, 0))) w' := ((by repeat' (first | (with_reducible exact Ext.refl _) | (with_reducible assumption) | (with_reducible refine Ext.alloc ?_ _) | (with_reducible refine Ext.drew ?_) | (with_reducible refine Ext.drewN ?_ _) | (with_reducible refine Ext.setCell ?_ (by first | exact Nat.le_refl _ | (simp; done) | (simp; omega) | omega) _) | (with_reducible refine Ext.trans ?_ (by assumption)))))
            obtain ⟨c0, c1, cf, hz⟩ := hxx.two
            go_wp2_with fail
            with_reducible refine (hN _).mono ?_
            rintro e w3 ⟨rfl, rfl⟩
            unfold retIB
            (go_wp2_with fail; (with_reducible refine (HT _).mono ?_); rintro e w' ⟨rfl, hv⟩)
            generalize toldK (q1, q2) = k at *
            obtain ⟨c0, c1, cf, hz4⟩ := ((hxx.alloc (.cells #[.int .i64 qn, .bool true] 204)).trans hv).two
            go_wp2_with fail
            exact bodyPost_ret (v := .tuple #[.agg #[.int .i64 k.n, .bool k.is], .int .i64 k.e]) (by simp [results, Try.results109, c0, c1, go_sem, hz4]) rfl ⟨by rw [HP.out], (by repeat' (first | (with_reducible exact Ext.refl _) | (with_reducible assumption) | (with_reducible refine Ext.alloc ?_ _) | (with_reducible refine Ext.drew ?_) | (with_reducible refine Ext.drewN ?_ _) | (with_reducible refine Ext.setCell ?_ (by first | exact Nat.le_refl _ | (simp; done) | (simp; omega) | omega) _) | (with_reducible refine Ext.trans ?_ (by assumption))))⟩
        | false =>
          have HP := Lib.hid (negK_no (a := ⟨qn, false, 0⟩) (.inr rfl))
          rcases form with rfl | ⟨t1, x1, rfl⟩
          all_goals
            go_enter Try.func109, Try.ntmps109
            go_wp2_with fail
            with_reducible refine (H _ ((by repeat' (first | (with_reducible exact Ext.refl _) | (with_reducible assumption) | (with_reducible refine Ext.alloc ?_ _) | (with_reducible refine Ext.drew ?_) | (with_reducible refine Ext.drewN ?_ _) | (with_reducible refine Ext.setCell ?_ (by first | exact Nat.le_refl _ | (simp; done) | (simp; omega) | omega) _) | (with_reducible refine Ext.trans ?_ (by assumption)))))).mono ?_
            rintro e w' ⟨rfl, hx⟩
            have hxx : Ext (w.alloc (.cells #[.int .i64 0, .bool false] 204 (0, 0))) w' := ((by repeat' (first | (with_reducible exact Ext.refl _) | (with_reducible assumption) | (with_reducible refine Ext.alloc ?_ _) | (with_reducible refine Ext.drew ?_) | (with_reducible refine Ext.drewN ?_ _) | (with_reducible refine Ext.setCell ?_ (by first | exact Nat.le_refl _ | (simp; done) | (simp; omega) | omega) _) | (with_reducible refine Ext.trans ?_ (by assumption)))))
            obtain ⟨c0, c1, cf, hz⟩ := hxx.two
            go_wp2_with fail
            exact bodyPost_ret (v := .tuple #[.agg #[.int .i64 0, .bool false], .int .i64 0]) (by simp [results, Try.results109, c0, c1, go_sem, hz]) rfl ⟨by rw [HP.out], (by repeat' (first | (with_reducible exact Ext.refl _) | (with_reducible assumption) | (with_reducible refine Ext.alloc ?_ _) | (with_reducible refine Ext.drew ?_) | (with_reducible refine Ext.drewN ?_ _) | (with_reducible refine Ext.setCell ?_ (by first | exact Nat.le_refl _ | (simp; done) | (simp; omega) | omega) _) | (with_reducible refine Ext.trans ?_ (by assumption))))⟩
      · have HP := Lib.hid (negK_no (a := ⟨qn, qi, qe⟩) (.inl h1))
        have hne : (qe != 0) = true := by simpa using h1
        rcases form with rfl | ⟨t1, x1, rfl⟩
        all_goals
          go_enter Try.func109, Try.ntmps109
          go_wp2_with fail
          with_reducible refine (H _ ((by repeat' (first | (with_reducible exact Ext.refl _) | (with_reducible assumption) | (with_reducible refine Ext.alloc ?_ _) | (with_reducible refine Ext.drew ?_) | (with_reducible refine Ext.drewN ?_ _) | (with_reducible refine Ext.setCell ?_ (by first | exact Nat.le_refl _ | (simp; done) | (simp; omega) | omega) _) | (with_reducible refine Ext.trans ?_ (by assumption)))))).mono ?_
          rintro e w' ⟨rfl, hx⟩
          have hxx : Ext (w.alloc (.cells #[.int .i64 0, .bool false] 204 (0, 0))) w' := ((by repeat' (first | (with_reducible exact Ext.refl _) | (with_reducible assumption) | (with_reducible refine Ext.alloc ?_ _) | (with_reducible refine Ext.drew ?_) | (with_reducible refine Ext.drewN ?_ _) | (with_reducible refine Ext.setCell ?_ (by first | exact Nat.le_refl _ | (simp; done) | (simp; omega) | omega) _) | (with_reducible refine Ext.trans ?_ (by assumption)))))
          obtain ⟨c0, c1, cf, hz⟩ := hxx.two
          go_wp2_with fail
          exact bodyPost_ret (v := .tuple #[.agg #[.int .i64 0, .bool false], .int .i64 qe]) (by simp [results, Try.results109, c0, c1, go_sem, hz]) rfl ⟨by rw [HP.out], (by repeat' (first | (with_reducible exact Ext.refl _) | (with_reducible assumption) | (with_reducible refine Ext.alloc ?_ _) | (with_reducible refine Ext.drew ?_) | (with_reducible refine Ext.drewN ?_ _) | (with_reducible refine Ext.setCell ?_ (by first | exact Nat.le_refl _ | (simp; done) | (simp; omega) | omega) _) | (with_reducible refine Ext.trans ?_ (by assumption))))⟩
    | mul l r =>
      simp only [Ob.formed, Bool.and_eq_true] at hfo
      simp only [Ob.val, Ob.value]
      have H := fun w' (h : Ext w w') => pairMul_calls l r d p (l.value F d) (r.value F d) w' (fun w'' h' => ih l w'' (by simp at hk; omega) hwf.1 hfo.1 (hW.ext (h.trans h'))) (fun w'' h' => ih r w'' (by simp at hk; omega) hwf.2 hfo.2 (hW.ext (h.trans h')))
      generalize pairK mulS (l.value F d) (r.value F d) = q at *
      rcases Ob.form hwf.1 with e1 | ⟨t1, x1, e1⟩ <;> rcases Ob.form hwf.2 with e2 | ⟨t2, x2, e2⟩
      all_goals
        rw [e1, e2] at H ⊢
        clear e1 e2 ih hW hwf hfo
        go_enter Try.func109, Try.ntmps109
        go_wp2_with fail
        with_reducible refine (H _ ((by repeat' (first | (with_reducible exact Ext.refl _) | (with_reducible assumption) | (with_reducible refine Ext.alloc ?_ _) | (with_reducible refine Ext.drew ?_) | (with_reducible refine Ext.drewN ?_ _) | (with_reducible refine Ext.setCell ?_ (by first | exact Nat.le_refl _ | (simp; done) | (simp; omega) | omega) _) | (with_reducible refine Ext.trans ?_ (by assumption)))))).mono ?_
        rintro e w' ⟨rfl, hx⟩
        have hxx : Ext (w.alloc (.cells #[.int .i64 0, .bool false] 204 (0, 0))) w' := ((by repeat' (first | (with_reducible exact Ext.refl _) | (with_reducible assumption) | (with_reducible refine Ext.alloc ?_ _) | (with_reducible refine Ext.drew ?_) | (with_reducible refine Ext.drewN ?_ _) | (with_reducible refine Ext.setCell ?_ (by first | exact Nat.le_refl _ | (simp; done) | (simp; omega) | omega) _) | (with_reducible refine Ext.trans ?_ (by assumption)))))
        obtain ⟨c0, c1, cf, hz⟩ := hxx.two
        go_wp2_with fail
        exact bodyPost_ret (v := .tuple #[.agg #[.int .i64 q.n, .bool q.is], .int .i64 q.e]) (by simp [results, Try.results109, c0, c1, go_sem, hz]) rfl ⟨rfl, (by repeat' (first | (with_reducible exact Ext.refl _) | (with_reducible assumption) | (with_reducible refine Ext.alloc ?_ _) | (with_reducible refine Ext.drew ?_) | (with_reducible refine Ext.drewN ?_ _) | (with_reducible refine Ext.setCell ?_ (by first | exact Nat.le_refl _ | (simp; done) | (simp; omega) | omega) _) | (with_reducible refine Ext.trans ?_ (by assumption))))⟩
    | max l r =>
      simp only [Ob.formed, Bool.and_eq_true] at hfo
      simp only [Ob.val, Ob.value]
      have H := fun w' (h : Ext w w') => pairMax_calls l r d p (l.value F d) (r.value F d) w' (fun w'' h' => ih l w'' (by simp at hk; omega) hwf.1 hfo.1 (hW.ext (h.trans h'))) (fun w'' h' => ih r w'' (by simp at hk; omega) hwf.2 hfo.2 (hW.ext (h.trans h')))
      generalize pairK maxS (l.value F d) (r.value F d) = q at *
      rcases Ob.form hwf.1 with e1 | ⟨t1, x1, e1⟩ <;> rcases Ob.form hwf.2 with e2 | ⟨t2, x2, e2⟩
      all_goals
        rw [e1, e2] at H ⊢
        clear e1 e2 ih hW hwf hfo
        go_enter Try.func109, Try.ntmps109
        go_wp2_with fail
        with_reducible refine (H _ ((by repeat' (first | (with_reducible exact Ext.refl _) | (with_reducible assumption) | (with_reducible refine Ext.alloc ?_ _) | (with_reducible refine Ext.drew ?_) | (with_reducible refine Ext.drewN ?_ _) | (with_reducible refine Ext.setCell ?_ (by first | exact Nat.le_refl _ | (simp; done) | (simp; omega) | omega) _) | (with_reducible refine Ext.trans ?_ (by assumption)))))).mono ?_
        rintro e w' ⟨rfl, hx⟩
        have hxx : Ext (w.alloc (.cells #[.int .i64 0, .bool false] 204 (0, 0))) w' := ((by repeat' (first | (with_reducible exact Ext.refl _) | (with_reducible assumption) | (with_reducible refine Ext.alloc ?_ _) | (with_reducible refine Ext.drew ?_) | (with_reducible refine Ext.drewN ?_ _) | (with_reducible refine Ext.setCell ?_ (by first | exact Nat.le_refl _ | (simp; done) | (simp; omega) | omega) _) | (with_reducible refine Ext.trans ?_ (by assumption)))))
        obtain ⟨c0, c1, cf, hz⟩ := hxx.two
        go_wp2_with fail
        exact bodyPost_ret (v := .tuple #[.agg #[.int .i64 q.n, .bool q.is], .int .i64 q.e]) (by simp [results, Try.results109, c0, c1, go_sem, hz]) rfl ⟨rfl, (by repeat' (first | (with_reducible exact Ext.refl _) | (with_reducible assumption) | (with_reducible refine Ext.alloc ?_ _) | (with_reducible refine Ext.drew ?_) | (with_reducible refine Ext.drewN ?_ _) | (with_reducible refine Ext.setCell ?_ (by first | exact Nat.le_refl _ | (simp; done) | (simp; omega) | omega) _) | (with_reducible refine Ext.trans ?_ (by assumption))))⟩
    | odd v => simp [Ob.formed] at hfo

end Go.Proofs.Ytgjjngkmbplijaa

/- Package value: Of, Needs; the law's 'wakes'. -/
namespace Go.Proofs.Ytgjjngkmbplijaa
open Go.RowKit
set_option linter.unusedSimpArgs false
set_option linter.unusedVariables false

/-- What a number is, if it may be. -/
def Ob.ofV (F : FixL) (d : Int) (o : Ob) : Kn := if o.checked = 0 then o.value F d else ⟨0, false, 2⟩
theorem Ob.checked_form {o : Ob} (h : o.checked = 0) : o.formed = true := by
  unfold Ob.checked at h
  cases hf : o.formed with
  | true => rfl
  | false => rw [hf] at h; simp at h
def RetKn3 (w : World) (k : Kn) (e : Ending) (w' : World) : Prop := e = .returned (.tuple #[.int .i64 k.n, .bool k.is, .int .i64 k.e]) ∧ Ext w w'

set_option maxRecDepth 100000 in
set_option maxHeartbeats 800000 in
theorem vOf_calls (p f c : Nat) (F : FixL) (C : ChL) (d : Int) (o : Ob) (w : World) (hwf : o.wf) (hn : o.nodes < 2 ^ 62) (hW : Wld w p f c F C) :
    Calls Try.prog 62 #[o.val, .int .i64 d, .pointer (some ⟨p, 0, none⟩)] w fun e w' => RetKn3 w (o.ofV F d) e w' := by
  have H1 := ocheck_calls o w hwf hn
  by_cases h : o.checked = 0
  · have H2 := fun w' (h' : Ext w w') => of_calls _ p f c F C d o w' (Nat.lt_succ_self _) hwf (Ob.checked_form h) (hW.ext h')
    have HE := Lib.hid (show o.ofV F d = o.value F d by unfold Ob.ofV; rw [if_pos h])
    rw [h] at H1
    generalize o.ofV F d = q at *
    generalize o.value F d = q2 at *
    generalize o.val = v at *
    clear h hwf hn hW
    go_enter Try.func62, Try.ntmps62
    (go_wp2_with fail; (with_reducible refine (H1).mono ?_); rintro e w' ⟨rfl, hx⟩)
    (go_wp2_with fail; (with_reducible refine (H2 _ ((by repeat' (first | (with_reducible exact Ext.refl _) | (with_reducible assumption) | (with_reducible refine Ext.alloc ?_ _) | (with_reducible refine Ext.drew ?_) | (with_reducible refine Ext.drewN ?_ _) | (with_reducible refine Ext.setCell ?_ (by first | exact Nat.le_refl _ | (simp; done) | (simp; omega) | omega) _) | (with_reducible refine Ext.trans ?_ (by assumption)))))).mono ?_); rintro e w' ⟨rfl, hy⟩)
    go_wp2_with fail
    go_quiet (fail)
    go_wp2
    go_ret3
    exact ⟨by rw [HE.out]; rfl, (by repeat' (first | (with_reducible exact Ext.refl _) | (with_reducible assumption) | (with_reducible refine Ext.alloc ?_ _) | (with_reducible refine Ext.drew ?_) | (with_reducible refine Ext.drewN ?_ _) | (with_reducible refine Ext.setCell ?_ (by first | exact Nat.le_refl _ | (simp; done) | (simp; omega) | omega) _) | (with_reducible refine Ext.trans ?_ (by assumption))))⟩
  · have HE := Lib.hid (show o.ofV F d = ⟨0, false, 2⟩ by unfold Ob.ofV; rw [if_neg h])
    have hne : (o.checked != 0) = true := by simpa using h
    generalize o.ofV F d = q at *
    generalize o.val = v at *
    generalize o.checked = ck at *
    clear h hwf hn hW
    go_enter Try.func62, Try.ntmps62
    (go_wp2_with fail; (with_reducible refine (H1).mono ?_); rintro e w' ⟨rfl, hx⟩)
    go_wp2
    go_ret3
    exact ⟨by rw [HE.out]; rfl, (by repeat' (first | (with_reducible exact Ext.refl _) | (with_reducible assumption) | (with_reducible refine Ext.alloc ?_ _) | (with_reducible refine Ext.drew ?_) | (with_reducible refine Ext.drewN ?_ _) | (with_reducible refine Ext.setCell ?_ (by first | exact Nat.le_refl _ | (simp; done) | (simp; omega) | omega) _) | (with_reducible refine Ext.trans ?_ (by assumption))))⟩

/-- The names that are not fixed. -/
def notFixed (F : FixL) (d : Int) (l : List ByteArray) : List ByteArray := l.filter fun s => !(F.lookup (s, d)).isSome
def Ob.needs (F : FixL) (d : Int) (o : Ob) : List ByteArray := if o.checked = 0 then notFixed F d o.names else []
theorem notFixed_take {F : FixL} {d : Int} {l : List ByteArray} {j : Nat} {s : ByteArray} (h : l[j]? = some s) : notFixed F d (l.take (j + 1)) = notFixed F d (l.take j) ++ (if (F.lookup (s, d)).isSome = true then [] else [s]) := by
  unfold notFixed
  rw [List.take_add_one, h, List.filter_append]
  cases hq : (F.lookup (s, d)).isSome <;> simp only [Option.toList, List.filter_cons, List.filter_nil, hq] <;> rfl
theorem notFixed_len (F : FixL) (d : Int) (l : List ByteArray) : (notFixed F d l).length ≤ l.length := List.length_filter_le _ _

set_option maxRecDepth 100000 in
set_option maxHeartbeats 800000 in
theorem vneeds_calls (p f c : Nat) (F : FixL) (C : ChL) (d : Int) (o : Ob) (w : World) (hwf : o.wf) (hn : o.nodes ≤ 2 ^ 32) (hW : Wld w p f c F C) :
    Calls Try.prog 68 #[o.val, .int .i64 d, .pointer (some ⟨p, 0, none⟩)] w fun e w' => RetOwn w 9 1 (o.needs F d).length (strVals (o.needs F d)) e w' := by
  have H1 := ocheck_calls o w hwf (by omega)
  by_cases h : o.checked = 0
  · have H2 := fun w' => onames_calls _ o w' (Nat.lt_succ_self _) hwf hn
    have HE := Lib.hid (show o.needs F d = notFixed F d o.names by unfold Ob.needs; rw [if_pos h])
    have HL : o.names.length ≤ 2 ^ 32 := Nat.le_trans o.names_len hn
    rw [h] at H1
    generalize o.needs F d = q at *
    generalize o.names = N at *
    generalize o.val = v at *
    clear h hwf hn
    have HW := Lib.hid hW
    clear hW
    go_enter Try.func68, Try.ntmps68
    (go_wp2_with fail; (with_reducible refine (H1).mono ?_); rintro e w' ⟨rfl, hx⟩)
    (go_wp2_with fail; (with_reducible refine (H2 _).mono ?_); rintro e w' ⟨nv, rfl, hno, hy⟩)
    obtain ⟨A, c2, rfl, hnc, hcm⟩ := own_form hno
    have hno0 := Lib.hid (own_mono hno hx.le)
    have hxy := hx.trans hy
    unfold maxLen at hcm
    clear hno H1 H2
    go_wp2_with fail
    go_loopw [18, 7] (fun i out wr => ∃ (j : Nat) (A1 : Option Addr) (C1 : Nat) (L : List ByteArray), j ≤ N.length ∧ i = .int .i64 j ∧ out = .slice A1 L.length C1 ∧ L = notFixed F d (N.take j) ∧ Ext w wr ∧
      wr.ownsRow w.heap.size 9 1 (.slice A1 L.length C1) L.length (strVals L) ∧ wr.ownsRow w.heap.size 9 1 (.slice A N.length c2) N.length (strVals N) ∧ ((Value.slice A N.length c2).ownBlock = none ∨ (Value.slice A N.length c2).ownBlock ≠ (Value.slice A1 L.length C1).ownBlock)) (fun i _ _ => N.length - (intOf i).toNat)
    case atStart => exact ⟨0, none, 0, [], by omega, rfl, rfl, rfl, hxy, World.ownsRow_nil _ _ _ _, hno0.out, by cases A with | none => exact .inl rfl | some a => exact .inr (by simp [Value.ownBlock])⟩
    case round =>
      obtain ⟨j, A1, C1, L, hj, rfl, rfl, hL, hE, hown, hno, hne⟩ := hrel
      by_cases hlt : j < N.length
      · obtain ⟨s, e1, hv⟩ := strVals_at hlt
        obtain ⟨ad2, u, rfl, hu, hc2⟩ := (Rd.of_own hno).at1 hlt
        obtain rfl : Value.string s = u := by rw [hv] at hu; injection hu
        have HF := fixed_calls p f c F C s d wr (HW.out.ext hE)
        have hj0 := Lib.hid (show j + 1 ≤ N.length from hlt)
        have hS := notFixed_take (F := F) (d := d) e1
        rw [← hL] at hS
        have hMl : L.length ≤ j := by rw [hL]; exact Nat.le_trans (notFixed_len _ _ _) (List.length_take_le _ _)
        have h63 : L.length + 1 ≤ maxLen := by unfold maxLen; omega
        have hby : (L.length + 1) * 16 ≤ 140737488355328 := by omega
        have hrel := Lib.hid (And.intro hE (And.intro hown (And.intro hno hne)))
        clear hv hu e1 hL hno hne hE
        cases hb : (F.lookup (s, d)).isSome with
        | true =>
          rw [hb, if_pos rfl, List.append_nil] at hS
          have hS := Lib.hid hS
          rw [hb] at HF
          clear hown
          (go_wp2_with fail; (with_reducible refine (HF).mono ?_); rintro e w' ⟨rfl, rfl⟩)
          go_wp2_with fail
          go_roundw
          case rel => exact ⟨j + 1, A1, C1, L, hj0.out, by go_num, rfl, hS.out.symm, hrel.out⟩
          case measure => simp [intOf]; omega
        | false =>
          rw [hb, if_neg (by decide)] at hS
          have hS := Lib.hid hS
          rw [hb] at HF
          (go_wp2_with fail; (with_reducible refine (HF).mono ?_); rintro e w' ⟨rfl, rfl⟩)
          go_wp2_with (at_builtin; refine wpList_app elemStr rfl _ _ rfl w.heap.size (.slice A1 L.length C1) L.length (strVals L) rfl (hown.alloc _) _ 1 1 [.string s] rfl (Rd.new _ #[.string s] _ 1 1 rfl) (by simp [Value.oneCell']) h63 hby (by have := hrel.out.1.le; simp; omega) ?_; intro v1 w1 hown1 hg1 hat1)
          have hno6 := Lib.hid ((hrel.out.2.2.1.alloc _).kept hg1 hrel.out.2.2.2)
          have hne6 := Lib.hid (own_ne (hrel.out.2.2.1.alloc _) hrel.out.2.2.2 hat1)
          have hE6 := Lib.hid ((hrel.out.1.alloc _).grown hg1 (fun k hk => (hown.lt k hk).1))
          obtain ⟨A6, C6, rfl, h6, h7⟩ := own_form hown1
          have e7 := Lib.hid (show (L ++ [s]).length = L.length + 1 by simp)
          have hown6 := Lib.hid hown1
          clear hown1 hg1 hat1 h63 hby hown
          go_wp2_with fail
          go_roundw
          case rel => exact ⟨j + 1, A6, C6, L ++ [s], hj0.out, by go_num, by rw [e7.out], hS.out.symm, hE6.out, by rw [e7.out, strVals_app]; exact hown6.out, hno6.out, by rw [e7.out]; exact hne6.out⟩
          case measure => simp [intOf]; omega
      · obtain rfl : j = N.length := by omega
        rw [List.take_length, ← HE.out] at hL
        subst hL
        clear hno hne
        go_wp2
        apply bodyPost_ret
        · exact results_tmp rfl _ _ _
        · rfl
        exact ⟨_, rfl, hown, hE⟩
  · have HE := Lib.hid (show o.needs F d = [] by unfold Ob.needs; rw [if_neg h])
    have hne : (o.checked != 0) = true := by simpa using h
    rw [HE.out]
    generalize o.val = v at *
    generalize o.checked = ck at *
    clear h hwf hn hW HE
    go_enter Try.func68, Try.ntmps68
    (go_wp2_with fail; (with_reducible refine (H1).mono ?_); rintro e w' ⟨rfl, hx⟩)
    go_wp2
    apply bodyPost_ret
    · exact results_tmp rfl _ _ _
    · rfl
    exact ⟨_, rfl, World.ownsRow_nil _ _ _ _, (by repeat' (first | (with_reducible exact Ext.refl _) | (with_reducible assumption) | (with_reducible refine Ext.alloc ?_ _) | (with_reducible refine Ext.drew ?_) | (with_reducible refine Ext.drewN ?_ _) | (with_reducible refine Ext.setCell ?_ (by first | exact Nat.le_refl _ | (simp; done) | (simp; omega) | omega) _) | (with_reducible refine Ext.trans ?_ (by assumption))))⟩

set_option maxRecDepth 100000 in
set_option maxHeartbeats 400000 in
theorem wakes09_calls (w : World) : Calls Try.prog 63 #[] w fun e w' => e = .returned (.bool true) ∧ Ext w w' := by
  have H := fun p f c w' hW => vOf_calls p f c [] [] 0 (.const 7) w' ⟨by omega, by omega⟩ (by decide) hW
  rw [show Ob.ofV [] 0 (.const 7) = ⟨7, true, 0⟩ by rfl] at H
  simp only [Ob.val] at H
  go_enter Try.func63, Try.ntmps63
  (go_wp2_with fail; (with_reducible refine (new_calls _).mono ?_); rintro e w' ⟨p, f, c, rfl, hW, hx, h1, h2, h3⟩)
  (go_wp2_with fail; (with_reducible refine (H p f c _ hW).mono ?_); rintro e w' ⟨rfl, hy⟩)
  go_wp2
  go_ret
  exact ⟨rfl, (by repeat' (first | (with_reducible exact Ext.refl _) | (with_reducible assumption) | (with_reducible refine Ext.alloc ?_ _) | (with_reducible refine Ext.drew ?_) | (with_reducible refine Ext.drewN ?_ _) | (with_reducible refine Ext.setCell ?_ (by first | exact Nat.le_refl _ | (simp; done) | (simp; omega) | omega) _) | (with_reducible refine Ext.trans ?_ (by assumption))))⟩

end Go.Proofs.Ytgjjngkmbplijaa
