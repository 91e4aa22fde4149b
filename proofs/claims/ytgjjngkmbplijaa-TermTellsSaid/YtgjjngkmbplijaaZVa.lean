/- Package value: what a number is. -/
import Derived.Test.YtgjjngkmbplijaaYLaw04
import Derived.Test.YtgjjngkmbplijaaYLaw08

namespace Go.Proofs.Ytgjjngkmbplijaa
open Go.RowKit
set_option linter.unusedSimpArgs false
set_option linter.unusedVariables false

/-- A number, if it is known; an error. -/
structure Kn where
  n : Int
  is : Bool
  e : Int
def toldK (p : Int × Bool) : Kn := if p.2 = true then ⟨p.1, true, 0⟩ else ⟨0, false, 6⟩
def pairK (put : Int → Int → Int × Bool) (a b : Kn) : Kn :=
  if a.e ≠ 0 then ⟨0, false, a.e⟩ else if b.e ≠ 0 ∨ a.is = false ∨ b.is = false then ⟨0, false, b.e⟩ else toldK (put a.n b.n)
def negK (a : Kn) : Kn := if a.e ≠ 0 ∨ a.is = false then ⟨0, false, a.e⟩ else toldK (negS a.n)
def maxS (a b : Int) : Int × Bool := (Max.max a b, true)
def Ob.value (F : FixL) (d : Int) : Ob → Kn
  | .const n => ⟨n, true, 0⟩
  | .fix s => ⟨(F.lookup (s, d)).getD 0, (F.lookup (s, d)).isSome, 0⟩
  | .add l r => pairK addS (l.value F d) (r.value F d)
  | .neg o => negK (o.value F d)
  | .mul l r => pairK mulS (l.value F d) (r.value F d)
  | .max l r => pairK maxS (l.value F d) (r.value F d)
  | .odd _ => ⟨0, false, 0⟩
theorem toldK_yes {n : Int} : toldK (n, true) = ⟨n, true, 0⟩ := rfl
theorem toldK_no {n : Int} : toldK (n, false) = ⟨0, false, 6⟩ := rfl
theorem pairK_e1 {put : Int → Int → Int × Bool} {a b : Kn} (h : a.e ≠ 0) : pairK put a b = ⟨0, false, a.e⟩ := by unfold pairK; rw [if_pos h]
theorem pairK_e2 {put : Int → Int → Int × Bool} {a b : Kn} (h : a.e = 0) (h2 : b.e ≠ 0 ∨ a.is = false ∨ b.is = false) : pairK put a b = ⟨0, false, b.e⟩ := by unfold pairK; rw [if_neg (by simp [h]), if_pos h2]
theorem pairK_ok {put : Int → Int → Int × Bool} {a b : Kn} (h : a.e = 0) (h2 : b.e = 0) (h3 : a.is = true) (h4 : b.is = true) : pairK put a b = toldK (put a.n b.n) := by
  unfold pairK; rw [if_neg (by simp [h]), if_neg (by simp [h2, h3, h4])]
theorem negK_no {a : Kn} (h : a.e ≠ 0 ∨ a.is = false) : negK a = ⟨0, false, a.e⟩ := by unfold negK; rw [if_pos h]
theorem negK_ok {a : Kn} (h : a.e = 0) (h2 : a.is = true) : negK a = toldK (negS a.n) := by unfold negK; rw [if_neg (by simp [h, h2])]

/-- What is known of a number comes back; nothing that was there has turned. -/
def RetKn (w : World) (k : Kn) (e : Ending) (w' : World) : Prop := e = .returned (.tuple #[.agg #[.int .i64 k.n, .bool k.is], .int .i64 k.e]) ∧ Ext w w'

set_option maxRecDepth 100000 in
set_option maxHeartbeats 400000 in
theorem vtold_calls (p : Int × Bool) (w : World) : Calls Try.prog 139 #[.int .i64 p.1, .bool p.2] w fun e w' => RetKn w (toldK p) e w' := by
  obtain ⟨n, ok⟩ := p
  cases ok with
  | false =>
    go_enter Try.func139, Try.ntmps139
    go_wp2
    exact bodyPost_ret (v := .tuple #[.agg #[.int .i64 0, .bool false], .int .i64 6]) (by simp [results, Try.results139, go_sem]) rfl ⟨rfl, (by repeat' (first | (with_reducible exact Ext.refl _) | (with_reducible assumption) | (with_reducible refine Ext.alloc ?_ _) | (with_reducible refine Ext.drew ?_) | (with_reducible refine Ext.drewN ?_ _) | (with_reducible refine Ext.setCell ?_ (by first | exact Nat.le_refl _ | (simp; done) | (simp; omega) | omega) _) | (with_reducible refine Ext.trans ?_ (by assumption))))⟩
  | true =>
    go_enter Try.func139, Try.ntmps139
    go_wp2
    exact bodyPost_ret (v := .tuple #[.agg #[.int .i64 n, .bool true], .int .i64 0]) (by simp [results, Try.results139, go_sem]) rfl ⟨rfl, (by repeat' (first | (with_reducible exact Ext.refl _) | (with_reducible assumption) | (with_reducible refine Ext.alloc ?_ _) | (with_reducible refine Ext.drew ?_) | (with_reducible refine Ext.drewN ?_ _) | (with_reducible refine Ext.setCell ?_ (by first | exact Nat.le_refl _ | (simp; done) | (simp; omega) | omega) _) | (with_reducible refine Ext.trans ?_ (by assumption))))⟩

set_option maxRecDepth 100000 in
set_option maxHeartbeats 400000 in
theorem greater_calls (a b : Int) (w : World) : Calls Try.prog 138 #[.int .i64 a, .int .i64 b] w fun e w' => e = retIB (maxS a b) ∧ w = w' := by
  by_cases h : a < b
  · have e1 := Lib.hid (show maxS a b = (b, true) by unfold maxS; rw [Int.max_eq_right (by omega)])
    go_enter Try.func138, Try.ntmps138
    go_wp2
    go_ret2
    exact ⟨by rw [e1.out]; first | rfl | (simp [retIB]; omega), rfl⟩
  · have e1 := Lib.hid (show maxS a b = (a, true) by unfold maxS; rw [Int.max_eq_left (by omega)])
    go_enter Try.func138, Try.ntmps138
    go_wp2
    go_ret2
    exact ⟨by rw [e1.out]; first | rfl | (simp [retIB]; omega), rfl⟩

theorem Ext.lit {a b : World} (h : Ext a b) {k : Nat} {cs : Array Value} {e : TypeId} (hb : a.heap[k]? = some (.cells cs e (0, 0))) : b.heap[k]? = some (.cells cs e (0, 0)) := h.obj hb
theorem obj_cells {b : World} {k : Nat} {cs : Array Value} {e : TypeId} (hb : b.heap[k]? = some (.cells cs e (0, 0))) : (∀ j v, cs[j]? = some v → b.cell? ⟨k, j, none⟩ = some v) ∧ (∀ o, b.frozen? ⟨k, o, none⟩ = false) ∧ k < b.heap.size := by
  refine ⟨fun j v hv => ?_, fun o => ?_, (Array.getElem?_eq_some_iff.1 hb).1⟩
  · simp only [World.cell?, hb]; simpa using hv
  · simp [World.frozen?, hb]
/-- A block of two cells that was made ahead of a call. -/
theorem Ext.two {w b : World} {x y : Value} {e : TypeId} (h : Ext (w.alloc (.cells #[x, y] e (0, 0))) b) : b.cell? ⟨w.heap.size, 0, none⟩ = some x ∧ b.cell? ⟨w.heap.size, 1, none⟩ = some y ∧ (∀ o, b.frozen? ⟨w.heap.size, o, none⟩ = false) ∧ w.heap.size < b.heap.size := by
  obtain ⟨h1, h2, h3⟩ := obj_cells (h.lit (heap_new w _))
  exact ⟨h1 0 x rfl, h1 1 y rfl, h2, h3⟩

set_option maxRecDepth 100000 in
set_option maxHeartbeats 800000 in
theorem pairAdd_calls (l r : Ob) (d : Int) (p : Nat) (a b : Kn) (w : World) (Hl : ∀ w', Ext w w' → Calls Try.prog 109 #[l.val, .int .i64 d, .pointer (some ⟨p, 0, none⟩)] w' fun e w'' => RetKn w' a e w'')
    (Hr : ∀ w', Ext w w' → Calls Try.prog 109 #[r.val, .int .i64 d, .pointer (some ⟨p, 0, none⟩)] w' fun e w'' => RetKn w' b e w'') :
    Calls Try.prog 136 #[l.val, r.val, .int .i64 d, .pointer (some ⟨p, 0, none⟩), .func (.func 72) #[] #[]] w fun e w' => RetKn w (pairK addS a b) e w' := by
  generalize l.val = lv at *
  generalize r.val = rv at *
  obtain ⟨an, ai, ae⟩ := a
  obtain ⟨bn, bi, be⟩ := b
  have hA := (Ext.refl w).alloc (.cells #[.int .i64 0, .bool false] 204 (0, 0))
  by_cases h1 : ae = 0
  · subst h1
    by_cases h2 : be = 0
    · subst h2
      cases ai with
      | true => cases bi with
        | true =>
          have HP := Lib.hid (pairK_ok (put := addS) (a := ⟨an, true, 0⟩) (b := ⟨bn, true, 0⟩) rfl rfl rfl rfl)
          have hput' := fun w => add_calls an bn w
          generalize addS an bn = q at *
          have HT := fun w => vtold_calls q w
          obtain ⟨qn, qb⟩ := q
          go_enter Try.func136, Try.ntmps136
          (go_wp2_with fail; (with_reducible refine (Hl _ hA).mono ?_); rintro e w' ⟨rfl, hx⟩)
          obtain ⟨c0, c1, cf, hz⟩ := hx.two
          go_wp2_with fail
          have hB : Ext w (w'.alloc (.cells #[.int .i64 an, .bool true] 204)) := (hA.trans hx).alloc _
          with_reducible refine (Hr _ hB).mono ?_
          rintro e w2 ⟨rfl, hy⟩
          obtain ⟨b0, b1, bf, hz2⟩ := hy.two
          have hxy := (hx.alloc (.cells #[.int .i64 an, .bool true] 204)).trans hy
          obtain ⟨c0, c1, cf, hz3⟩ := hxy.two
          go_wp2_with fail
          with_reducible refine (hput' _).mono ?_
          rintro e w3 ⟨rfl, rfl⟩
          unfold retIB
          (go_wp2_with fail; (with_reducible refine (HT _).mono ?_); rintro e w' ⟨rfl, hv⟩)
          generalize toldK (qn, qb) = k at *
          obtain ⟨c0, c1, cf, hz4⟩ := ((hxy.alloc (.cells #[.int .i64 bn, .bool true] 204)).trans hv).two
          go_wp2_with fail
          exact bodyPost_ret (v := .tuple #[.agg #[.int .i64 k.n, .bool k.is], .int .i64 k.e]) (by simp [results, Try.results136, c0, c1, go_sem, hz4]) rfl ⟨by rw [HP.out], (by repeat' (first | (with_reducible exact Ext.refl _) | (with_reducible assumption) | (with_reducible refine Ext.alloc ?_ _) | (with_reducible refine Ext.drew ?_) | (with_reducible refine Ext.drewN ?_ _) | (with_reducible refine Ext.setCell ?_ (by first | exact Nat.le_refl _ | (simp; done) | (simp; omega) | omega) _) | (with_reducible refine Ext.trans ?_ (by assumption))))⟩
        | false =>
          have HP := Lib.hid (pairK_e2 (put := addS) (a := ⟨an, true, 0⟩) (b := ⟨bn, false, 0⟩) rfl (.inr (.inr rfl)))
          go_enter Try.func136, Try.ntmps136
          (go_wp2_with fail; (with_reducible refine (Hl _ hA).mono ?_); rintro e w' ⟨rfl, hx⟩)
          obtain ⟨c0, c1, cf, hz⟩ := hx.two
          go_wp2_with fail
          have hB := (hA.trans hx).alloc (.cells #[.int .i64 an, .bool true] 204)
          with_reducible refine (Hr _ hB).mono ?_
          rintro e w2 ⟨rfl, hy⟩
          obtain ⟨b0, b1, bf, hz2⟩ := hy.two
          have hxy := (hx.alloc (.cells #[.int .i64 an, .bool true] 204)).trans hy
          obtain ⟨c0, c1, cf, hz3⟩ := hxy.two
          go_wp2_with fail
          exact bodyPost_ret (v := .tuple #[.agg #[.int .i64 0, .bool false], .int .i64 0]) (by simp [results, Try.results136, c0, c1, go_sem, hz3]) rfl ⟨by rw [HP.out], (by repeat' (first | (with_reducible exact Ext.refl _) | (with_reducible assumption) | (with_reducible refine Ext.alloc ?_ _) | (with_reducible refine Ext.drew ?_) | (with_reducible refine Ext.drewN ?_ _) | (with_reducible refine Ext.setCell ?_ (by first | exact Nat.le_refl _ | (simp; done) | (simp; omega) | omega) _) | (with_reducible refine Ext.trans ?_ (by assumption))))⟩
      | false =>
        have HP := Lib.hid (pairK_e2 (put := addS) (a := ⟨an, false, 0⟩) (b := ⟨bn, bi, 0⟩) rfl (.inr (.inl rfl)))
        go_enter Try.func136, Try.ntmps136
        (go_wp2_with fail; (with_reducible refine (Hl _ hA).mono ?_); rintro e w' ⟨rfl, hx⟩)
        obtain ⟨c0, c1, cf, hz⟩ := hx.two
        go_wp2_with fail
        have hB := (hA.trans hx).alloc (.cells #[.int .i64 an, .bool false] 204)
        with_reducible refine (Hr _ hB).mono ?_
        rintro e w2 ⟨rfl, hy⟩
        obtain ⟨b0, b1, bf, hz2⟩ := hy.two
        have hxy := (hx.alloc (.cells #[.int .i64 an, .bool false] 204)).trans hy
        obtain ⟨c0, c1, cf, hz3⟩ := hxy.two
        go_wp2_with fail
        exact bodyPost_ret (v := .tuple #[.agg #[.int .i64 0, .bool false], .int .i64 0]) (by simp [results, Try.results136, c0, c1, go_sem, hz3]) rfl ⟨by rw [HP.out], (by repeat' (first | (with_reducible exact Ext.refl _) | (with_reducible assumption) | (with_reducible refine Ext.alloc ?_ _) | (with_reducible refine Ext.drew ?_) | (with_reducible refine Ext.drewN ?_ _) | (with_reducible refine Ext.setCell ?_ (by first | exact Nat.le_refl _ | (simp; done) | (simp; omega) | omega) _) | (with_reducible refine Ext.trans ?_ (by assumption))))⟩
    · have HP := Lib.hid (pairK_e2 (put := addS) (a := ⟨an, ai, 0⟩) (b := ⟨bn, bi, be⟩) rfl (.inl h2))
      have hne : (be != 0) = true := by simpa using h2
      go_enter Try.func136, Try.ntmps136
      (go_wp2_with fail; (with_reducible refine (Hl _ hA).mono ?_); rintro e w' ⟨rfl, hx⟩)
      obtain ⟨c0, c1, cf, hz⟩ := hx.two
      go_wp2_with fail
      have hB := (hA.trans hx).alloc (.cells #[.int .i64 an, .bool ai] 204)
      with_reducible refine (Hr _ hB).mono ?_
      rintro e w2 ⟨rfl, hy⟩
      obtain ⟨b0, b1, bf, hz2⟩ := hy.two
      have hxy := (hx.alloc (.cells #[.int .i64 an, .bool ai] 204)).trans hy
      obtain ⟨c0, c1, cf, hz3⟩ := hxy.two
      go_wp2_with fail
      exact bodyPost_ret (v := .tuple #[.agg #[.int .i64 0, .bool false], .int .i64 be]) (by simp [results, Try.results136, c0, c1, go_sem, hz3]) rfl ⟨by rw [HP.out], (by repeat' (first | (with_reducible exact Ext.refl _) | (with_reducible assumption) | (with_reducible refine Ext.alloc ?_ _) | (with_reducible refine Ext.drew ?_) | (with_reducible refine Ext.drewN ?_ _) | (with_reducible refine Ext.setCell ?_ (by first | exact Nat.le_refl _ | (simp; done) | (simp; omega) | omega) _) | (with_reducible refine Ext.trans ?_ (by assumption))))⟩
  · have HP := Lib.hid (pairK_e1 (put := addS) (a := ⟨an, ai, ae⟩) (b := ⟨bn, bi, be⟩) h1)
    have hne : (ae != 0) = true := by simpa using h1
    go_enter Try.func136, Try.ntmps136
    (go_wp2_with fail; (with_reducible refine (Hl _ hA).mono ?_); rintro e w' ⟨rfl, hx⟩)
    obtain ⟨c0, c1, cf, hz⟩ := hx.two
    go_wp2_with fail
    exact bodyPost_ret (v := .tuple #[.agg #[.int .i64 0, .bool false], .int .i64 ae]) (by simp [results, Try.results136, c0, c1, go_sem, hz]) rfl ⟨by rw [HP.out], (by repeat' (first | (with_reducible exact Ext.refl _) | (with_reducible assumption) | (with_reducible refine Ext.alloc ?_ _) | (with_reducible refine Ext.drew ?_) | (with_reducible refine Ext.drewN ?_ _) | (with_reducible refine Ext.setCell ?_ (by first | exact Nat.le_refl _ | (simp; done) | (simp; omega) | omega) _) | (with_reducible refine Ext.trans ?_ (by assumption))))⟩

set_option maxRecDepth 100000 in
set_option maxHeartbeats 800000 in
theorem pairMul_calls (l r : Ob) (d : Int) (p : Nat) (a b : Kn) (w : World) (Hl : ∀ w', Ext w w' → Calls Try.prog 109 #[l.val, .int .i64 d, .pointer (some ⟨p, 0, none⟩)] w' fun e w'' => RetKn w' a e w'')
    (Hr : ∀ w', Ext w w' → Calls Try.prog 109 #[r.val, .int .i64 d, .pointer (some ⟨p, 0, none⟩)] w' fun e w'' => RetKn w' b e w'') :
    Calls Try.prog 136 #[l.val, r.val, .int .i64 d, .pointer (some ⟨p, 0, none⟩), .func (.func 137) #[] #[]] w fun e w' => RetKn w (pairK mulS a b) e w' := by
  generalize l.val = lv at *
  generalize r.val = rv at *
  obtain ⟨an, ai, ae⟩ := a
  obtain ⟨bn, bi, be⟩ := b
  have hA := (Ext.refl w).alloc (.cells #[.int .i64 0, .bool false] 204 (0, 0))
  by_cases h1 : ae = 0
  · subst h1
    by_cases h2 : be = 0
    · subst h2
      cases ai with
      | true => cases bi with
        | true =>
          have HP := Lib.hid (pairK_ok (put := mulS) (a := ⟨an, true, 0⟩) (b := ⟨bn, true, 0⟩) rfl rfl rfl rfl)
          have hput' := fun w => mul_calls an bn w
          generalize mulS an bn = q at *
          have HT := fun w => vtold_calls q w
          obtain ⟨qn, qb⟩ := q
          go_enter Try.func136, Try.ntmps136
          (go_wp2_with fail; (with_reducible refine (Hl _ hA).mono ?_); rintro e w' ⟨rfl, hx⟩)
          obtain ⟨c0, c1, cf, hz⟩ := hx.two
          go_wp2_with fail
          have hB : Ext w (w'.alloc (.cells #[.int .i64 an, .bool true] 204)) := (hA.trans hx).alloc _
          with_reducible refine (Hr _ hB).mono ?_
          rintro e w2 ⟨rfl, hy⟩
          obtain ⟨b0, b1, bf, hz2⟩ := hy.two
          have hxy := (hx.alloc (.cells #[.int .i64 an, .bool true] 204)).trans hy
          obtain ⟨c0, c1, cf, hz3⟩ := hxy.two
          go_wp2_with fail
          with_reducible refine (hput' _).mono ?_
          rintro e w3 ⟨rfl, rfl⟩
          unfold retIB
          (go_wp2_with fail; (with_reducible refine (HT _).mono ?_); rintro e w' ⟨rfl, hv⟩)
          generalize toldK (qn, qb) = k at *
          obtain ⟨c0, c1, cf, hz4⟩ := ((hxy.alloc (.cells #[.int .i64 bn, .bool true] 204)).trans hv).two
          go_wp2_with fail
          exact bodyPost_ret (v := .tuple #[.agg #[.int .i64 k.n, .bool k.is], .int .i64 k.e]) (by simp [results, Try.results136, c0, c1, go_sem, hz4]) rfl ⟨by rw [HP.out], (by repeat' (first | (with_reducible exact Ext.refl _) | (with_reducible assumption) | (with_reducible refine Ext.alloc ?_ _) | (with_reducible refine Ext.drew ?_) | (with_reducible refine Ext.drewN ?_ _) | (with_reducible refine Ext.setCell ?_ (by first | exact Nat.le_refl _ | (simp; done) | (simp; omega) | omega) _) | (with_reducible refine Ext.trans ?_ (by assumption))))⟩
        | false =>
          have HP := Lib.hid (pairK_e2 (put := mulS) (a := ⟨an, true, 0⟩) (b := ⟨bn, false, 0⟩) rfl (.inr (.inr rfl)))
          go_enter Try.func136, Try.ntmps136
          (go_wp2_with fail; (with_reducible refine (Hl _ hA).mono ?_); rintro e w' ⟨rfl, hx⟩)
          obtain ⟨c0, c1, cf, hz⟩ := hx.two
          go_wp2_with fail
          have hB := (hA.trans hx).alloc (.cells #[.int .i64 an, .bool true] 204)
          with_reducible refine (Hr _ hB).mono ?_
          rintro e w2 ⟨rfl, hy⟩
          obtain ⟨b0, b1, bf, hz2⟩ := hy.two
          have hxy := (hx.alloc (.cells #[.int .i64 an, .bool true] 204)).trans hy
          obtain ⟨c0, c1, cf, hz3⟩ := hxy.two
          go_wp2_with fail
          exact bodyPost_ret (v := .tuple #[.agg #[.int .i64 0, .bool false], .int .i64 0]) (by simp [results, Try.results136, c0, c1, go_sem, hz3]) rfl ⟨by rw [HP.out], (by repeat' (first | (with_reducible exact Ext.refl _) | (with_reducible assumption) | (with_reducible refine Ext.alloc ?_ _) | (with_reducible refine Ext.drew ?_) | (with_reducible refine Ext.drewN ?_ _) | (with_reducible refine Ext.setCell ?_ (by first | exact Nat.le_refl _ | (simp; done) | (simp; omega) | omega) _) | (with_reducible refine Ext.trans ?_ (by assumption))))⟩
      | false =>
        have HP := Lib.hid (pairK_e2 (put := mulS) (a := ⟨an, false, 0⟩) (b := ⟨bn, bi, 0⟩) rfl (.inr (.inl rfl)))
        go_enter Try.func136, Try.ntmps136
        (go_wp2_with fail; (with_reducible refine (Hl _ hA).mono ?_); rintro e w' ⟨rfl, hx⟩)
        obtain ⟨c0, c1, cf, hz⟩ := hx.two
        go_wp2_with fail
        have hB := (hA.trans hx).alloc (.cells #[.int .i64 an, .bool false] 204)
        with_reducible refine (Hr _ hB).mono ?_
        rintro e w2 ⟨rfl, hy⟩
        obtain ⟨b0, b1, bf, hz2⟩ := hy.two
        have hxy := (hx.alloc (.cells #[.int .i64 an, .bool false] 204)).trans hy
        obtain ⟨c0, c1, cf, hz3⟩ := hxy.two
        go_wp2_with fail
        exact bodyPost_ret (v := .tuple #[.agg #[.int .i64 0, .bool false], .int .i64 0]) (by simp [results, Try.results136, c0, c1, go_sem, hz3]) rfl ⟨by rw [HP.out], (by repeat' (first | (with_reducible exact Ext.refl _) | (with_reducible assumption) | (with_reducible refine Ext.alloc ?_ _) | (with_reducible refine Ext.drew ?_) | (with_reducible refine Ext.drewN ?_ _) | (with_reducible refine Ext.setCell ?_ (by first | exact Nat.le_refl _ | (simp; done) | (simp; omega) | omega) _) | (with_reducible refine Ext.trans ?_ (by assumption))))⟩
    · have HP := Lib.hid (pairK_e2 (put := mulS) (a := ⟨an, ai, 0⟩) (b := ⟨bn, bi, be⟩) rfl (.inl h2))
      have hne : (be != 0) = true := by simpa using h2
      go_enter Try.func136, Try.ntmps136
      (go_wp2_with fail; (with_reducible refine (Hl _ hA).mono ?_); rintro e w' ⟨rfl, hx⟩)
      obtain ⟨c0, c1, cf, hz⟩ := hx.two
      go_wp2_with fail
      have hB := (hA.trans hx).alloc (.cells #[.int .i64 an, .bool ai] 204)
      with_reducible refine (Hr _ hB).mono ?_
      rintro e w2 ⟨rfl, hy⟩
      obtain ⟨b0, b1, bf, hz2⟩ := hy.two
      have hxy := (hx.alloc (.cells #[.int .i64 an, .bool ai] 204)).trans hy
      obtain ⟨c0, c1, cf, hz3⟩ := hxy.two
      go_wp2_with fail
      exact bodyPost_ret (v := .tuple #[.agg #[.int .i64 0, .bool false], .int .i64 be]) (by simp [results, Try.results136, c0, c1, go_sem, hz3]) rfl ⟨by rw [HP.out], (by repeat' (first | (with_reducible exact Ext.refl _) | (with_reducible assumption) | (with_reducible refine Ext.alloc ?_ _) | (with_reducible refine Ext.drew ?_) | (with_reducible refine Ext.drewN ?_ _) | (with_reducible refine Ext.setCell ?_ (by first | exact Nat.le_refl _ | (simp; done) | (simp; omega) | omega) _) | (with_reducible refine Ext.trans ?_ (by assumption))))⟩
  · have HP := Lib.hid (pairK_e1 (put := mulS) (a := ⟨an, ai, ae⟩) (b := ⟨bn, bi, be⟩) h1)
    have hne : (ae != 0) = true := by simpa using h1
    go_enter Try.func136, Try.ntmps136
    (go_wp2_with fail; (with_reducible refine (Hl _ hA).mono ?_); rintro e w' ⟨rfl, hx⟩)
    obtain ⟨c0, c1, cf, hz⟩ := hx.two
    go_wp2_with fail
    exact bodyPost_ret (v := .tuple #[.agg #[.int .i64 0, .bool false], .int .i64 ae]) (by simp [results, Try.results136, c0, c1, go_sem, hz]) rfl ⟨by rw [HP.out], (by repeat' (first | (with_reducible exact Ext.refl _) | (with_reducible assumption) | (with_reducible refine Ext.alloc ?_ _) | (with_reducible refine Ext.drew ?_) | (with_reducible refine Ext.drewN ?_ _) | (with_reducible refine Ext.setCell ?_ (by first | exact Nat.le_refl _ | (simp; done) | (simp; omega) | omega) _) | (with_reducible refine Ext.trans ?_ (by assumption))))⟩

set_option maxRecDepth 100000 in
set_option maxHeartbeats 800000 in
theorem pairMax_calls (l r : Ob) (d : Int) (p : Nat) (a b : Kn) (w : World) (Hl : ∀ w', Ext w w' → Calls Try.prog 109 #[l.val, .int .i64 d, .pointer (some ⟨p, 0, none⟩)] w' fun e w'' => RetKn w' a e w'')
    (Hr : ∀ w', Ext w w' → Calls Try.prog 109 #[r.val, .int .i64 d, .pointer (some ⟨p, 0, none⟩)] w' fun e w'' => RetKn w' b e w'') :
    Calls Try.prog 136 #[l.val, r.val, .int .i64 d, .pointer (some ⟨p, 0, none⟩), .func (.func 138) #[] #[]] w fun e w' => RetKn w (pairK maxS a b) e w' := by
  generalize l.val = lv at *
  generalize r.val = rv at *
  obtain ⟨an, ai, ae⟩ := a
  obtain ⟨bn, bi, be⟩ := b
  have hA := (Ext.refl w).alloc (.cells #[.int .i64 0, .bool false] 204 (0, 0))
  by_cases h1 : ae = 0
  · subst h1
    by_cases h2 : be = 0
    · subst h2
      cases ai with
      | true => cases bi with
        | true =>
          have HP := Lib.hid (pairK_ok (put := maxS) (a := ⟨an, true, 0⟩) (b := ⟨bn, true, 0⟩) rfl rfl rfl rfl)
          have hput' := fun w => greater_calls an bn w
          generalize maxS an bn = q at *
          have HT := fun w => vtold_calls q w
          obtain ⟨qn, qb⟩ := q
          go_enter Try.func136, Try.ntmps136
          (go_wp2_with fail; (with_reducible refine (Hl _ hA).mono ?_); rintro e w' ⟨rfl, hx⟩)
          obtain ⟨c0, c1, cf, hz⟩ := hx.two
          go_wp2_with fail
          have hB : Ext w (w'.alloc (.cells #[.int .i64 an, .bool true] 204)) := (hA.trans hx).alloc _
          with_reducible refine (Hr _ hB).mono ?_
          rintro e w2 ⟨rfl, hy⟩
          obtain ⟨b0, b1, bf, hz2⟩ := hy.two
          have hxy := (hx.alloc (.cells #[.int .i64 an, .bool true] 204)).trans hy
          obtain ⟨c0, c1, cf, hz3⟩ := hxy.two
          go_wp2_with fail
          with_reducible refine (hput' _).mono ?_
          rintro e w3 ⟨rfl, rfl⟩
          unfold retIB
          (go_wp2_with fail; (with_reducible refine (HT _).mono ?_); rintro e w' ⟨rfl, hv⟩)
          generalize toldK (qn, qb) = k at *
          obtain ⟨c0, c1, cf, hz4⟩ := ((hxy.alloc (.cells #[.int .i64 bn, .bool true] 204)).trans hv).two
          go_wp2_with fail
          exact bodyPost_ret (v := .tuple #[.agg #[.int .i64 k.n, .bool k.is], .int .i64 k.e]) (by simp [results, Try.results136, c0, c1, go_sem, hz4]) rfl ⟨by rw [HP.out], (by repeat' (first | (with_reducible exact Ext.refl _) | (with_reducible assumption) | (with_reducible refine Ext.alloc ?_ _) | (with_reducible refine Ext.drew ?_) | (with_reducible refine Ext.drewN ?_ _) | (with_reducible refine Ext.setCell ?_ (by first | exact Nat.le_refl _ | (simp; done) | (simp; omega) | omega) _) | (with_reducible refine Ext.trans ?_ (by assumption))))⟩
        | false =>
          have HP := Lib.hid (pairK_e2 (put := maxS) (a := ⟨an, true, 0⟩) (b := ⟨bn, false, 0⟩) rfl (.inr (.inr rfl)))
          go_enter Try.func136, Try.ntmps136
          (go_wp2_with fail; (with_reducible refine (Hl _ hA).mono ?_); rintro e w' ⟨rfl, hx⟩)
          obtain ⟨c0, c1, cf, hz⟩ := hx.two
          go_wp2_with fail
          have hB := (hA.trans hx).alloc (.cells #[.int .i64 an, .bool true] 204)
          with_reducible refine (Hr _ hB).mono ?_
          rintro e w2 ⟨rfl, hy⟩
          obtain ⟨b0, b1, bf, hz2⟩ := hy.two
          have hxy := (hx.alloc (.cells #[.int .i64 an, .bool true] 204)).trans hy
          obtain ⟨c0, c1, cf, hz3⟩ := hxy.two
          go_wp2_with fail
          exact bodyPost_ret (v := .tuple #[.agg #[.int .i64 0, .bool false], .int .i64 0]) (by simp [results, Try.results136, c0, c1, go_sem, hz3]) rfl ⟨by rw [HP.out], (by repeat' (first | (with_reducible exact Ext.refl _) | (with_reducible assumption) | (with_reducible refine Ext.alloc ?_ _) | (with_reducible refine Ext.drew ?_) | (with_reducible refine Ext.drewN ?_ _) | (with_reducible refine Ext.setCell ?_ (by first | exact Nat.le_refl _ | (simp; done) | (simp; omega) | omega) _) | (with_reducible refine Ext.trans ?_ (by assumption))))⟩
      | false =>
        have HP := Lib.hid (pairK_e2 (put := maxS) (a := ⟨an, false, 0⟩) (b := ⟨bn, bi, 0⟩) rfl (.inr (.inl rfl)))
        go_enter Try.func136, Try.ntmps136
        (go_wp2_with fail; (with_reducible refine (Hl _ hA).mono ?_); rintro e w' ⟨rfl, hx⟩)
        obtain ⟨c0, c1, cf, hz⟩ := hx.two
        go_wp2_with fail
        have hB := (hA.trans hx).alloc (.cells #[.int .i64 an, .bool false] 204)
        with_reducible refine (Hr _ hB).mono ?_
        rintro e w2 ⟨rfl, hy⟩
        obtain ⟨b0, b1, bf, hz2⟩ := hy.two
        have hxy := (hx.alloc (.cells #[.int .i64 an, .bool false] 204)).trans hy
        obtain ⟨c0, c1, cf, hz3⟩ := hxy.two
        go_wp2_with fail
        exact bodyPost_ret (v := .tuple #[.agg #[.int .i64 0, .bool false], .int .i64 0]) (by simp [results, Try.results136, c0, c1, go_sem, hz3]) rfl ⟨by rw [HP.out], (by repeat' (first | (with_reducible exact Ext.refl _) | (with_reducible assumption) | (with_reducible refine Ext.alloc ?_ _) | (with_reducible refine Ext.drew ?_) | (with_reducible refine Ext.drewN ?_ _) | (with_reducible refine Ext.setCell ?_ (by first | exact Nat.le_refl _ | (simp; done) | (simp; omega) | omega) _) | (with_reducible refine Ext.trans ?_ (by assumption))))⟩
    · have HP := Lib.hid (pairK_e2 (put := maxS) (a := ⟨an, ai, 0⟩) (b := ⟨bn, bi, be⟩) rfl (.inl h2))
      have hne : (be != 0) = true := by simpa using h2
      go_enter Try.func136, Try.ntmps136
      (go_wp2_with fail; (with_reducible refine (Hl _ hA).mono ?_); rintro e w' ⟨rfl, hx⟩)
      obtain ⟨c0, c1, cf, hz⟩ := hx.two
      go_wp2_with fail
      have hB := (hA.trans hx).alloc (.cells #[.int .i64 an, .bool ai] 204)
      with_reducible refine (Hr _ hB).mono ?_
      rintro e w2 ⟨rfl, hy⟩
      obtain ⟨b0, b1, bf, hz2⟩ := hy.two
      have hxy := (hx.alloc (.cells #[.int .i64 an, .bool ai] 204)).trans hy
      obtain ⟨c0, c1, cf, hz3⟩ := hxy.two
      go_wp2_with fail
      exact bodyPost_ret (v := .tuple #[.agg #[.int .i64 0, .bool false], .int .i64 be]) (by simp [results, Try.results136, c0, c1, go_sem, hz3]) rfl ⟨by rw [HP.out], (by repeat' (first | (with_reducible exact Ext.refl _) | (with_reducible assumption) | (with_reducible refine Ext.alloc ?_ _) | (with_reducible refine Ext.drew ?_) | (with_reducible refine Ext.drewN ?_ _) | (with_reducible refine Ext.setCell ?_ (by first | exact Nat.le_refl _ | (simp; done) | (simp; omega) | omega) _) | (with_reducible refine Ext.trans ?_ (by assumption))))⟩
  · have HP := Lib.hid (pairK_e1 (put := maxS) (a := ⟨an, ai, ae⟩) (b := ⟨bn, bi, be⟩) h1)
    have hne : (ae != 0) = true := by simpa using h1
    go_enter Try.func136, Try.ntmps136
    (go_wp2_with fail; (with_reducible refine (Hl _ hA).mono ?_); rintro e w' ⟨rfl, hx⟩)
    obtain ⟨c0, c1, cf, hz⟩ := hx.two
    go_wp2_with fail
    exact bodyPost_ret (v := .tuple #[.agg #[.int .i64 0, .bool false], .int .i64 ae]) (by simp [results, Try.results136, c0, c1, go_sem, hz]) rfl ⟨by rw [HP.out], (by repeat' (first | (with_reducible exact Ext.refl _) | (with_reducible assumption) | (with_reducible refine Ext.alloc ?_ _) | (with_reducible refine Ext.drew ?_) | (with_reducible refine Ext.drewN ?_ _) | (with_reducible refine Ext.setCell ?_ (by first | exact Nat.le_refl _ | (simp; done) | (simp; omega) | omega) _) | (with_reducible refine Ext.trans ?_ (by assumption))))⟩

end Go.Proofs.Ytgjjngkmbplijaa
