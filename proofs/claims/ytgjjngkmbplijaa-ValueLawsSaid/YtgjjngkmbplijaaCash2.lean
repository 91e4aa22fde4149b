/- Package cash: wait, number. -/
import Derived.Test.YtgjjngkmbplijaaCash1
namespace Go.Proofs.Ytgjjngkmbplijaa
open Go.RowKit
set_option linter.unusedSimpArgs false
set_option linter.unusedVariables false

theorem waCells_at {l : List Wa} {j : Nat} {x : Wa} (h : l[j]? = some x) (i : Nat) (hi : i < 5) : (waCells l)[j * 5 + i]? = x.cells[i]? := by
  induction l generalizing j with
  | nil => simp at h
  | cons y r ih =>
    have hl : y.cells.length = 5 := rfl
    cases j with
    | zero => simp at h; subst h; simp only [waCells, List.flatMap_cons, Nat.zero_mul, Nat.zero_add]; rw [List.getElem?_append_left (by omega)]
    | succ j =>
      simp only [List.getElem?_cons_succ] at h
      have := ih h
      simp only [waCells, List.flatMap_cons] at *
      rw [List.getElem?_append_right (by omega), ← this]
      congr 1
      omega
/-- A wait in a row. -/
theorem Rd.atWa {w : World} {a : Option Addr} {n : Nat} {l : List Wa} (h : Rd w 5 a n (waCells l)) {j : Nat} {x : Wa} (hx : l[j]? = some x) :
    ∃ ad, a = some ad ∧ w.cell? (ad.add (j * 5)) = some (.bool x.ch) ∧ w.cell? (ad.add (j * 5 + 1)) = some (.string x.name) ∧ w.cell? (ad.add (j * 5 + 2)) = some (.string x.label) ∧ w.cell? (ad.add (j * 5 + 3)) = some (.int .i64 x.day) ∧ w.cell? (ad.add (j * 5 + 4)) = some (.int .i64 x.side) := by
  obtain ⟨ad, e0, c0⟩ := h.2 (j * 5 + 0) _ (waCells_at hx 0 (by omega))
  obtain ⟨ad1, e1, c1⟩ := h.2 (j * 5 + 1) _ (waCells_at hx 1 (by omega))
  obtain ⟨ad2, e2, c2⟩ := h.2 (j * 5 + 2) _ (waCells_at hx 2 (by omega))
  obtain ⟨ad3, e3, c3⟩ := h.2 (j * 5 + 3) _ (waCells_at hx 3 (by omega))
  obtain ⟨ad4, e4, c4⟩ := h.2 (j * 5 + 4) _ (waCells_at hx 4 (by omega))
  rw [e0] at e1 e2 e3 e4
  injection e1 with e1; injection e2 with e2; injection e3 with e3; injection e4 with e4
  subst e1 e2 e3 e4
  exact ⟨ad, e0, c0, c1, c2, c3, c4⟩
theorem held_wait : Try.prog.stoodInHeld 152 = false ∧ Try.prog.eqGuardType Try.prog.depth 152 = false := ⟨by kernel_rfl, by kernel_rfl⟩
def Wa.val (x : Wa) : Value := .agg #[.bool x.ch, .string x.name, .string x.label, .int .i64 x.day, .int .i64 x.side]
set_option maxRecDepth 100000 in
set_option maxHeartbeats 400000 in
theorem eql_wait (x y : Wa) (w : World) : (Op.equalIn 10000 152 x.val y.val).run Try.prog w = .ok (x.same y) w := by
  obtain ⟨f1, f2⟩ := held_wait
  obtain ⟨a1, a2, a3, a4, a5⟩ := x
  obtain ⟨b1, b2, b3, b4, b5⟩ := y
  unfold Wa.val Wa.same
  simp only
  rw [run_equalIn_agg _ _ _ _ _ (by kernel_rfl) f1, ← bytes_beq, ← bytes_beq]
  go_simp
  by_cases h1 : a1 = b1 <;> by_cases h2 : a2.toList = b2.toList <;> by_cases h3 : a3.toList = b3.toList <;> by_cases h4 : a4 = b4 <;> by_cases h5 : a5 = b5 <;> simp [h1, h2, h3, h4, h5]

theorem wa_at {w : World} {base : Nat} {e : TypeId} {a : Option Addr} {c n : Nat} {l : List Wa} (h : w.ownsRow base e 5 (.slice a n c) n (waCells l)) {j : Nat} {x : Wa} (hx : l[j]? = some x) (hj : j < n) :
    ∃ g, a = some ⟨g, 0, none⟩ ∧ w.cell? ⟨g, j * 5, none⟩ = some (.bool x.ch) ∧ w.cell? ⟨g, j * 5 + 1, none⟩ = some (.string x.name) ∧ w.cell? ⟨g, j * 5 + 2, none⟩ = some (.string x.label) ∧ w.cell? ⟨g, j * 5 + 3, none⟩ = some (.int .i64 x.day) ∧ w.cell? ⟨g, j * 5 + 4, none⟩ = some (.int .i64 x.side) := by
  obtain ⟨g, e1, _, _⟩ := own_at h hj
  obtain ⟨ad, e2, c0, c1, c2, c3, c4⟩ := (Rd.of_own h).atWa hx
  rw [e1] at e2
  injection e2 with e2
  subst e2
  simp only [Addr.add_lit, Nat.zero_add] at c0 c1 c2 c3 c4
  exact ⟨g, e1, c0, c1, c2, c3, c4⟩

set_option maxRecDepth 100000 in
set_option maxHeartbeats 1600000 in
theorem windex_calls (base : Nat) (l : List Wa) (s : Wa) (a : Option Addr) (c : Nat) (w : World) (hr : w.ownsRow base 152 5 (.slice a l.length c) l.length (waCells l)) (hl : l.length ≤ 2 ^ 40) (hcm : c ≤ maxLen) :
    Calls Try.prog 156 #[.slice a l.length c, s.val] w fun e w' => RetAny w (l.any fun x => s.same x) e w' := by
  unfold maxLen at hcm
  have hE := fun x W => eql_wait s x W
  have f2 := held_wait.2
  unfold Wa.val at *
  go_enter Try.func156, Try.ntmps156
  go_wp2_with fail
  go_loopw [8] (fun i wr => ∃ j : Nat, j ≤ l.length ∧ i = .int .i64 j ∧ ((l.take j).any fun x => s.same x) = false ∧ Ext (w.alloc (.cells #[.bool s.ch, .string s.name, .string s.label, .int .i64 s.day, .int .i64 s.side] 152 (0, 0))) wr) (fun i _ => l.length - (intOf i).toNat)
  case atStart => exact ⟨0, by omega, rfl, rfl, Ext.refl _⟩
  case round =>
    obtain ⟨j, hj, rfl, hno, hx⟩ := hrel
    have hx0 : Ext w wr := ((Ext.refl w).alloc _).trans hx
    by_cases hlt : j < l.length
    · have e1 : l[j]? = some l[j] := List.getElem?_eq_getElem hlt
      generalize l[j] = k at e1
      obtain ⟨g, rfl, c0, c1, c2, c3, c4⟩ := wa_at (hx0.own hr) e1 hlt
      obtain ⟨q, hfz, hlt0⟩ := obj_cells (hx.lit (heap_new w _))
      have s0 := q 0 _ rfl
      have s1 := q 1 _ rfl
      have s2 := q 2 _ rfl
      have s3 := q 3 _ rfl
      have s4 := q 4 _ rfl
      have hs := any_take_succ (p := fun x => s.same x) e1
      rw [hno] at hs
      have hEk := fun W => hE k W
      have e0 := Lib.hid e1
      have hs0 := Lib.hid hs
      have hj0 := Lib.hid (show j + 1 ≤ l.length from hlt)
      have hr0 := Lib.hid hr
      have hji : (j : Int) < (l.length : Int) := by omega
      have hji0 : (0 : Int) ≤ (j : Int) := by omega
      clear hr e1 hs hno q hE
      generalize hp : s.same k = pb at *
      have hp0 := Lib.hid hp
      clear hp
      cases pb with
      | true =>
        go_wp2_with fail
        go_quiet (fail)
        go_wp2
        go_ret
        exact ⟨_, rfl, by rw [any_hit (p := fun x => s.same x) e0.out hp0.out]; simp, (by repeat' (first | (with_reducible exact Ext.refl _) | (with_reducible assumption) | (with_reducible refine Ext.alloc ?_ _) | (with_reducible refine Ext.drew ?_) | (with_reducible refine Ext.drewN ?_ _) | (with_reducible refine Ext.setCell ?_ (by first | exact Nat.le_refl _ | (simp; done) | (simp; omega) | omega) _) | (with_reducible refine Ext.trans ?_ (by assumption))))⟩
      | false =>
        go_wp2_with fail
        go_quiet (fail)
        go_wp2_with fail
        go_roundw
        case rel => exact ⟨j + 1, hj0.out, by go_num, by rw [hs0.out]; rfl, (by repeat' (first | (with_reducible exact Ext.refl _) | (with_reducible assumption) | (with_reducible refine Ext.alloc ?_ _) | (with_reducible refine Ext.drew ?_) | (with_reducible refine Ext.drewN ?_ _) | (with_reducible refine Ext.setCell ?_ (by first | exact Nat.le_refl _ | (simp; done) | (simp; omega) | omega) _) | (with_reducible refine Ext.trans ?_ (by assumption))))⟩
        case measure => simp [intOf]; omega
    · obtain rfl : j = l.length := by omega
      rw [List.take_length] at hno
      go_wp2
      go_ret
      exact ⟨_, rfl, by rw [hno]; rfl, (by repeat' (first | (with_reducible exact Ext.refl _) | (with_reducible assumption) | (with_reducible refine Ext.alloc ?_ _) | (with_reducible refine Ext.drew ?_) | (with_reducible refine Ext.drewN ?_ _) | (with_reducible refine Ext.setCell ?_ (by first | exact Nat.le_refl _ | (simp; done) | (simp; omega) | omega) _) | (with_reducible refine Ext.trans ?_ (by assumption))))⟩

set_option maxRecDepth 100000 in
set_option maxHeartbeats 800000 in
theorem wcontains_calls (base : Nat) (l : List Wa) (s : Wa) (a : Option Addr) (c : Nat) (w : World) (hr : w.ownsRow base 152 5 (.slice a l.length c) l.length (waCells l)) (hl : l.length ≤ 2 ^ 40) (hcm : c ≤ maxLen) :
    Calls Try.prog 155 #[.slice a l.length c, s.val] w fun e w' => RetB w (l.any fun x => s.same x) e w' := by
  have H := fun w' (h : Ext w w') => windex_calls base l s a c w' (h.own hr) hl hcm
  unfold Wa.val at *
  generalize (l.any fun x => s.same x) = b at *
  go_enter Try.func155, Try.ntmps155
  (go_wp2_with fail; (with_reducible refine (H _ ((by repeat' (first | (with_reducible exact Ext.refl _) | (with_reducible assumption) | (with_reducible refine Ext.alloc ?_ _) | (with_reducible refine Ext.drew ?_) | (with_reducible refine Ext.drewN ?_ _) | (with_reducible refine Ext.setCell ?_ (by first | exact Nat.le_refl _ | (simp; done) | (simp; omega) | omega) _) | (with_reducible refine Ext.trans ?_ (by assumption)))))).mono ?_); rintro e w' ⟨r, rfl, rfl, hx⟩)
  go_wp2
  go_ret
  exact ⟨rfl, (by repeat' (first | (with_reducible exact Ext.refl _) | (with_reducible assumption) | (with_reducible refine Ext.alloc ?_ _) | (with_reducible refine Ext.drew ?_) | (with_reducible refine Ext.drewN ?_ _) | (with_reducible refine Ext.setCell ?_ (by first | exact Nat.le_refl _ | (simp; done) | (simp; omega) | omega) _) | (with_reducible refine Ext.trans ?_ (by assumption))))⟩

end Go.Proofs.Ytgjjngkmbplijaa
