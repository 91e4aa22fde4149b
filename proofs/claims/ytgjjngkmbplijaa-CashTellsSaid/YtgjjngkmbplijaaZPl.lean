/- Texts put together: Play, Play2. -/
import Derived.Test.YtgjjngkmbplijaaZMk
import Derived.Test.YtgjjngkmbplijaaZTr
/- What a plan makes, as plain data: numbers and contracts as trees; that each is a number's, a contract's tree. No program in sight. -/
namespace Go.Proofs.Ytgjjngkmbplijaa
open Go.RowKit
set_option linter.unusedSimpArgs false
set_option linter.unusedVariables false

def amts : List Int := [0, 1, -1, 2, 100, -7, 1000000, 1000000000000, -1000000000000, 3]
def names3 : List ByteArray := [⟨#[108, 105, 98, 111, 114]⟩, ⟨#[114, 97, 105, 110]⟩, ⟨#[195, 182, 108]⟩]
def curs3 : List ByteArray := [⟨#[117, 115, 100]⟩, ⟨#[101, 117, 114]⟩, ⟨#[103, 98, 112]⟩]
/-- A part without parts. -/
def obsLeaf (p : Pl) (k : Int) (i : Nat) : Tr := if k ≤ 1 then .mk 11 ⟨#[]⟩ (amts[(nextN p i 10).toNat]?.getD 0) [] else .mk 12 (wordB p i names3) 0 []
/-- A number of a plan: the tree, how many of the plan's numbers are taken then, how many parts may still be made. -/
def obsT (p : Pl) : Nat → Nat → Int → Tr × Nat × Int
  | 0, i, left => (obsLeaf p (nextN p i 9 % 3) (i + 1), i + 2, left - 1)
  | d + 1, i, left =>
    if left - 1 ≤ 0 then (obsLeaf p (nextN p i 9 % 3) (i + 1), i + 2, left - 1)
    else if nextN p i 9 ≤ 4 then (obsLeaf p (nextN p i 9) (i + 1), i + 2, left - 1)
    else if nextN p i 9 = 5 then
      let a := obsT p d (i + 1) (left - 1)
      (.mk 14 ⟨#[]⟩ 0 [a.1], a.2)
    else
      let a := obsT p d (i + 1) (left - 1)
      let b := obsT p d a.2.1 a.2.2
      (.mk (if nextN p i 9 = 6 then 13 else if nextN p i 9 = 7 then 15 else 16) ⟨#[]⟩ 0 [a.1, b.1], b.2)
def costT : Nat → Nat
  | 0 => 2
  | d + 1 => 2 + 2 * costT d
theorem obsT_i (p : Pl) : ∀ d i left, (obsT p d i left).2.1 ≤ i + costT d ∧ left - costT d ≤ (obsT p d i left).2.2 ∧ (obsT p d i left).2.2 ≤ left := by
  intro d
  induction d with
  | zero => intro i left; simp only [obsT, costT]; omega
  | succ d ih =>
    intro i left
    have h1 := ih (i + 1) (left - 1)
    have h2 := ih (obsT p d (i + 1) (left - 1)).2.1 (obsT p d (i + 1) (left - 1)).2.2
    have h3 : 2 ≤ costT d := by cases d <;> simp only [costT] <;> omega
    simp only [obsT, costT]
    repeat' split
    all_goals (simp only; omega)

/-- The number's tree: which number it makes. -/
inductive IsOb : Tr → Ob → Prop
  | const (s : ByteArray) (n : Int) (k : List Tr) : IsOb (.mk 11 s n k) (.const n)
  | fix (s : ByteArray) (n : Int) (k : List Tr) : IsOb (.mk 12 s n k) (.fix s)
  | add (s : ByteArray) (n : Int) (l r : Tr) (a b : Ob) : IsOb l a → IsOb r b → IsOb (.mk 13 s n [l, r]) (.add a b)
  | neg (s : ByteArray) (n : Int) (l : Tr) (a : Ob) : IsOb l a → IsOb (.mk 14 s n [l]) (.neg a)
  | mul (s : ByteArray) (n : Int) (l r : Tr) (a b : Ob) : IsOb l a → IsOb r b → IsOb (.mk 15 s n [l, r]) (.mul a b)
  | max (s : ByteArray) (n : Int) (l r : Tr) (a b : Ob) : IsOb l a → IsOb r b → IsOb (.mk 16 s n [l, r]) (.max a b)
  | none (kd : Int) (s : ByteArray) (n : Int) (k : List Tr) : (kd < 11 ∨ 16 < kd) → IsOb (.mk kd s n k) (.odd .nilIface)
/-- The contract's tree. -/
inductive IsTe : Tr → Te → Prop
  | zero (s : ByteArray) (n : Int) (k : List Tr) : IsTe (.mk 1 s n k) .zero
  | one (s : ByteArray) (n : Int) (k : List Tr) : IsTe (.mk 2 s n k) (.one s)
  | give (s : ByteArray) (n : Int) (l : Tr) (a : Te) : IsTe l a → IsTe (.mk 3 s n [l]) (.give a)
  | and (s : ByteArray) (n : Int) (l r : Tr) (a b : Te) : IsTe l a → IsTe r b → IsTe (.mk 4 s n [l, r]) (.and a b)
  | or (s : ByteArray) (n : Int) (l r : Tr) (a b : Te) : IsTe l a → IsTe r b → IsTe (.mk 5 s n [l, r]) (.or s a b)
  | scale (s : ByteArray) (n : Int) (l r : Tr) (a : Ob) (b : Te) : IsOb l a → IsTe r b → IsTe (.mk 6 s n [l, r]) (.scale a b)
  | whn (s : ByteArray) (n : Int) (l : Tr) (a : Te) : IsTe l a → IsTe (.mk 7 s n [l]) (.whn n a)
  | cond (s : ByteArray) (n : Int) (o l r : Tr) (x : Ob) (a b : Te) : IsOb o x → IsTe l a → IsTe r b → IsTe (.mk 8 s n [o, l, r]) (.cond x a b)
  | none (kd : Int) (s : ByteArray) (n : Int) (k : List Tr) : (kd < 1 ∨ 8 < kd) → IsTe (.mk kd s n k) (.odd .nilIface)

/-- None of it is something else. -/
def Ob.clean : Ob → Prop
  | .const _ | .fix _ => True
  | .add l r | .mul l r | .max l r => l.clean ∧ r.clean
  | .neg o => o.clean
  | .odd _ => False
def Te.clean : Te → Prop
  | .zero | .one _ => True
  | .give t | .whn _ t => t.clean
  | .and l r | .or _ l r => l.clean ∧ r.clean
  | .scale o t => o.clean ∧ t.clean
  | .cond o l r => o.clean ∧ l.clean ∧ r.clean
  | .odd _ => False
theorem Ob.tr_is (o : Ob) : IsOb o.tr (match o with | .odd _ => .odd .nilIface | o => o) ∨ ¬ o.clean := by
  induction o with
  | const n => exact .inl (.const _ _ _)
  | fix s => exact .inl (.fix _ _ _)
  | odd v => exact .inr id
  | neg o ih =>
    rcases ih with h | h
    · cases o with
      | odd v => exact .inr id
      | _ => exact .inl (.neg _ _ _ _ h)
    · exact .inr h
  | add l r ihl ihr =>
    by_cases hc : l.clean ∧ r.clean
    · rcases ihl with h | h
      · rcases ihr with h2 | h2
        · cases l <;> cases r <;> first | exact .inl (.add _ _ _ _ _ _ h h2) | exact .inr (fun hh => hh.1) | exact .inr (fun hh => hh.2)
        · exact absurd hc.2 h2
      · exact absurd hc.1 h
    · exact .inr hc
  | mul l r ihl ihr =>
    by_cases hc : l.clean ∧ r.clean
    · rcases ihl with h | h
      · rcases ihr with h2 | h2
        · cases l <;> cases r <;> first | exact .inl (.mul _ _ _ _ _ _ h h2) | exact .inr (fun hh => hh.1) | exact .inr (fun hh => hh.2)
        · exact absurd hc.2 h2
      · exact absurd hc.1 h
    · exact .inr hc
  | max l r ihl ihr =>
    by_cases hc : l.clean ∧ r.clean
    · rcases ihl with h | h
      · rcases ihr with h2 | h2
        · cases l <;> cases r <;> first | exact .inl (.max _ _ _ _ _ _ h h2) | exact .inr (fun hh => hh.1) | exact .inr (fun hh => hh.2)
        · exact absurd hc.2 h2
      · exact absurd hc.1 h
    · exact .inr hc

theorem wordB_size (p : Pl) (i : Nat) (l : List ByteArray) (h : ∀ x ∈ l, x.size ≤ 14) : (wordB p i l).size ≤ 14 := by
  unfold wordB
  dsimp only
  split
  · rw [ByteArray.size_extract]
    omega
  · cases hx : l[(nextN p i (l.length + 6) % l.length).toNat]? with
    | none => exact Nat.zero_le _
    | some x => exact h x (List.mem_of_getElem? hx)
theorem amts_in (q : Nat) : -1000000000000 ≤ amts[q]?.getD 0 ∧ amts[q]?.getD 0 ≤ 1000000000000 := by
  rcases Nat.lt_or_ge q 10 with h | h
  · have : ∀ q < 10, -1000000000000 ≤ amts[q]?.getD 0 ∧ amts[q]?.getD 0 ≤ 1000000000000 := by decide
    exact this q h
  · rw [List.getElem?_eq_none (by simpa [amts] using h)]
    simp
/-- What a plan makes is a number's tree. -/
structure ObOk (t : Tr) (d : Nat) (o : Ob) : Prop where
  is : IsOb t o
  wf : o.wf
  clean : o.clean
  tr : o.tr = t
  nodes : o.nodes < 2 ^ (d + 1)
  depth : o.depth ≤ d + 1
theorem leaf_ok (p : Pl) (k : Int) (i d : Nat) : ∃ o, ObOk (obsLeaf p k i) d o := by
  have hd : 2 ^ 1 ≤ 2 ^ (d + 1) := Nat.pow_le_pow_right (by omega) (by omega)
  unfold obsLeaf
  split
  · have h := amts_in (nextN p i 10).toNat
    exact ⟨.const _, .const _ _ _, ⟨by omega, by omega⟩, trivial, rfl, by simp only [Ob.nodes]; omega, by simp only [Ob.depth]; omega⟩
  · have h := wordB_size p i names3 (by decide)
    exact ⟨.fix _, .fix _ _ _, Nat.le_trans h (by omega), trivial, rfl, by simp only [Ob.nodes]; omega, by simp only [Ob.depth]; omega⟩
theorem obsT_ok (p : Pl) : ∀ d i left, ∃ o, ObOk (obsT p d i left).1 d o := by
  intro d
  induction d with
  | zero => intro i left; exact leaf_ok p _ _ _
  | succ d ih =>
    intro i left
    obtain ⟨a, ha⟩ := ih (i + 1) (left - 1)
    obtain ⟨b, hb⟩ := ih (obsT p d (i + 1) (left - 1)).2.1 (obsT p d (i + 1) (left - 1)).2.2
    have hp : 2 ^ (d + 1 + 1) = 2 ^ (d + 1) + 2 ^ (d + 1) := by rw [Nat.pow_succ]; omega
    have h1 := ha.nodes
    have h2 := hb.nodes
    have h3 := ha.depth
    have h4 := hb.depth
    simp only [obsT]
    split
    · exact leaf_ok p _ _ _
    split
    · exact leaf_ok p _ _ _
    split
    · exact ⟨.neg a, .neg _ _ _ _ ha.is, ha.wf, ha.clean, by simp [Ob.tr, ha.tr], by simp only [Ob.nodes]; omega, by simp only [Ob.depth]; omega⟩
    split
    · exact ⟨.add a b, .add _ _ _ _ _ _ ha.is hb.is, ⟨ha.wf, hb.wf⟩, ⟨ha.clean, hb.clean⟩, by simp [Ob.tr, ha.tr, hb.tr], by simp only [Ob.nodes]; omega, by simp only [Ob.depth]; omega⟩
    split
    · exact ⟨.mul a b, .mul _ _ _ _ _ _ ha.is hb.is, ⟨ha.wf, hb.wf⟩, ⟨ha.clean, hb.clean⟩, by simp [Ob.tr, ha.tr, hb.tr], by simp only [Ob.nodes]; omega, by simp only [Ob.depth]; omega⟩
    · exact ⟨.max a b, .max _ _ _ _ _ _ ha.is hb.is, ⟨ha.wf, hb.wf⟩, ⟨ha.clean, hb.clean⟩, by simp [Ob.tr, ha.tr, hb.tr], by simp only [Ob.nodes]; omega, by simp only [Ob.depth]; omega⟩

theorem Ob.same_refl (o : Ob) (h : o.clean) : o.same o = true := by
  induction o with
  | const n => simp [Ob.same]
  | fix s => simp [Ob.same]
  | odd v => exact h.elim
  | neg o ih => simp [Ob.same, ih h]
  | _ l r ihl ihr => simp [Ob.same, ihl h.1, ihr h.2]

end Go.Proofs.Ytgjjngkmbplijaa

/- What a plan makes, as plain data: contracts. No program in sight. -/
namespace Go.Proofs.Ytgjjngkmbplijaa
open Go.RowKit
set_option linter.unusedSimpArgs false
set_option linter.unusedVariables false

/-- The digits of a number. -/
def decB (n : Nat) : ByteArray := if n < 10 then ⟨#[UInt8.ofNat (48 + n)]⟩ else decB (n / 10) ++ ⟨#[UInt8.ofNat (48 + n % 10)]⟩
termination_by n
decreasing_by omega
theorem decB_size : ∀ (d n : Nat), n < 10 ^ (d + 1) → (decB n).size ≤ d + 1 := by
  intro d
  induction d with
  | zero => intro n h; rw [decB, if_pos (by omega)]; exact Nat.le_refl _
  | succ d ih =>
    intro n h
    rw [decB]
    split
    · exact Nat.le_trans (Nat.le_refl 1) (by omega)
    · have := ih (n / 10) (by rw [Nat.pow_succ] at h; omega)
      rw [ByteArray.size_append]
      have : ByteArray.size ⟨#[UInt8.ofNat (48 + n % 10)]⟩ = 1 := rfl
      omega
def ch1 : ByteArray := ⟨#[99, 104, 49]⟩
def chB (n : Nat) : ByteArray := ⟨#[99, 104]⟩ ++ decB n

def termLeaf (p : Pl) (k : Int) (i : Nat) : Tr × Nat := if k ≤ 1 then (.mk 2 (wordB p i curs3) 0 [], i + 1) else (.mk 1 ⟨#[]⟩ 0 [], i)
/-- What was made: the tree, the plan's place, how many parts may still be made, the last label. -/
abbrev Made := Tr × Nat × Int × Nat
/-- A contract of a plan. -/
def termT (p : Pl) : Nat → Nat → Int → Nat → Made
  | 0, i, left, lab => ((termLeaf p (nextN p i 13 % 3) (i + 1)).1, (termLeaf p (nextN p i 13 % 3) (i + 1)).2, left - 1, lab)
  | d + 1, i, left, lab =>
    if left - 1 ≤ 0 then ((termLeaf p (nextN p i 13 % 3) (i + 1)).1, (termLeaf p (nextN p i 13 % 3) (i + 1)).2, left - 1, lab)
    else if nextN p i 13 ≤ 2 then ((termLeaf p (nextN p i 13) (i + 1)).1, (termLeaf p (nextN p i 13) (i + 1)).2, left - 1, lab)
    else if nextN p i 13 ≤ 4 then
      let a := termT p d (i + 1) (left - 1) lab
      (.mk 3 ⟨#[]⟩ 0 [a.1], a.2)
    else if nextN p i 13 ≤ 6 then
      let a := termT p d (i + 1) (left - 1) lab
      let b := termT p d a.2.1 a.2.2.1 a.2.2.2
      (.mk 4 ⟨#[]⟩ 0 [a.1, b.1], b.2)
    else if nextN p i 13 ≤ 8 then
      let a := termT p d (i + 2) (left - 1) (lab + 1)
      let b := termT p d a.2.1 a.2.2.1 a.2.2.2
      (.mk 5 (if nextN p (i + 1) 30 = 29 then ch1 else chB (lab + 1)) 0 [a.1, b.1], b.2)
    else if nextN p i 13 ≤ 10 then
      let o := obsT p (min d 2) (i + 1) (left - 1)
      let a := termT p d o.2.1 o.2.2 lab
      (.mk 6 ⟨#[]⟩ 0 [o.1, a.1], a.2)
    else if nextN p i 13 = 11 then
      let a := termT p d (i + 2) (left - 1) lab
      (.mk 7 ⟨#[]⟩ (nextN p (i + 1) 8) [a.1], a.2)
    else
      let o := obsT p (min d 2) (i + 1) (left - 1)
      let a := termT p d o.2.1 o.2.2 lab
      let b := termT p d a.2.1 a.2.2.1 a.2.2.2
      (.mk 8 ⟨#[]⟩ 0 [o.1, a.1, b.1], b.2)
def costM : Nat → Nat
  | 0 => 2
  | d + 1 => 20 + 2 * costM d
theorem costT_min (d : Nat) : costT (min d 2) ≤ 14 := by
  rcases (by omega : min d 2 = 0 ∨ min d 2 = 1 ∨ min d 2 = 2) with h | h | h <;> rw [h] <;> decide
theorem termLeaf_i (p : Pl) (k : Int) (i : Nat) : (termLeaf p k i).2 ≤ i + 1 := by unfold termLeaf; split <;> simp
/-- The bounds of what is taken. -/
structure TakenIn (r : Made) (i : Nat) (left : Int) (lab c : Nat) : Prop where
  i : r.2.1 ≤ i + c
  lo : left - c ≤ r.2.2.1
  hi : r.2.2.1 ≤ left
  lab : r.2.2.2 ≤ lab + c
theorem termT_i (p : Pl) : ∀ d i left lab, TakenIn (termT p d i left lab) i left lab (costM d) := by
  intro d
  induction d with
  | zero =>
    intro i left lab
    have := termLeaf_i p (nextN p i 13 % 3) (i + 1)
    exact ⟨by simp only [termT, costM]; omega, by simp only [termT, costM]; omega, by simp only [termT, costM]; omega, by simp only [termT, costM]; omega⟩
  | succ d ih =>
    intro i left lab
    have hc := costT_min d
    have l1 := termLeaf_i p (nextN p i 13 % 3) (i + 1)
    have l2 := termLeaf_i p (nextN p i 13) (i + 1)
    simp only [termT, costM]
    split
    · exact ⟨by simp only; omega, by simp only; omega, by simp only; omega, by simp only; omega⟩
    split
    · exact ⟨by simp only; omega, by simp only; omega, by simp only; omega, by simp only; omega⟩
    split
    · have a := ih (i + 1) (left - 1) lab
      exact ⟨by have := a.i; simp only; omega, by have := a.lo; simp only; omega, by have := a.hi; simp only; omega, by have := a.lab; simp only; omega⟩
    split
    · have a := ih (i + 1) (left - 1) lab
      have b := ih (termT p d (i + 1) (left - 1) lab).2.1 (termT p d (i + 1) (left - 1) lab).2.2.1 (termT p d (i + 1) (left - 1) lab).2.2.2
      exact ⟨by have := a.i; have := b.i; simp only; omega, by have := a.lo; have := b.lo; simp only; omega, by have := a.hi; have := b.hi; simp only; omega, by have := a.lab; have := b.lab; simp only; omega⟩
    split
    · have a := ih (i + 2) (left - 1) (lab + 1)
      have b := ih (termT p d (i + 2) (left - 1) (lab + 1)).2.1 (termT p d (i + 2) (left - 1) (lab + 1)).2.2.1 (termT p d (i + 2) (left - 1) (lab + 1)).2.2.2
      exact ⟨by have := a.i; have := b.i; simp only; omega, by have := a.lo; have := b.lo; simp only; omega, by have := a.hi; have := b.hi; simp only; omega, by have := a.lab; have := b.lab; simp only; omega⟩
    split
    · obtain ⟨o1, o2, o3⟩ := obsT_i p (min d 2) (i + 1) (left - 1)
      have a := ih (obsT p (min d 2) (i + 1) (left - 1)).2.1 (obsT p (min d 2) (i + 1) (left - 1)).2.2 lab
      exact ⟨by have := a.i; simp only; omega, by have := a.lo; simp only; omega, by have := a.hi; simp only; omega, by have := a.lab; simp only; omega⟩
    split
    · have a := ih (i + 2) (left - 1) lab
      exact ⟨by have := a.i; simp only; omega, by have := a.lo; simp only; omega, by have := a.hi; simp only; omega, by have := a.lab; simp only; omega⟩
    · obtain ⟨o1, o2, o3⟩ := obsT_i p (min d 2) (i + 1) (left - 1)
      have a := ih (obsT p (min d 2) (i + 1) (left - 1)).2.1 (obsT p (min d 2) (i + 1) (left - 1)).2.2 lab
      generalize hA : termT p d (obsT p (min d 2) (i + 1) (left - 1)).2.1 (obsT p (min d 2) (i + 1) (left - 1)).2.2 lab = A at *
      have b := ih A.2.1 A.2.2.1 A.2.2.2
      exact ⟨by have := a.i; have := b.i; simp only; omega, by have := a.lo; have := b.lo; simp only; omega, by have := a.hi; have := b.hi; simp only; omega, by have := a.lab; have := b.lab; simp only; omega⟩

/-- What a plan makes is a contract's tree. -/
structure TeOk (t : Tr) (d : Nat) (o : Te) : Prop where
  is : IsTe t o
  wf : o.wf
  clean : o.clean
  tr : o.tr = t
  nodes : o.nodes + 9 ≤ 10 * 2 ^ d
  depth : o.depth ≤ d + 1
theorem tleaf_ok (p : Pl) (k : Int) (i d : Nat) : ∃ o, TeOk (termLeaf p k i).1 d o := by
  have hd : 1 ≤ 2 ^ d := Nat.one_le_two_pow
  unfold termLeaf
  split
  · have h := wordB_size p i curs3 (by decide)
    exact ⟨.one _, .one _ _ _, Nat.le_trans h (by omega), trivial, rfl, by simp only [Te.nodes]; omega, by simp only [Te.depth]; omega⟩
  · exact ⟨.zero, .zero _ _ _, trivial, trivial, rfl, by simp only [Te.nodes]; omega, by simp only [Te.depth]; omega⟩
theorem termT_ok (p : Pl) : ∀ d i left lab, lab + costM d < 10 ^ 8 → ∃ o, TeOk (termT p d i left lab).1 d o := by
  intro d
  induction d with
  | zero => intro i left lab _; exact tleaf_ok p _ _ _
  | succ d ih =>
    intro i left lab hl
    simp only [costM] at hl
    have hp : 2 ^ (d + 1) = 2 ^ d + 2 ^ d := by rw [Nat.pow_succ]; omega
    have hm : 2 ^ (min d 2 + 1) ≤ 8 := by
      have : 2 ^ (min d 2 + 1) ≤ 2 ^ 3 := Nat.pow_le_pow_right (by omega) (by omega)
      omega
    have h1 : 1 ≤ 2 ^ d := Nat.one_le_two_pow
    simp only [termT]
    split
    · exact tleaf_ok p _ _ _
    split
    · exact tleaf_ok p _ _ _
    split
    · obtain ⟨a, ha⟩ := ih (i + 1) (left - 1) lab (by omega)
      have n1 := ha.nodes
      have d1 := ha.depth
      exact ⟨.give a, .give _ _ _ _ ha.is, ha.wf, ha.clean, by simp [Te.tr, ha.tr], by simp only [Te.nodes]; omega, by simp only [Te.depth]; omega⟩
    split
    · obtain ⟨a, ha⟩ := ih (i + 1) (left - 1) lab (by omega)
      have hk := (termT_i p d (i + 1) (left - 1) lab).lab
      obtain ⟨b, hb⟩ := ih (termT p d (i + 1) (left - 1) lab).2.1 (termT p d (i + 1) (left - 1) lab).2.2.1 (termT p d (i + 1) (left - 1) lab).2.2.2 (by omega)
      have n1 := ha.nodes
      have d1 := ha.depth
      have n2 := hb.nodes
      have d2 := hb.depth
      exact ⟨.and a b, .and _ _ _ _ _ _ ha.is hb.is, ⟨ha.wf, hb.wf⟩, ⟨ha.clean, hb.clean⟩, by simp [Te.tr, ha.tr, hb.tr], by simp only [Te.nodes]; omega, by simp only [Te.depth]; omega⟩
    split
    · obtain ⟨a, ha⟩ := ih (i + 2) (left - 1) (lab + 1) (by omega)
      have hk := (termT_i p d (i + 2) (left - 1) (lab + 1)).lab
      obtain ⟨b, hb⟩ := ih (termT p d (i + 2) (left - 1) (lab + 1)).2.1 (termT p d (i + 2) (left - 1) (lab + 1)).2.2.1 (termT p d (i + 2) (left - 1) (lab + 1)).2.2.2 (by omega)
      have n1 := ha.nodes
      have d1 := ha.depth
      have n2 := hb.nodes
      have d2 := hb.depth
      have hs : (if nextN p (i + 1) 30 = 29 then ch1 else chB (lab + 1)).size ≤ 1000 := by
        split
        · decide
        · have := decB_size 8 (lab + 1) (by omega)
          unfold chB
          rw [ByteArray.size_append]
          have : ByteArray.size ⟨#[99, 104]⟩ = 2 := rfl
          omega
      exact ⟨.or _ a b, .or _ _ _ _ _ _ ha.is hb.is, ⟨hs, ha.wf, hb.wf⟩, ⟨ha.clean, hb.clean⟩, by simp [Te.tr, ha.tr, hb.tr], by simp only [Te.nodes]; omega, by simp only [Te.depth]; omega⟩
    split
    · obtain ⟨o, ho⟩ := obsT_ok p (min d 2) (i + 1) (left - 1)
      obtain ⟨a, ha⟩ := ih (obsT p (min d 2) (i + 1) (left - 1)).2.1 (obsT p (min d 2) (i + 1) (left - 1)).2.2 lab (by omega)
      have n1 := ha.nodes
      have d1 := ha.depth
      have n2 := ho.nodes
      have d2 := ho.depth
      exact ⟨.scale o a, .scale _ _ _ _ _ _ ho.is ha.is, ⟨ho.wf, ha.wf⟩, ⟨ho.clean, ha.clean⟩, by simp [Te.tr, ha.tr, ho.tr], by simp only [Te.nodes]; omega, by simp only [Te.depth]; omega⟩
    split
    · obtain ⟨a, ha⟩ := ih (i + 2) (left - 1) lab (by omega)
      have n1 := ha.nodes
      have d1 := ha.depth
      have q1 := nextN_lo p (i + 1) 8 (by omega)
      have q2 := nextN_hi p (i + 1) 8 (by omega)
      exact ⟨.whn _ a, .whn _ _ _ _ ha.is, ⟨⟨by omega, by omega⟩, ha.wf⟩, ha.clean, by simp [Te.tr, ha.tr], by simp only [Te.nodes]; omega, by simp only [Te.depth]; omega⟩
    · obtain ⟨o, ho⟩ := obsT_ok p (min d 2) (i + 1) (left - 1)
      obtain ⟨a, ha⟩ := ih (obsT p (min d 2) (i + 1) (left - 1)).2.1 (obsT p (min d 2) (i + 1) (left - 1)).2.2 lab (by omega)
      have hk := (termT_i p d (obsT p (min d 2) (i + 1) (left - 1)).2.1 (obsT p (min d 2) (i + 1) (left - 1)).2.2 lab).lab
      generalize hA : termT p d (obsT p (min d 2) (i + 1) (left - 1)).2.1 (obsT p (min d 2) (i + 1) (left - 1)).2.2 lab = A at *
      obtain ⟨b, hb⟩ := ih A.2.1 A.2.2.1 A.2.2.2 (by omega)
      have n1 := ha.nodes
      have d1 := ha.depth
      have n2 := ho.nodes
      have d2 := ho.depth
      have n3 := hb.nodes
      have d3 := hb.depth
      exact ⟨.cond o a b, .cond _ _ _ _ _ _ _ _ ho.is ha.is hb.is, ⟨ho.wf, ha.wf, hb.wf⟩, ⟨ho.clean, ha.clean, hb.clean⟩, by simp [Te.tr, ha.tr, ho.tr, hb.tr], by simp only [Te.nodes]; omega, by simp only [Te.depth]; omega⟩

end Go.Proofs.Ytgjjngkmbplijaa
