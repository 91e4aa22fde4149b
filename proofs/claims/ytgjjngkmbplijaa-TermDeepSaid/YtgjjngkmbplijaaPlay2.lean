/- What a plan makes, as plain data: contracts. No program in sight. -/
import Derived.Test.YtgjjngkmbplijaaPlay
namespace Go.Proofs.Ytgjjngkmbplijaa
open Go.RowKit
set_option linter.unusedSimpArgs false
set_option linter.unusedVariables false

/-- The digits of a number. -/
def decB (n : Nat) : ByteArray := if n < 10 then ⟨#[UInt8.ofNat (48 + n)]⟩ else decB (n / 10) ++ ⟨#[UInt8.ofNat (48 + n % 10)]⟩
termination_by n
decreasing_by omega
theorem decB_size : ∀ (d n : Nat), n < 10 ^ (d + 1) → (decB n).size ≤ d + 1 := by
  intro d
  induction d with
  | zero => intro n h; rw [decB, if_pos (by omega)]; exact Nat.le_refl _
  | succ d ih =>
    intro n h
    rw [decB]
    split
    · exact Nat.le_trans (Nat.le_refl 1) (by omega)
    · have := ih (n / 10) (by rw [Nat.pow_succ] at h; omega)
      rw [ByteArray.size_append]
      have : ByteArray.size ⟨#[UInt8.ofNat (48 + n % 10)]⟩ = 1 := rfl
      omega
def ch1 : ByteArray := ⟨#[99, 104, 49]⟩
def chB (n : Nat) : ByteArray := ⟨#[99, 104]⟩ ++ decB n

def termLeaf (p : Pl) (k : Int) (i : Nat) : Tr × Nat := if k ≤ 1 then (.mk 2 (wordB p i curs3) 0 [], i + 1) else (.mk 1 ⟨#[]⟩ 0 [], i)
/-- What was made: the tree, the plan's place, how many parts may still be made, the last label. -/
abbrev Made := Tr × Nat × Int × Nat
/-- A contract of a plan. -/
def termT (p : Pl) : Nat → Nat → Int → Nat → Made
  | 0, i, left, lab => ((termLeaf p (nextN p i 13 % 3) (i + 1)).1, (termLeaf p (nextN p i 13 % 3) (i + 1)).2, left - 1, lab)
  | d + 1, i, left, lab =>
    if left - 1 ≤ 0 then ((termLeaf p (nextN p i 13 % 3) (i + 1)).1, (termLeaf p (nextN p i 13 % 3) (i + 1)).2, left - 1, lab)
    else if nextN p i 13 ≤ 2 then ((termLeaf p (nextN p i 13) (i + 1)).1, (termLeaf p (nextN p i 13) (i + 1)).2, left - 1, lab)
    else if nextN p i 13 ≤ 4 then
      let a := termT p d (i + 1) (left - 1) lab
      (.mk 3 ⟨#[]⟩ 0 [a.1], a.2)
    else if nextN p i 13 ≤ 6 then
      let a := termT p d (i + 1) (left - 1) lab
      let b := termT p d a.2.1 a.2.2.1 a.2.2.2
      (.mk 4 ⟨#[]⟩ 0 [a.1, b.1], b.2)
    else if nextN p i 13 ≤ 8 then
      let a := termT p d (i + 2) (left - 1) (lab + 1)
      let b := termT p d a.2.1 a.2.2.1 a.2.2.2
      (.mk 5 (if nextN p (i + 1) 30 = 29 then ch1 else chB (lab + 1)) 0 [a.1, b.1], b.2)
    else if nextN p i 13 ≤ 10 then
      let o := obsT p (min d 2) (i + 1) (left - 1)
      let a := termT p d o.2.1 o.2.2 lab
      (.mk 6 ⟨#[]⟩ 0 [o.1, a.1], a.2)
    else if nextN p i 13 = 11 then
      let a := termT p d (i + 2) (left - 1) lab
      (.mk 7 ⟨#[]⟩ (nextN p (i + 1) 8) [a.1], a.2)
    else
      let o := obsT p (min d 2) (i + 1) (left - 1)
      let a := termT p d o.2.1 o.2.2 lab
      let b := termT p d a.2.1 a.2.2.1 a.2.2.2
      (.mk 8 ⟨#[]⟩ 0 [o.1, a.1, b.1], b.2)
def costM : Nat → Nat
  | 0 => 2
  | d + 1 => 20 + 2 * costM d
theorem costT_min (d : Nat) : costT (min d 2) ≤ 14 := by
  rcases (by omega : min d 2 = 0 ∨ min d 2 = 1 ∨ min d 2 = 2) with h | h | h <;> rw [h] <;> decide
theorem termLeaf_i (p : Pl) (k : Int) (i : Nat) : (termLeaf p k i).2 ≤ i + 1 := by unfold termLeaf; split <;> simp
/-- The bounds of what is taken. -/
structure TakenIn (r : Made) (i : Nat) (left : Int) (lab c : Nat) : Prop where
  i : r.2.1 ≤ i + c
  lo : left - c ≤ r.2.2.1
  hi : r.2.2.1 ≤ left
  lab : r.2.2.2 ≤ lab + c
theorem termT_i (p : Pl) : ∀ d i left lab, TakenIn (termT p d i left lab) i left lab (costM d) := by
  intro d
  induction d with
  | zero =>
    intro i left lab
    have := termLeaf_i p (nextN p i 13 % 3) (i + 1)
    exact ⟨by simp only [termT, costM]; omega, by simp only [termT, costM]; omega, by simp only [termT, costM]; omega, by simp only [termT, costM]; omega⟩
  | succ d ih =>
    intro i left lab
    have hc := costT_min d
    have l1 := termLeaf_i p (nextN p i 13 % 3) (i + 1)
    have l2 := termLeaf_i p (nextN p i 13) (i + 1)
    simp only [termT, costM]
    split
    · exact ⟨by simp only; omega, by simp only; omega, by simp only; omega, by simp only; omega⟩
    split
    · exact ⟨by simp only; omega, by simp only; omega, by simp only; omega, by simp only; omega⟩
    split
    · have a := ih (i + 1) (left - 1) lab
      exact ⟨by have := a.i; simp only; omega, by have := a.lo; simp only; omega, by have := a.hi; simp only; omega, by have := a.lab; simp only; omega⟩
    split
    · have a := ih (i + 1) (left - 1) lab
      have b := ih (termT p d (i + 1) (left - 1) lab).2.1 (termT p d (i + 1) (left - 1) lab).2.2.1 (termT p d (i + 1) (left - 1) lab).2.2.2
      exact ⟨by have := a.i; have := b.i; simp only; omega, by have := a.lo; have := b.lo; simp only; omega, by have := a.hi; have := b.hi; simp only; omega, by have := a.lab; have := b.lab; simp only; omega⟩
    split
    · have a := ih (i + 2) (left - 1) (lab + 1)
      have b := ih (termT p d (i + 2) (left - 1) (lab + 1)).2.1 (termT p d (i + 2) (left - 1) (lab + 1)).2.2.1 (termT p d (i + 2) (left - 1) (lab + 1)).2.2.2
      exact ⟨by have := a.i; have := b.i; simp only; omega, by have := a.lo; have := b.lo; simp only; omega, by have := a.hi; have := b.hi; simp only; omega, by have := a.lab; have := b.lab; simp only; omega⟩
    split
    · obtain ⟨o1, o2, o3⟩ := obsT_i p (min d 2) (i + 1) (left - 1)
      have a := ih (obsT p (min d 2) (i + 1) (left - 1)).2.1 (obsT p (min d 2) (i + 1) (left - 1)).2.2 lab
      exact ⟨by have := a.i; simp only; omega, by have := a.lo; simp only; omega, by have := a.hi; simp only; omega, by have := a.lab; simp only; omega⟩
    split
    · have a := ih (i + 2) (left - 1) lab
      exact ⟨by have := a.i; simp only; omega, by have := a.lo; simp only; omega, by have := a.hi; simp only; omega, by have := a.lab; simp only; omega⟩
    · obtain ⟨o1, o2, o3⟩ := obsT_i p (min d 2) (i + 1) (left - 1)
      have a := ih (obsT p (min d 2) (i + 1) (left - 1)).2.1 (obsT p (min d 2) (i + 1) (left - 1)).2.2 lab
      generalize hA : termT p d (obsT p (min d 2) (i + 1) (left - 1)).2.1 (obsT p (min d 2) (i + 1) (left - 1)).2.2 lab = A at *
      have b := ih A.2.1 A.2.2.1 A.2.2.2
      exact ⟨by have := a.i; have := b.i; simp only; omega, by have := a.lo; have := b.lo; simp only; omega, by have := a.hi; have := b.hi; simp only; omega, by have := a.lab; have := b.lab; simp only; omega⟩

/-- What a plan makes is a contract's tree. -/
structure TeOk (t : Tr) (d : Nat) (o : Te) : Prop where
  is : IsTe t o
  wf : o.wf
  clean : o.clean
  tr : o.tr = t
  nodes : o.nodes + 9 ≤ 10 * 2 ^ d
  depth : o.depth ≤ d + 1
theorem tleaf_ok (p : Pl) (k : Int) (i d : Nat) : ∃ o, TeOk (termLeaf p k i).1 d o := by
  have hd : 1 ≤ 2 ^ d := Nat.one_le_two_pow
  unfold termLeaf
  split
  · have h := wordB_size p i curs3 (by decide)
    exact ⟨.one _, .one _ _ _, Nat.le_trans h (by omega), trivial, rfl, by simp only [Te.nodes]; omega, by simp only [Te.depth]; omega⟩
  · exact ⟨.zero, .zero _ _ _, trivial, trivial, rfl, by simp only [Te.nodes]; omega, by simp only [Te.depth]; omega⟩
theorem termT_ok (p : Pl) : ∀ d i left lab, lab + costM d < 10 ^ 8 → ∃ o, TeOk (termT p d i left lab).1 d o := by
  intro d
  induction d with
  | zero => intro i left lab _; exact tleaf_ok p _ _ _
  | succ d ih =>
    intro i left lab hl
    simp only [costM] at hl
    have hp : 2 ^ (d + 1) = 2 ^ d + 2 ^ d := by rw [Nat.pow_succ]; omega
    have hm : 2 ^ (min d 2 + 1) ≤ 8 := by
      have : 2 ^ (min d 2 + 1) ≤ 2 ^ 3 := Nat.pow_le_pow_right (by omega) (by omega)
      omega
    have h1 : 1 ≤ 2 ^ d := Nat.one_le_two_pow
    simp only [termT]
    split
    · exact tleaf_ok p _ _ _
    split
    · exact tleaf_ok p _ _ _
    split
    · obtain ⟨a, ha⟩ := ih (i + 1) (left - 1) lab (by omega)
      have n1 := ha.nodes
      have d1 := ha.depth
      exact ⟨.give a, .give _ _ _ _ ha.is, ha.wf, ha.clean, by simp [Te.tr, ha.tr], by simp only [Te.nodes]; omega, by simp only [Te.depth]; omega⟩
    split
    · obtain ⟨a, ha⟩ := ih (i + 1) (left - 1) lab (by omega)
      have hk := (termT_i p d (i + 1) (left - 1) lab).lab
      obtain ⟨b, hb⟩ := ih (termT p d (i + 1) (left - 1) lab).2.1 (termT p d (i + 1) (left - 1) lab).2.2.1 (termT p d (i + 1) (left - 1) lab).2.2.2 (by omega)
      have n1 := ha.nodes
      have d1 := ha.depth
      have n2 := hb.nodes
      have d2 := hb.depth
      exact ⟨.and a b, .and _ _ _ _ _ _ ha.is hb.is, ⟨ha.wf, hb.wf⟩, ⟨ha.clean, hb.clean⟩, by simp [Te.tr, ha.tr, hb.tr], by simp only [Te.nodes]; omega, by simp only [Te.depth]; omega⟩
    split
    · obtain ⟨a, ha⟩ := ih (i + 2) (left - 1) (lab + 1) (by omega)
      have hk := (termT_i p d (i + 2) (left - 1) (lab + 1)).lab
      obtain ⟨b, hb⟩ := ih (termT p d (i + 2) (left - 1) (lab + 1)).2.1 (termT p d (i + 2) (left - 1) (lab + 1)).2.2.1 (termT p d (i + 2) (left - 1) (lab + 1)).2.2.2 (by omega)
      have n1 := ha.nodes
      have d1 := ha.depth
      have n2 := hb.nodes
      have d2 := hb.depth
      have hs : (if nextN p (i + 1) 30 = 29 then ch1 else chB (lab + 1)).size ≤ 1000 := by
        split
        · decide
        · have := decB_size 8 (lab + 1) (by omega)
          unfold chB
          rw [ByteArray.size_append]
          have : ByteArray.size ⟨#[99, 104]⟩ = 2 := rfl
          omega
      exact ⟨.or _ a b, .or _ _ _ _ _ _ ha.is hb.is, ⟨hs, ha.wf, hb.wf⟩, ⟨ha.clean, hb.clean⟩, by simp [Te.tr, ha.tr, hb.tr], by simp only [Te.nodes]; omega, by simp only [Te.depth]; omega⟩
    split
    · obtain ⟨o, ho⟩ := obsT_ok p (min d 2) (i + 1) (left - 1)
      obtain ⟨a, ha⟩ := ih (obsT p (min d 2) (i + 1) (left - 1)).2.1 (obsT p (min d 2) (i + 1) (left - 1)).2.2 lab (by omega)
      have n1 := ha.nodes
      have d1 := ha.depth
      have n2 := ho.nodes
      have d2 := ho.depth
      exact ⟨.scale o a, .scale _ _ _ _ _ _ ho.is ha.is, ⟨ho.wf, ha.wf⟩, ⟨ho.clean, ha.clean⟩, by simp [Te.tr, ha.tr, ho.tr], by simp only [Te.nodes]; omega, by simp only [Te.depth]; omega⟩
    split
    · obtain ⟨a, ha⟩ := ih (i + 2) (left - 1) lab (by omega)
      have n1 := ha.nodes
      have d1 := ha.depth
      have q1 := nextN_lo p (i + 1) 8 (by omega)
      have q2 := nextN_hi p (i + 1) 8 (by omega)
      exact ⟨.whn _ a, .whn _ _ _ _ ha.is, ⟨⟨by omega, by omega⟩, ha.wf⟩, ha.clean, by simp [Te.tr, ha.tr], by simp only [Te.nodes]; omega, by simp only [Te.depth]; omega⟩
    · obtain ⟨o, ho⟩ := obsT_ok p (min d 2) (i + 1) (left - 1)
      obtain ⟨a, ha⟩ := ih (obsT p (min d 2) (i + 1) (left - 1)).2.1 (obsT p (min d 2) (i + 1) (left - 1)).2.2 lab (by omega)
      have hk := (termT_i p d (obsT p (min d 2) (i + 1) (left - 1)).2.1 (obsT p (min d 2) (i + 1) (left - 1)).2.2 lab).lab
      generalize hA : termT p d (obsT p (min d 2) (i + 1) (left - 1)).2.1 (obsT p (min d 2) (i + 1) (left - 1)).2.2 lab = A at *
      obtain ⟨b, hb⟩ := ih A.2.1 A.2.2.1 A.2.2.2 (by omega)
      have n1 := ha.nodes
      have d1 := ha.depth
      have n2 := ho.nodes
      have d2 := ho.depth
      have n3 := hb.nodes
      have d3 := hb.depth
      exact ⟨.cond o a b, .cond _ _ _ _ _ _ _ _ ho.is ha.is hb.is, ⟨ho.wf, ha.wf, hb.wf⟩, ⟨ho.clean, ha.clean, hb.clean⟩, by simp [Te.tr, ha.tr, ho.tr, hb.tr], by simp only [Te.nodes]; omega, by simp only [Te.depth]; omega⟩

end Go.Proofs.Ytgjjngkmbplijaa
