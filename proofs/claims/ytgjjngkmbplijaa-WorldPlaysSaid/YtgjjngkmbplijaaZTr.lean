/- The document's trees: as plain data (Tr), and with the places of their parts (HT); as they lie in memory. -/
import Derived.Test.YtgjjngkmbplijaaZO2

namespace Go.Proofs.Ytgjjngkmbplijaa
open Go.RowKit
set_option linter.unusedSimpArgs false
set_option linter.unusedVariables false

/-- A tree: its kind, its name, its number, its parts. -/
inductive Tr where
  | mk (kd : Int) (s : ByteArray) (n : Int) (k : List Tr)
/-- The same, with the place and the room of the row of its parts. -/
inductive HT where
  | mk (kd : Int) (s : ByteArray) (n : Int) (a : Option Addr) (c : Nat) (k : List HT)
namespace HT
def kd : HT → Int | mk kd _ _ _ _ _ => kd
def s : HT → ByteArray | mk _ s _ _ _ _ => s
def n : HT → Int | mk _ _ n _ _ _ => n
def a : HT → Option Addr | mk _ _ _ a _ _ => a
def c : HT → Nat | mk _ _ _ _ c _ => c
def k : HT → List HT | mk _ _ _ _ _ k => k
def cells (t : HT) : List Value := [.int .i64 t.kd, .string t.s, .int .i64 t.n, .slice t.a t.k.length t.c]
def val (t : HT) : Value := .agg #[.int .i64 t.kd, .string t.s, .int .i64 t.n, .slice t.a t.k.length t.c]
mutual
def tr : HT → Tr | mk kd s n _ _ k => .mk kd s n (trL k)
def trL : List HT → List Tr | [] => [] | x :: r => x.tr :: trL r
end
theorem trL_map (l : List HT) : trL l = l.map tr := by
  induction l with
  | nil => rfl
  | cons x r ih => simp [trL, ih]
end HT
def cellsL : List HT → List Value | [] => [] | x :: r => x.cells ++ cellsL r
theorem cellsL_len (l : List HT) : (cellsL l).length = l.length * 4 := by
  induction l with
  | nil => rfl
  | cons x r ih => simp [cellsL, HT.cells, ih]; omega
theorem cellsL_at {l : List HT} {i : Nat} {x : HT} (h : l[i]? = some x) (j : Nat) (hj : j < 4) : (cellsL l)[i * 4 + j]? = x.cells[j]? := by
  induction l generalizing i with
  | nil => simp at h
  | cons y r ih =>
    have hl : y.cells.length = 4 := rfl
    cases i with
    | zero => simp at h; subst h; simp only [cellsL, Nat.zero_mul, Nat.zero_add]; rw [List.getElem?_append_left (by omega)]
    | succ i =>
      simp only [List.getElem?_cons_succ] at h
      simp only [cellsL]
      rw [List.getElem?_append_right (by omega), ← ih h]
      congr 1
      omega

/-- The tree's parts lie in memory, in blocks of which q holds. -/
inductive HT.In (q : Nat → Prop) (w : World) : HT → Prop
  | mk (kd : Int) (s : ByteArray) (n : Int) (a : Option Addr) (c : Nat) (k : List HT) : Rd w 4 a k.length (cellsL k) → k.length ≤ c → c ≤ maxLen → (∀ ad, a = some ad → q ad.block ∧ ad = ⟨ad.block, 0, none⟩) → (∀ x ∈ k, HT.In q w x) → HT.In q w (.mk kd s n a c k)
section
variable {q : Nat → Prop} {w w' : World} {t : HT}
theorem HT.In.rd (h : HT.In q w t) : Rd w 4 t.a t.k.length (cellsL t.k) := by cases h; assumption
theorem HT.In.cap (h : HT.In q w t) : t.k.length ≤ t.c ∧ t.c ≤ maxLen := by cases h; exact ⟨by assumption, by assumption⟩
theorem HT.In.kid (h : HT.In q w t) {i : Nat} {x : HT} (hx : t.k[i]? = some x) : HT.In q w x := by
  cases h with
  | mk kd s n a c k h1 h2 h3 h4 h5 => exact h5 x (List.mem_of_getElem? hx)
theorem HT.In.place (h : HT.In q w t) : ∀ ad, t.a = some ad → q ad.block ∧ ad = ⟨ad.block, 0, none⟩ := by cases h; assumption
theorem HT.In.at (h : HT.In q w t) {i : Nat} (hi : i < t.k.length) : ∃ g x, t.a = some ⟨g, 0, none⟩ ∧ q g ∧ t.k[i]? = some x ∧ HT.In q w x ∧
    w.cell? ⟨g, i * 4, none⟩ = some (.int .i64 x.kd) ∧ w.cell? ⟨g, i * 4 + 1, none⟩ = some (.string x.s) ∧ w.cell? ⟨g, i * 4 + 2, none⟩ = some (.int .i64 x.n) ∧ w.cell? ⟨g, i * 4 + 3, none⟩ = some (.slice x.a x.k.length x.c) := by
  have h1 : t.k[i]? = some t.k[i] := List.getElem?_eq_getElem hi
  have hin := h.kid h1
  have hr := h.rd
  have hq := h.place
  obtain ⟨ad, e0, c0⟩ := hr.2 (i * 4 + 0) _ (cellsL_at h1 0 (by omega))
  obtain ⟨ad1, e1, c1⟩ := hr.2 (i * 4 + 1) _ (cellsL_at h1 1 (by omega))
  obtain ⟨ad2, e2, c2⟩ := hr.2 (i * 4 + 2) _ (cellsL_at h1 2 (by omega))
  obtain ⟨ad3, e3, c3⟩ := hr.2 (i * 4 + 3) _ (cellsL_at h1 3 (by omega))
  rw [e0] at e1 e2 e3
  injection e1 with e1; injection e2 with e2; injection e3 with e3
  subst e1 e2 e3
  obtain ⟨hqb, hplace⟩ := hq ad e0
  have hadd : ∀ j, ad.add j = ⟨ad.block, j, none⟩ := fun j => by
    have : ad.add j = (⟨ad.block, 0, none⟩ : Addr).add j := by rw [← hplace]
    rw [this, Addr.add_lit]
    simp
  rw [hadd] at c0 c1 c2 c3
  exact ⟨ad.block, _, by rw [e0, ← hplace], hqb, h1, hin, c0, c1, c2, c3⟩
theorem HT.In.ext (h : HT.In q w t) (hx : Ext w w') : HT.In q w' t := by
  induction h with
  | mk kd s n a c k h1 h2 h3 h4 _ ih => exact .mk kd s n a c k (h1.ext hx) h2 h3 h4 ih
theorem Rd.grown {size n : Nat} {a : Option Addr} {xs : List Value} {m : Nat} (h : Rd w size a n xs) (hg : w.grownBy w' (some m)) (hne : ∀ ad, a = some ad → ad.block ≠ m) : Rd w' size a n xs :=
  ⟨h.1, fun j u hu => by
    obtain ⟨ad, e, hc⟩ := h.2 j u hu
    exact ⟨ad, e, hg.cell hc (by rw [add_block]; intro e2; injection e2 with e2; exact hne ad e e2)⟩⟩
theorem HT.In.grown {m : Nat} (h : HT.In q w t) (hq : ∀ b, q b → b ≠ m) (hg : w.grownBy w' (some m)) : HT.In q w' t := by
  induction h with
  | mk kd s n a c k h1 h2 h3 h4 _ ih => exact .mk kd s n a c k (h1.grown hg (fun ad e => hq _ (h4 ad e).1)) h2 h3 h4 ih
theorem HT.In.weak {q' : Nat → Prop} (h : HT.In q w t) (hq : ∀ b, q b → q' b) : HT.In q' w t := by
  induction h with
  | mk kd s n a c k h1 h2 h3 h4 _ ih => exact .mk kd s n a c k h1 h2 h3 (fun ad e => ⟨hq _ (h4 ad e).1, (h4 ad e).2⟩) ih
end
theorem HT.tr_eq (t : HT) : t.tr = .mk t.kd t.s t.n (t.k.map HT.tr) := by
  cases t with
  | mk kd s n a c k => rw [HT.tr, HT.trL_map]; rfl
theorem HT.tr_inv {t : HT} {kd : Int} {s : ByteArray} {n : Int} {k : List Tr} (h : t.tr = .mk kd s n k) : t.kd = kd ∧ t.s = s ∧ t.n = n ∧ t.k.map HT.tr = k := by
  rw [HT.tr_eq] at h
  injection h with h1 h2 h3 h4
  exact ⟨h1, h2, h3, h4⟩
theorem HT.leaf_in (q : Nat → Prop) (w : World) (kd : Int) (s : ByteArray) (n : Int) : HT.In q w (.mk kd s n none 0 []) :=
  .mk _ _ _ _ _ _ Rd.nil (Nat.le_refl _) (by unfold maxLen; omega) (fun ad e => by cases e) (fun x hx => by cases hx)

end Go.Proofs.Ytgjjngkmbplijaa
