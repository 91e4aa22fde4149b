/- Texts put together: Tree, Tree2. -/
import Derived.Test.YtgjjngkmbplijaaZO2
import Derived.Test.YtgjjngkmbplijaaZTe
/- The document's trees: as plain data (Tr), and with the places of their parts (HT); as they lie in memory. -/
namespace Go.Proofs.Ytgjjngkmbplijaa
open Go.RowKit
set_option linter.unusedSimpArgs false
set_option linter.unusedVariables false

/-- A tree: its kind, its name, its number, its parts. -/
inductive Tr where
  | mk (kd : Int) (s : ByteArray) (n : Int) (k : List Tr)
/-- The same, with the place and the room of the row of its parts. -/
inductive HT where
  | mk (kd : Int) (s : ByteArray) (n : Int) (a : Option Addr) (c : Nat) (k : List HT)
namespace HT
def kd : HT → Int | mk kd _ _ _ _ _ => kd
def s : HT → ByteArray | mk _ s _ _ _ _ => s
def n : HT → Int | mk _ _ n _ _ _ => n
def a : HT → Option Addr | mk _ _ _ a _ _ => a
def c : HT → Nat | mk _ _ _ _ c _ => c
def k : HT → List HT | mk _ _ _ _ _ k => k
def cells (t : HT) : List Value := [.int .i64 t.kd, .string t.s, .int .i64 t.n, .slice t.a t.k.length t.c]
def val (t : HT) : Value := .agg #[.int .i64 t.kd, .string t.s, .int .i64 t.n, .slice t.a t.k.length t.c]
mutual
def tr : HT → Tr | mk kd s n _ _ k => .mk kd s n (trL k)
def trL : List HT → List Tr | [] => [] | x :: r => x.tr :: trL r
end
theorem trL_map (l : List HT) : trL l = l.map tr := by
  induction l with
  | nil => rfl
  | cons x r ih => simp [trL, ih]
end HT
def cellsL : List HT → List Value | [] => [] | x :: r => x.cells ++ cellsL r
theorem cellsL_len (l : List HT) : (cellsL l).length = l.length * 4 := by
  induction l with
  | nil => rfl
  | cons x r ih => simp [cellsL, HT.cells, ih]; omega
theorem cellsL_at {l : List HT} {i : Nat} {x : HT} (h : l[i]? = some x) (j : Nat) (hj : j < 4) : (cellsL l)[i * 4 + j]? = x.cells[j]? := by
  induction l generalizing i with
  | nil => simp at h
  | cons y r ih =>
    have hl : y.cells.length = 4 := rfl
    cases i with
    | zero => simp at h; subst h; simp only [cellsL, Nat.zero_mul, Nat.zero_add]; rw [List.getElem?_append_left (by omega)]
    | succ i =>
      simp only [List.getElem?_cons_succ] at h
      simp only [cellsL]
      rw [List.getElem?_append_right (by omega), ← ih h]
      congr 1
      omega

/-- The tree's parts lie in memory, in blocks of which q holds. -/
inductive HT.In (q : Nat → Prop) (w : World) : HT → Prop
  | mk (kd : Int) (s : ByteArray) (n : Int) (a : Option Addr) (c : Nat) (k : List HT) : Rd w 4 a k.length (cellsL k) → k.length ≤ c → c ≤ maxLen → (∀ ad, a = some ad → q ad.block ∧ ad = ⟨ad.block, 0, none⟩) → (∀ x ∈ k, HT.In q w x) → HT.In q w (.mk kd s n a c k)
section
variable {q : Nat → Prop} {w w' : World} {t : HT}
theorem HT.In.rd (h : HT.In q w t) : Rd w 4 t.a t.k.length (cellsL t.k) := by cases h; assumption
theorem HT.In.cap (h : HT.In q w t) : t.k.length ≤ t.c ∧ t.c ≤ maxLen := by cases h; exact ⟨by assumption, by assumption⟩
theorem HT.In.kid (h : HT.In q w t) {i : Nat} {x : HT} (hx : t.k[i]? = some x) : HT.In q w x := by
  cases h with
  | mk kd s n a c k h1 h2 h3 h4 h5 => exact h5 x (List.mem_of_getElem? hx)
theorem HT.In.place (h : HT.In q w t) : ∀ ad, t.a = some ad → q ad.block ∧ ad = ⟨ad.block, 0, none⟩ := by cases h; assumption
theorem HT.In.at (h : HT.In q w t) {i : Nat} (hi : i < t.k.length) : ∃ g x, t.a = some ⟨g, 0, none⟩ ∧ q g ∧ t.k[i]? = some x ∧ HT.In q w x ∧
    w.cell? ⟨g, i * 4, none⟩ = some (.int .i64 x.kd) ∧ w.cell? ⟨g, i * 4 + 1, none⟩ = some (.string x.s) ∧ w.cell? ⟨g, i * 4 + 2, none⟩ = some (.int .i64 x.n) ∧ w.cell? ⟨g, i * 4 + 3, none⟩ = some (.slice x.a x.k.length x.c) := by
  have h1 : t.k[i]? = some t.k[i] := List.getElem?_eq_getElem hi
  have hin := h.kid h1
  have hr := h.rd
  have hq := h.place
  obtain ⟨ad, e0, c0⟩ := hr.2 (i * 4 + 0) _ (cellsL_at h1 0 (by omega))
  obtain ⟨ad1, e1, c1⟩ := hr.2 (i * 4 + 1) _ (cellsL_at h1 1 (by omega))
  obtain ⟨ad2, e2, c2⟩ := hr.2 (i * 4 + 2) _ (cellsL_at h1 2 (by omega))
  obtain ⟨ad3, e3, c3⟩ := hr.2 (i * 4 + 3) _ (cellsL_at h1 3 (by omega))
  rw [e0] at e1 e2 e3
  injection e1 with e1; injection e2 with e2; injection e3 with e3
  subst e1 e2 e3
  obtain ⟨hqb, hplace⟩ := hq ad e0
  have hadd : ∀ j, ad.add j = ⟨ad.block, j, none⟩ := fun j => by
    have : ad.add j = (⟨ad.block, 0, none⟩ : Addr).add j := by rw [← hplace]
    rw [this, Addr.add_lit]
    simp
  rw [hadd] at c0 c1 c2 c3
  exact ⟨ad.block, _, by rw [e0, ← hplace], hqb, h1, hin, c0, c1, c2, c3⟩
theorem HT.In.ext (h : HT.In q w t) (hx : Ext w w') : HT.In q w' t := by
  induction h with
  | mk kd s n a c k h1 h2 h3 h4 _ ih => exact .mk kd s n a c k (h1.ext hx) h2 h3 h4 ih
theorem Rd.grown {size n : Nat} {a : Option Addr} {xs : List Value} {m : Nat} (h : Rd w size a n xs) (hg : w.grownBy w' (some m)) (hne : ∀ ad, a = some ad → ad.block ≠ m) : Rd w' size a n xs :=
  ⟨h.1, fun j u hu => by
    obtain ⟨ad, e, hc⟩ := h.2 j u hu
    exact ⟨ad, e, hg.cell hc (by rw [add_block]; intro e2; injection e2 with e2; exact hne ad e e2)⟩⟩
theorem HT.In.grown {m : Nat} (h : HT.In q w t) (hq : ∀ b, q b → b ≠ m) (hg : w.grownBy w' (some m)) : HT.In q w' t := by
  induction h with
  | mk kd s n a c k h1 h2 h3 h4 _ ih => exact .mk kd s n a c k (h1.grown hg (fun ad e => hq _ (h4 ad e).1)) h2 h3 h4 ih
theorem HT.In.weak {q' : Nat → Prop} (h : HT.In q w t) (hq : ∀ b, q b → q' b) : HT.In q' w t := by
  induction h with
  | mk kd s n a c k h1 h2 h3 h4 _ ih => exact .mk kd s n a c k h1 h2 h3 (fun ad e => ⟨hq _ (h4 ad e).1, (h4 ad e).2⟩) ih
end
theorem HT.tr_eq (t : HT) : t.tr = .mk t.kd t.s t.n (t.k.map HT.tr) := by
  cases t with
  | mk kd s n a c k => rw [HT.tr, HT.trL_map]; rfl
theorem HT.tr_inv {t : HT} {kd : Int} {s : ByteArray} {n : Int} {k : List Tr} (h : t.tr = .mk kd s n k) : t.kd = kd ∧ t.s = s ∧ t.n = n ∧ t.k.map HT.tr = k := by
  rw [HT.tr_eq] at h
  injection h with h1 h2 h3 h4
  exact ⟨h1, h2, h3, h4⟩
theorem HT.leaf_in (q : Nat → Prop) (w : World) (kd : Int) (s : ByteArray) (n : Int) : HT.In q w (.mk kd s n none 0 []) :=
  .mk _ _ _ _ _ _ Rd.nil (Nat.le_refl _) (by unfold maxLen; omega) (fun ad e => by cases e) (fun x hx => by cases hx)

end Go.Proofs.Ytgjjngkmbplijaa

/- The document's trees as plain data: how many, how deep, of their form, their names and labels, alike; the tree of a number, of a contract; the laws that both give the same answers. No program in sight. -/
namespace Go.Proofs.Ytgjjngkmbplijaa
set_option linter.unusedSimpArgs false
set_option linter.unusedVariables false

namespace Tr
def kd : Tr → Int | mk kd _ _ _ => kd
def s : Tr → ByteArray | mk _ s _ _ => s
def n : Tr → Int | mk _ _ n _ => n
def k : Tr → List Tr | mk _ _ _ k => k
theorem eta (t : Tr) : t = .mk t.kd t.s t.n t.k := by cases t; rfl
mutual
def nodes : Tr → Nat | mk kd _ _ k => if kd = 0 then 0 else 1 + nodesL k
def nodesL : List Tr → Nat | [] => 0 | x :: r => x.nodes + nodesL r
end
mutual
def depth : Tr → Nat | mk kd _ _ k => if kd = 0 then 0 else depthL k + 1
def depthL : List Tr → Nat | [] => 0 | x :: r => max x.depth (depthL r)
end
/-- Is it right by itself? -/
def selfOk (kd : Int) (s : ByteArray) (n : Int) : Bool :=
  if kd = 2 ∨ kd = 5 ∨ kd = 12 then isName s
  else if kd = 7 then decide (0 ≤ n ∧ n ≤ 10000)
  else if kd = 11 then Vd n
  else decide (kd = 1 ∨ kd = 3 ∨ kd = 4 ∨ kd = 14 ∨ kd = 13 ∨ kd = 15 ∨ kd = 16 ∨ kd = 6 ∨ kd = 8)
def numFirst (kd : Int) : Bool := decide (kd = 6 ∨ kd = 8)
mutual
def form : Tr → Bool → Bool | mk kd s n k, num => selfOk kd s n && (decide (11 ≤ kd) == num) && formL k num (num || numFirst kd)
/-- The parts: the first one may be a number where the others are none. -/
def formL : List Tr → Bool → Bool → Bool | [], _, _ => true | x :: r, num, first => x.form first && formL r num num
end
mutual
def labels : Tr → List ByteArray | mk kd s _ k => (if kd = 5 then [s] else []) ++ labelsL k
def labelsL : List Tr → List ByteArray | [] => [] | x :: r => x.labels ++ labelsL r
end
mutual
def allNames : Tr → List ByteArray | mk kd s _ k => if kd = 12 then [s] else allNamesL k
def allNamesL : List Tr → List ByteArray | [] => [] | x :: r => x.allNames ++ allNamesL r
end
def names (t : Tr) : List ByteArray := addAll [] t.allNames
def check (t : Tr) (num : Bool) : Int := if t.form num = true then (if 60 < t.nodes ∨ 12 < t.depth then 5 else if twice t.labels = true then 4 else 0) else 2
mutual
def same : Tr → Tr → Bool | mk kd s n k, u => !(decide (kd = 0)) && decide (kd = u.kd) && (s == u.s) && decide (n = u.n) && sameTL k u.k
def sameTL : List Tr → List Tr → Bool | [], [] => true | x :: r, y :: t => x.same y && sameTL r t | _, _ => false
end
end Tr
theorem nodesL_snoc (l : List Tr) (x : Tr) : Tr.nodesL (l ++ [x]) = Tr.nodesL l + x.nodes := by
  induction l with
  | nil => simp [Tr.nodesL]
  | cons y r ih => simp only [List.cons_append, Tr.nodesL, ih]; omega
theorem depthL_snoc (l : List Tr) (x : Tr) : Tr.depthL (l ++ [x]) = max (Tr.depthL l) x.depth := by
  induction l with
  | nil => simp [Tr.depthL]
  | cons y r ih => simp only [List.cons_append, Tr.depthL, ih]; omega
theorem labelsL_snoc (l : List Tr) (x : Tr) : Tr.labelsL (l ++ [x]) = Tr.labelsL l ++ x.labels := by
  induction l with
  | nil => simp [Tr.labelsL]
  | cons y r ih => simp only [List.cons_append, Tr.labelsL, ih, List.append_assoc]
theorem allNamesL_snoc (l : List Tr) (x : Tr) : Tr.allNamesL (l ++ [x]) = Tr.allNamesL l ++ x.allNames := by
  induction l with
  | nil => simp [Tr.allNamesL]
  | cons y r ih => simp only [List.cons_append, Tr.allNamesL, ih, List.append_assoc]

/-- The tree of a number. -/
def Ob.tr : Ob → Tr
  | .const n => .mk 11 ⟨#[]⟩ n []
  | .fix s => .mk 12 s 0 []
  | .add l r => .mk 13 ⟨#[]⟩ 0 [l.tr, r.tr]
  | .neg o => .mk 14 ⟨#[]⟩ 0 [o.tr]
  | .mul l r => .mk 15 ⟨#[]⟩ 0 [l.tr, r.tr]
  | .max l r => .mk 16 ⟨#[]⟩ 0 [l.tr, r.tr]
  | .odd _ => .mk 0 ⟨#[]⟩ 0 []
/-- The tree of a contract. -/
def Te.tr : Te → Tr
  | .zero => .mk 1 ⟨#[]⟩ 0 []
  | .one s => .mk 2 s 0 []
  | .give t => .mk 3 ⟨#[]⟩ 0 [t.tr]
  | .and l r => .mk 4 ⟨#[]⟩ 0 [l.tr, r.tr]
  | .or s l r => .mk 5 s 0 [l.tr, r.tr]
  | .scale o t => .mk 6 ⟨#[]⟩ 0 [o.tr, t.tr]
  | .whn d t => .mk 7 ⟨#[]⟩ d [t.tr]
  | .cond o l r => .mk 8 ⟨#[]⟩ 0 [o.tr, l.tr, r.tr]
  | .odd _ => .mk 0 ⟨#[]⟩ 0 []

theorem Ob.tr_nodes (o : Ob) : o.tr.nodes = o.nodes := by
  induction o <;> simp [Ob.tr, Tr.nodes, Tr.nodesL, Ob.nodes, *] <;> omega
theorem Ob.tr_depth (o : Ob) : o.tr.depth = o.depth := by
  induction o <;> simp [Ob.tr, Tr.depth, Tr.depthL, Ob.depth, *]
theorem Te.tr_nodes (t : Te) : t.tr.nodes = t.nodes := by
  induction t <;> simp [Te.tr, Tr.nodes, Tr.nodesL, Te.nodes, Ob.tr_nodes, *] <;> omega
theorem Te.tr_depth (t : Te) : t.tr.depth = t.depth := by
  induction t <;> simp [Te.tr, Tr.depth, Tr.depthL, Te.depth, Ob.tr_depth, *] <;> omega
theorem Ob.tr_labels (o : Ob) : o.tr.labels = [] := by
  induction o <;> simp [Ob.tr, Tr.labels, Tr.labelsL, *]
theorem Te.tr_labels (t : Te) : t.tr.labels = t.labels := by
  induction t <;> simp [Te.tr, Tr.labels, Tr.labelsL, Te.labels, Ob.tr_labels, *]
theorem Ob.tr_form (o : Ob) : o.tr.form true = o.formed := by
  induction o <;> simp [Ob.tr, Tr.form, Tr.formL, Tr.selfOk, Tr.numFirst, Ob.formed, *]

theorem addAll_nil (L : List ByteArray) : addAll L [] = L := rfl
theorem addAll_cons (L : List ByteArray) (s : ByteArray) (N : List ByteArray) : addAll L (s :: N) = addAll (addNew L s) N := rfl
theorem addAll_append (L N M : List ByteArray) : addAll L (N ++ M) = addAll (addAll L N) M := by simp [addAll]
theorem mem_addNew (L : List ByteArray) (s x : ByteArray) : x ∈ addNew L s ↔ x ∈ L ∨ x = s := by
  unfold addNew
  split
  · rename_i h
    obtain ⟨y, hy, e⟩ := List.any_eq_true.1 h
    simp only [beq_iff_eq] at e
    subst e
    exact ⟨.inl, fun h => h.elim id (fun e => e ▸ hy)⟩
  · simp
theorem mem_addAll (L N : List ByteArray) (x : ByteArray) : x ∈ addAll L N ↔ x ∈ L ∨ x ∈ N := by
  induction N generalizing L with
  | nil => simp [addAll_nil]
  | cons s N ih => rw [addAll_cons, ih, mem_addNew]; simp [or_assoc]
theorem addNew_mem {L : List ByteArray} {s : ByteArray} (h : s ∈ L) : addNew L s = L := by
  unfold addNew
  rw [if_pos (List.any_eq_true.2 ⟨s, h, by simp⟩)]
theorem addNew_not {L : List ByteArray} {s : ByteArray} (h : s ∉ L) : addNew L s = L ++ [s] := by
  unfold addNew
  rw [if_neg]
  intro h2
  obtain ⟨y, hy, e⟩ := List.any_eq_true.1 h2
  simp only [beq_iff_eq] at e
  exact h (e ▸ hy)
/-- What is added each once may be taken each once first. -/
theorem addAll_once (L M N : List ByteArray) : addAll L (addAll M N) = addAll (addAll L M) N := by
  induction N generalizing M with
  | nil => rfl
  | cons s N ih =>
    rw [addAll_cons, ih, addAll_cons]
    congr 1
    by_cases h : s ∈ M
    · rw [addNew_mem h, addNew_mem ((mem_addAll _ _ _).2 (.inr h))]
    · rw [addNew_not h, addAll_append]
      rfl
theorem addAll_dedup (L N : List ByteArray) : addAll L (addAll [] N) = addAll L N := by rw [addAll_once]; rfl
theorem Ob.tr_names (o : Ob) : o.tr.names = o.names := by
  unfold Tr.names
  induction o with
  | fix s => simp [Ob.tr, Tr.allNames, Ob.names, addAll, addNew]
  | const n => rfl
  | odd v => rfl
  | neg o ih => simp [Ob.tr, Tr.allNames, Tr.allNamesL, Ob.names, ← ih, addAll_dedup]
  | add l r ihl ihr => simp [Ob.tr, Tr.allNames, Tr.allNamesL, Ob.names, ← ihl, ← ihr, addAll_dedup, addAll_append]
  | mul l r ihl ihr => simp [Ob.tr, Tr.allNames, Tr.allNamesL, Ob.names, ← ihl, ← ihr, addAll_dedup, addAll_append]
  | max l r ihl ihr => simp [Ob.tr, Tr.allNames, Tr.allNamesL, Ob.names, ← ihl, ← ihr, addAll_dedup, addAll_append]
theorem Ob.tr_check (o : Ob) : o.tr.check true = o.checked := by
  unfold Tr.check Ob.checked
  rw [Ob.tr_form, Ob.tr_nodes, Ob.tr_depth, Ob.tr_labels]
  rfl
theorem Ob.tr_same (a b : Ob) : a.tr.same b.tr = a.same b := by
  induction a generalizing b with
  | const n => cases b <;> simp [Ob.tr, Tr.same, Tr.sameTL, Ob.same, Tr.kd, Tr.s, Tr.n, Tr.k] ; try rfl
  | fix s => cases b <;> simp [Ob.tr, Tr.same, Tr.sameTL, Ob.same, Tr.kd, Tr.s, Tr.n, Tr.k]
  | odd v => cases b <;> simp [Ob.tr, Tr.same, Tr.sameTL, Ob.same, Tr.kd, Tr.s, Tr.n, Tr.k]
  | neg o ih => cases b <;> simp [Ob.tr, Tr.same, Tr.sameTL, Ob.same, Tr.kd, Tr.s, Tr.n, Tr.k, ih]
  | _ l r ihl ihr => cases b <;> simp [Ob.tr, Tr.same, Tr.sameTL, Ob.same, Tr.kd, Tr.s, Tr.n, Tr.k, ihl, ihr]

end Go.Proofs.Ytgjjngkmbplijaa
