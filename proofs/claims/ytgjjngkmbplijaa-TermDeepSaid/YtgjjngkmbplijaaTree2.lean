/- The document's trees as plain data: how many, how deep, of their form, their names and labels, alike; the tree of a number, of a contract; the laws that both give the same answers. No program in sight. -/
import Derived.Test.YtgjjngkmbplijaaTree
import Derived.Test.YtgjjngkmbplijaaTerm4
namespace Go.Proofs.Ytgjjngkmbplijaa
set_option linter.unusedSimpArgs false
set_option linter.unusedVariables false

namespace Tr
def kd : Tr → Int | mk kd _ _ _ => kd
def s : Tr → ByteArray | mk _ s _ _ => s
def n : Tr → Int | mk _ _ n _ => n
def k : Tr → List Tr | mk _ _ _ k => k
theorem eta (t : Tr) : t = .mk t.kd t.s t.n t.k := by cases t; rfl
mutual
def nodes : Tr → Nat | mk kd _ _ k => if kd = 0 then 0 else 1 + nodesL k
def nodesL : List Tr → Nat | [] => 0 | x :: r => x.nodes + nodesL r
end
mutual
def depth : Tr → Nat | mk kd _ _ k => if kd = 0 then 0 else depthL k + 1
def depthL : List Tr → Nat | [] => 0 | x :: r => max x.depth (depthL r)
end
/-- Is it right by itself? -/
def selfOk (kd : Int) (s : ByteArray) (n : Int) : Bool :=
  if kd = 2 ∨ kd = 5 ∨ kd = 12 then isName s
  else if kd = 7 then decide (0 ≤ n ∧ n ≤ 10000)
  else if kd = 11 then Vd n
  else decide (kd = 1 ∨ kd = 3 ∨ kd = 4 ∨ kd = 14 ∨ kd = 13 ∨ kd = 15 ∨ kd = 16 ∨ kd = 6 ∨ kd = 8)
def numFirst (kd : Int) : Bool := decide (kd = 6 ∨ kd = 8)
mutual
def form : Tr → Bool → Bool | mk kd s n k, num => selfOk kd s n && (decide (11 ≤ kd) == num) && formL k num (num || numFirst kd)
/-- The parts: the first one may be a number where the others are none. -/
def formL : List Tr → Bool → Bool → Bool | [], _, _ => true | x :: r, num, first => x.form first && formL r num num
end
mutual
def labels : Tr → List ByteArray | mk kd s _ k => (if kd = 5 then [s] else []) ++ labelsL k
def labelsL : List Tr → List ByteArray | [] => [] | x :: r => x.labels ++ labelsL r
end
mutual
def allNames : Tr → List ByteArray | mk kd s _ k => if kd = 12 then [s] else allNamesL k
def allNamesL : List Tr → List ByteArray | [] => [] | x :: r => x.allNames ++ allNamesL r
end
def names (t : Tr) : List ByteArray := addAll [] t.allNames
def check (t : Tr) (num : Bool) : Int := if t.form num = true then (if 60 < t.nodes ∨ 12 < t.depth then 5 else if twice t.labels = true then 4 else 0) else 2
mutual
def same : Tr → Tr → Bool | mk kd s n k, u => !(decide (kd = 0)) && decide (kd = u.kd) && (s == u.s) && decide (n = u.n) && sameTL k u.k
def sameTL : List Tr → List Tr → Bool | [], [] => true | x :: r, y :: t => x.same y && sameTL r t | _, _ => false
end
end Tr
theorem nodesL_snoc (l : List Tr) (x : Tr) : Tr.nodesL (l ++ [x]) = Tr.nodesL l + x.nodes := by
  induction l with
  | nil => simp [Tr.nodesL]
  | cons y r ih => simp only [List.cons_append, Tr.nodesL, ih]; omega
theorem depthL_snoc (l : List Tr) (x : Tr) : Tr.depthL (l ++ [x]) = max (Tr.depthL l) x.depth := by
  induction l with
  | nil => simp [Tr.depthL]
  | cons y r ih => simp only [List.cons_append, Tr.depthL, ih]; omega
theorem labelsL_snoc (l : List Tr) (x : Tr) : Tr.labelsL (l ++ [x]) = Tr.labelsL l ++ x.labels := by
  induction l with
  | nil => simp [Tr.labelsL]
  | cons y r ih => simp only [List.cons_append, Tr.labelsL, ih, List.append_assoc]
theorem allNamesL_snoc (l : List Tr) (x : Tr) : Tr.allNamesL (l ++ [x]) = Tr.allNamesL l ++ x.allNames := by
  induction l with
  | nil => simp [Tr.allNamesL]
  | cons y r ih => simp only [List.cons_append, Tr.allNamesL, ih, List.append_assoc]

/-- The tree of a number. -/
def Ob.tr : Ob → Tr
  | .const n => .mk 11 ⟨#[]⟩ n []
  | .fix s => .mk 12 s 0 []
  | .add l r => .mk 13 ⟨#[]⟩ 0 [l.tr, r.tr]
  | .neg o => .mk 14 ⟨#[]⟩ 0 [o.tr]
  | .mul l r => .mk 15 ⟨#[]⟩ 0 [l.tr, r.tr]
  | .max l r => .mk 16 ⟨#[]⟩ 0 [l.tr, r.tr]
  | .odd _ => .mk 0 ⟨#[]⟩ 0 []
/-- The tree of a contract. -/
def Te.tr : Te → Tr
  | .zero => .mk 1 ⟨#[]⟩ 0 []
  | .one s => .mk 2 s 0 []
  | .give t => .mk 3 ⟨#[]⟩ 0 [t.tr]
  | .and l r => .mk 4 ⟨#[]⟩ 0 [l.tr, r.tr]
  | .or s l r => .mk 5 s 0 [l.tr, r.tr]
  | .scale o t => .mk 6 ⟨#[]⟩ 0 [o.tr, t.tr]
  | .whn d t => .mk 7 ⟨#[]⟩ d [t.tr]
  | .cond o l r => .mk 8 ⟨#[]⟩ 0 [o.tr, l.tr, r.tr]
  | .odd _ => .mk 0 ⟨#[]⟩ 0 []

theorem Ob.tr_nodes (o : Ob) : o.tr.nodes = o.nodes := by
  induction o <;> simp [Ob.tr, Tr.nodes, Tr.nodesL, Ob.nodes, *] <;> omega
theorem Ob.tr_depth (o : Ob) : o.tr.depth = o.depth := by
  induction o <;> simp [Ob.tr, Tr.depth, Tr.depthL, Ob.depth, *]
theorem Te.tr_nodes (t : Te) : t.tr.nodes = t.nodes := by
  induction t <;> simp [Te.tr, Tr.nodes, Tr.nodesL, Te.nodes, Ob.tr_nodes, *] <;> omega
theorem Te.tr_depth (t : Te) : t.tr.depth = t.depth := by
  induction t <;> simp [Te.tr, Tr.depth, Tr.depthL, Te.depth, Ob.tr_depth, *] <;> omega
theorem Ob.tr_labels (o : Ob) : o.tr.labels = [] := by
  induction o <;> simp [Ob.tr, Tr.labels, Tr.labelsL, *]
theorem Te.tr_labels (t : Te) : t.tr.labels = t.labels := by
  induction t <;> simp [Te.tr, Tr.labels, Tr.labelsL, Te.labels, Ob.tr_labels, *]
theorem Ob.tr_form (o : Ob) : o.tr.form true = o.formed := by
  induction o <;> simp [Ob.tr, Tr.form, Tr.formL, Tr.selfOk, Tr.numFirst, Ob.formed, *]

theorem addAll_nil (L : List ByteArray) : addAll L [] = L := rfl
theorem addAll_cons (L : List ByteArray) (s : ByteArray) (N : List ByteArray) : addAll L (s :: N) = addAll (addNew L s) N := rfl
theorem addAll_append (L N M : List ByteArray) : addAll L (N ++ M) = addAll (addAll L N) M := by simp [addAll]
theorem mem_addNew (L : List ByteArray) (s x : ByteArray) : x ∈ addNew L s ↔ x ∈ L ∨ x = s := by
  unfold addNew
  split
  · rename_i h
    obtain ⟨y, hy, e⟩ := List.any_eq_true.1 h
    simp only [beq_iff_eq] at e
    subst e
    exact ⟨.inl, fun h => h.elim id (fun e => e ▸ hy)⟩
  · simp
theorem mem_addAll (L N : List ByteArray) (x : ByteArray) : x ∈ addAll L N ↔ x ∈ L ∨ x ∈ N := by
  induction N generalizing L with
  | nil => simp [addAll_nil]
  | cons s N ih => rw [addAll_cons, ih, mem_addNew]; simp [or_assoc]
theorem addNew_mem {L : List ByteArray} {s : ByteArray} (h : s ∈ L) : addNew L s = L := by
  unfold addNew
  rw [if_pos (List.any_eq_true.2 ⟨s, h, by simp⟩)]
theorem addNew_not {L : List ByteArray} {s : ByteArray} (h : s ∉ L) : addNew L s = L ++ [s] := by
  unfold addNew
  rw [if_neg]
  intro h2
  obtain ⟨y, hy, e⟩ := List.any_eq_true.1 h2
  simp only [beq_iff_eq] at e
  exact h (e ▸ hy)
/-- What is added each once may be taken each once first. -/
theorem addAll_once (L M N : List ByteArray) : addAll L (addAll M N) = addAll (addAll L M) N := by
  induction N generalizing M with
  | nil => rfl
  | cons s N ih =>
    rw [addAll_cons, ih, addAll_cons]
    congr 1
    by_cases h : s ∈ M
    · rw [addNew_mem h, addNew_mem ((mem_addAll _ _ _).2 (.inr h))]
    · rw [addNew_not h, addAll_append]
      rfl
theorem addAll_dedup (L N : List ByteArray) : addAll L (addAll [] N) = addAll L N := by rw [addAll_once]; rfl
theorem Ob.tr_names (o : Ob) : o.tr.names = o.names := by
  unfold Tr.names
  induction o with
  | fix s => simp [Ob.tr, Tr.allNames, Ob.names, addAll, addNew]
  | const n => rfl
  | odd v => rfl
  | neg o ih => simp [Ob.tr, Tr.allNames, Tr.allNamesL, Ob.names, ← ih, addAll_dedup]
  | add l r ihl ihr => simp [Ob.tr, Tr.allNames, Tr.allNamesL, Ob.names, ← ihl, ← ihr, addAll_dedup, addAll_append]
  | mul l r ihl ihr => simp [Ob.tr, Tr.allNames, Tr.allNamesL, Ob.names, ← ihl, ← ihr, addAll_dedup, addAll_append]
  | max l r ihl ihr => simp [Ob.tr, Tr.allNames, Tr.allNamesL, Ob.names, ← ihl, ← ihr, addAll_dedup, addAll_append]
theorem Ob.tr_check (o : Ob) : o.tr.check true = o.checked := by
  unfold Tr.check Ob.checked
  rw [Ob.tr_form, Ob.tr_nodes, Ob.tr_depth, Ob.tr_labels]
  rfl
theorem Ob.tr_same (a b : Ob) : a.tr.same b.tr = a.same b := by
  induction a generalizing b with
  | const n => cases b <;> simp [Ob.tr, Tr.same, Tr.sameTL, Ob.same, Tr.kd, Tr.s, Tr.n, Tr.k] ; try rfl
  | fix s => cases b <;> simp [Ob.tr, Tr.same, Tr.sameTL, Ob.same, Tr.kd, Tr.s, Tr.n, Tr.k]
  | odd v => cases b <;> simp [Ob.tr, Tr.same, Tr.sameTL, Ob.same, Tr.kd, Tr.s, Tr.n, Tr.k]
  | neg o ih => cases b <;> simp [Ob.tr, Tr.same, Tr.sameTL, Ob.same, Tr.kd, Tr.s, Tr.n, Tr.k, ih]
  | _ l r ihl ihr => cases b <;> simp [Ob.tr, Tr.same, Tr.sameTL, Ob.same, Tr.kd, Tr.s, Tr.n, Tr.k, ihl, ihr]

end Go.Proofs.Ytgjjngkmbplijaa
