/- A contract's tree has the contract's names, and is like another one's where the contracts are alike. No program in sight. -/
import Derived.Test.YtgjjngkmbplijaaZTr
import Derived.Test.YtgjjngkmbplijaaYTerm6
import Derived.Test.YtgjjngkmbplijaaZPl

namespace Go.Proofs.Ytgjjngkmbplijaa
set_option linter.unusedSimpArgs false
set_option linter.unusedVariables false

theorem Ob.all_names (o : Ob) : addAll [] o.tr.allNames = o.names := o.tr_names
theorem Te.tr_names (t : Te) : t.tr.names = t.names := by
  unfold Tr.names
  induction t with
  | zero => rfl
  | one s => simp [Te.tr, Tr.allNames, Tr.allNamesL, Te.names, addAll_nil]
  | odd v => rfl
  | give t ih => simp [Te.tr, Tr.allNames, Tr.allNamesL, Te.names, ← ih, addAll_dedup]
  | whn d t ih => simp [Te.tr, Tr.allNames, Tr.allNamesL, Te.names, ← ih, addAll_dedup]
  | and l r ihl ihr => simp [Te.tr, Tr.allNames, Tr.allNamesL, Te.names, ← ihl, ← ihr, addAll_dedup, addAll_append]
  | or s l r ihl ihr => simp [Te.tr, Tr.allNames, Tr.allNamesL, Te.names, ← ihl, ← ihr, addAll_dedup, addAll_append]
  | scale o t ih => simp [Te.tr, Tr.allNames, Tr.allNamesL, Te.names, ← ih, ← Ob.all_names, addAll_dedup, addAll_append]
  | cond o l r ihl ihr => simp [Te.tr, Tr.allNames, Tr.allNamesL, Te.names, ← ihl, ← ihr, ← Ob.all_names, addAll_dedup, addAll_append]
theorem Te.tr_same (a b : Te) : a.tr.same b.tr = a.same b := by
  induction a generalizing b with
  | zero => cases b <;> simp [Te.tr, Tr.same, Tr.sameTL, Te.same, Tr.kd, Tr.s, Tr.n, Tr.k] <;> try rfl
  | one s => cases b <;> simp [Te.tr, Tr.same, Tr.sameTL, Te.same, Tr.kd, Tr.s, Tr.n, Tr.k]
  | odd v => cases b <;> simp [Te.tr, Tr.same, Tr.sameTL, Te.same, Tr.kd, Tr.s, Tr.n, Tr.k]
  | give t ih => cases b <;> simp [Te.tr, Tr.same, Tr.sameTL, Te.same, Tr.kd, Tr.s, Tr.n, Tr.k, ih]
  | whn d t ih => cases b <;> simp [Te.tr, Tr.same, Tr.sameTL, Te.same, Tr.kd, Tr.s, Tr.n, Tr.k, ih] <;> try rfl
  | and l r ihl ihr => cases b <;> simp [Te.tr, Tr.same, Tr.sameTL, Te.same, Tr.kd, Tr.s, Tr.n, Tr.k, ihl, ihr]
  | or s l r ihl ihr => cases b <;> simp [Te.tr, Tr.same, Tr.sameTL, Te.same, Tr.kd, Tr.s, Tr.n, Tr.k, ihl, ihr]
  | scale o t ih => cases b <;> simp [Te.tr, Tr.same, Tr.sameTL, Te.same, Tr.kd, Tr.s, Tr.n, Tr.k, ih, Ob.tr_same]
  | cond o l r ihl ihr => cases b <;> simp [Te.tr, Tr.same, Tr.sameTL, Te.same, Tr.kd, Tr.s, Tr.n, Tr.k, ihl, ihr, Ob.tr_same]
theorem Ob.same_comm (a b : Ob) : a.same b = b.same a := by
  induction a generalizing b with
  | const n => cases b <;> simp [Ob.same, Bool.beq_comm, eq_comm] <;> try rfl
  | fix s => cases b <;> simp [Ob.same, Bool.beq_comm, eq_comm] <;> try rfl
  | odd v => cases b <;> simp [Ob.same]
  | neg o ih => cases b <;> simp [Ob.same, ih]
  | add l r ihl ihr => cases b <;> simp [Ob.same, ihl, ihr]
  | mul l r ihl ihr => cases b <;> simp [Ob.same, ihl, ihr]
  | max l r ihl ihr => cases b <;> simp [Ob.same, ihl, ihr]
theorem bytes_beq_comm (s t : ByteArray) : (s == t) = (t == s) := by
  by_cases h : s = t
  · subst h; rfl
  · rw [show (s == t) = false by simpa using h, show (t == s) = false by simpa using fun e => h e.symm]
theorem int_beq_comm (s t : Int) : (s == t) = (t == s) := by
  by_cases h : s = t
  · subst h; rfl
  · rw [show (s == t) = false by simpa using h, show (t == s) = false by simpa using fun e => h e.symm]
theorem Te.same_comm (a b : Te) : a.same b = b.same a := by
  induction a generalizing b with
  | zero => cases b <;> simp [Te.same]
  | one s => cases b <;> simp [Te.same]; exact bytes_beq_comm _ _
  | odd v => cases b <;> simp [Te.same]
  | give t ih => cases b <;> simp [Te.same, ih]
  | whn d t ih => cases b <;> simp only [Te.same, ih]; rw [int_beq_comm]
  | and l r ihl ihr => cases b <;> simp [Te.same, ihl, ihr]
  | or s l r ihl ihr => cases b <;> simp only [Te.same, ihl, ihr]; rw [bytes_beq_comm]
  | scale o t ih => cases b <;> simp only [Te.same, ih]; rw [Ob.same_comm]
  | cond o l r ihl ihr => cases b <;> simp only [Te.same, ihl, ihr]; rw [Ob.same_comm]
/-- The number, with nothing where something odd was. -/
def Ob.bare : Ob → Ob
  | .add l r => .add l.bare r.bare
  | .neg o => .neg o.bare
  | .mul l r => .mul l.bare r.bare
  | .max l r => .max l.bare r.bare
  | .odd _ => .odd .nilIface
  | o => o
def Te.bare : Te → Te
  | .give t => .give t.bare
  | .and l r => .and l.bare r.bare
  | .or s l r => .or s l.bare r.bare
  | .scale o t => .scale o.bare t.bare
  | .whn d t => .whn d t.bare
  | .cond o l r => .cond o.bare l.bare r.bare
  | .odd _ => .odd .nilIface
  | t => t
theorem Ob.bare_is (o : Ob) : IsOb o.tr o.bare := by
  induction o with
  | const n => exact .const _ _ _
  | fix s => exact .fix _ _ _
  | odd v => exact .none _ _ _ _ (.inl (by omega))
  | neg o ih => exact .neg _ _ _ _ ih
  | add l r ihl ihr => exact .add _ _ _ _ _ _ ihl ihr
  | mul l r ihl ihr => exact .mul _ _ _ _ _ _ ihl ihr
  | max l r ihl ihr => exact .max _ _ _ _ _ _ ihl ihr
theorem Te.bare_is (t : Te) : IsTe t.tr t.bare := by
  induction t with
  | zero => exact .zero _ _ _
  | one s => exact .one _ _ _
  | odd v => exact .none _ _ _ _ (.inl (by omega))
  | give t ih => exact .give _ _ _ _ ih
  | whn d t ih => exact .whn _ _ _ _ ih
  | and l r ihl ihr => exact .and _ _ _ _ _ _ ihl ihr
  | or s l r ihl ihr => exact .or _ _ _ _ _ _ ihl ihr
  | scale o t ih => exact .scale _ _ _ _ _ _ o.bare_is ih
  | cond o l r ihl ihr => exact .cond _ _ _ _ _ _ _ _ o.bare_is ihl ihr
theorem Ob.bare_tr (o : Ob) : o.bare.tr = o.tr := by
  induction o <;> simp [Ob.bare, Ob.tr, *]
theorem Te.bare_tr (t : Te) : t.bare.tr = t.tr := by
  induction t <;> simp [Te.bare, Te.tr, Ob.bare_tr, *]
theorem Ob.bare_wf {o : Ob} (h : o.wf) : o.bare.wf := by
  induction o with
  | const n => exact h
  | fix s => exact h
  | odd v => exact .inl rfl
  | neg o ih => exact ih h
  | add l r ihl ihr => exact ⟨ihl h.1, ihr h.2⟩
  | mul l r ihl ihr => exact ⟨ihl h.1, ihr h.2⟩
  | max l r ihl ihr => exact ⟨ihl h.1, ihr h.2⟩
theorem Te.bare_wf {t : Te} (h : t.wf) : t.bare.wf := by
  induction t with
  | zero => exact h
  | one s => exact h
  | odd v => exact .inl rfl
  | give t ih => exact ih h
  | whn d t ih => exact ⟨h.1, ih h.2⟩
  | and l r ihl ihr => exact ⟨ihl h.1, ihr h.2⟩
  | or s l r ihl ihr => exact ⟨h.1, ihl h.2.1, ihr h.2.2⟩
  | scale o t ih => exact ⟨Ob.bare_wf h.1, ih h.2⟩
  | cond o l r ihl ihr => exact ⟨Ob.bare_wf h.1, ihl h.2.1, ihr h.2.2⟩
theorem Ob.bare_nodes (o : Ob) : o.bare.nodes = o.nodes := by rw [← Ob.tr_nodes, ← Ob.tr_nodes, Ob.bare_tr]
theorem Te.bare_nodes (t : Te) : t.bare.nodes = t.nodes := by rw [← Te.tr_nodes, ← Te.tr_nodes, Te.bare_tr]

end Go.Proofs.Ytgjjngkmbplijaa
