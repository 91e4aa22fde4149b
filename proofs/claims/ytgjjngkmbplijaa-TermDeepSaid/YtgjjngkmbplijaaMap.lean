/- Maps with struct keys, entry by entry: look up, store, length, copy. -/
import Derived.Test.YtgjjngkmbplijaaBase
namespace Go.Proofs.Ytgjjngkmbplijaa
open Go.RowKit
set_option linter.unusedSimpArgs false
set_option linter.unusedVariables false
set_option linter.unusedSectionVars false

section
variable {P : Program} {κ : Type} [BEq κ] {K E T : TypeId} {kv : κ → Value} {z : Value}
/-- The entries es are the list l, key by key. -/
def Ent (kv : κ → Value) (es : Array MapEntry) (l : List (κ × Value)) : Prop := es.toList.map (fun e => (e.key, e.val)) = l.map (fun x => (kv x.1, x.2))

/-- What the table tells of a map's type, and of its key's. -/
structure MapT (P : Program) (T K E : TypeId) (kv : κ → Value) (z : Value) : Prop where
  under : P.underlying T = some (.map K E)
  kind : P.underlying K = some (.struct (P.fieldsOf K))
  eq : ∀ (a b : κ) (w : World), (Op.equal K (kv a) (kv b)).run P w = .ok (a == b) w
  key : ∀ (e : Bool) (a : κ) (w : World), (Instr.checkKey e 10000 K (kv a)).run P w = .ok () w
  zero : ∀ w : World, (zeroValue E).run P w = .ok z w

theorem run_asking (heq : ∀ (a b : κ) (w : World), (Op.equal K (kv a) (kv b)).run P w = .ok (a == b) w) (a : κ) (w : World) : ∀ (es : List MapEntry) (l : List (κ × Value)) (i : Nat),
    es.map (fun e => (e.key, e.val)) = l.map (fun x => (kv x.1, x.2)) →
    ∃ r, (Instr.findAsking K (kv a) es i).run P w = .ok r w ∧ r.map (·.2) = l.lookup a := by
  intro es
  induction es with
  | nil =>
    intro l i h
    cases l with
    | nil => exact ⟨none, rfl, rfl⟩
    | cons x r => simp at h
  | cons e r ih =>
    intro l i h
    cases l with
    | nil => simp at h
    | cons x r' =>
      simp only [List.map_cons, List.cons.injEq, Prod.mk.injEq] at h
      obtain ⟨⟨h1, h2⟩, h3⟩ := h
      rw [Instr.findAsking]
      simp only [Sem.run_bind, h1, heq, Result.andThen_ok]
      cases hb : a == x.1 with
      | true => exact ⟨some (i, e.val), by simp, by simp [List.lookup, hb, h2]⟩
      | false =>
        obtain ⟨q, hq1, hq2⟩ := ih r' (i + 1) h3
        exact ⟨q, by simpa using hq1, by rw [hq2]; simp [List.lookup, hb]⟩

theorem run_find (M : MapT P T K E kv z) (a : κ) (w : World) (es : Array MapEntry) (l : List (κ × Value)) (h : Ent kv es l) :
    ∃ r, (Instr.findKey K (kv a) es.toList).run P w = .ok r w ∧ r.map (·.2) = l.lookup a := by
  have hfs := M.kind
  generalize P.fieldsOf K = fs at hfs
  unfold Instr.findKey
  rw [Sem.run_bind, run_underlying hfs]
  simp only [Result.andThen_ok]
  cases hes : es.toList with
  | nil =>
    have : l = [] := by
      unfold Ent at h
      rw [hes] at h
      cases l with
      | nil => rfl
      | cons x r => simp at h
    subst this
    exact ⟨none, rfl, rfl⟩
  | cons e r =>
    have hn : Instr.findNow (.struct fs) (kv a) (e :: r) 0 = none := by
      simp [Instr.findNow, Instr.sameNow]
    rw [hn]
    unfold Ent at h
    rw [hes] at h
    exact run_asking M.eq a w (e :: r) l 0 h

/-- 'v, ok := m[k]'. -/
theorem run_look (M : MapT P T K E kv z) {w : World} {b : Nat} {es : Array MapEntry} {ck : Nat} {l : List (κ × Value)} (hb : w.heap[b]? = some (.map es ck)) (h : Ent kv es l) (a : κ) :
    (Instr.lookup T (.map (some b)) (kv a) true).run P w = .ok (.tuple #[(l.lookup a).getD z, .bool (l.lookup a).isSome]) w := by
  obtain ⟨r, h1, h2⟩ := run_find M a w es l h
  have hg : (getObj b).run P w = .ok (.map es ck) w := by simp [getObj, Sem.run, hb]
  simp only [Instr.lookup, Sem.run_bind, run_underlying M.under, Result.andThen_ok, hg, Sem.run_pure, M.key, h1]
  rw [← h2]
  cases r with
  | none => simp [M.zero]
  | some x => simp

/-- The world in which block b is that object. -/
def putObj (w : World) (b : Nat) (o : Obj) : World := { w with heap := w.heap.setIfInBounds b o }
omit [BEq κ] in
theorem putObj_same {w : World} {b : Nat} {o o' : Obj} (h : w.heap[b]? = some o') : (putObj w b o).heap[b]? = some o := by
  have hlt : b < w.heap.size := (Array.getElem?_eq_some_iff.1 h).1
  simp [putObj, hlt]
omit [BEq κ] in
theorem putObj_other (w : World) {b k : Nat} (o : Obj) (h : k ≠ b) : (putObj w b o).heap[k]? = w.heap[k]? := by
  simp [putObj, Ne.symm h]
omit [BEq κ] in
theorem putObj_grown (w : World) (b : Nat) (o : Obj) : w.grownBy (putObj w b o) (some b) :=
  ⟨rfl, rfl, rfl, by simp [putObj], fun k _ hne => putObj_other w o (fun e => hne (by rw [e]))⟩

/-- 'm[k] = v', k not in it. -/
theorem run_put (M : MapT P T K E kv z) {w : World} {b : Nat} {es : Array MapEntry} {ck : Nat} {l : List (κ × Value)} (hb : w.heap[b]? = some (.map es ck)) (h : Ent kv es l) (a : κ) (v : Value) (ha : l.lookup a = none) :
    (Instr.mapUpdate T (.map (some b)) (kv a) v).run P w = .ok () (putObj w b (.map (es.push { key := kv a, val := v, born := ck }) (ck + 1))) ∧
      Ent kv (es.push { key := kv a, val := v, born := ck }) (l ++ [(a, v)]) := by
  obtain ⟨r, h1, h2⟩ := run_find M a w es l h
  have hg : (getObj b).run P w = .ok (.map es ck) w := by simp [getObj, Sem.run, hb]
  have hr : r = none := by
    rw [ha] at h2
    cases r with
    | none => rfl
    | some x => cases h2
  subst hr
  refine ⟨?_, ?_⟩
  · simp only [Instr.mapUpdate, Sem.run_bind, run_underlying M.under, Result.andThen_ok, hg, M.key, h1]
    simp [setObj, Sem.run, hb, putObj]
  · unfold Ent at h ⊢
    simp [h]

theorem ent_size {es : Array MapEntry} {l : List (κ × Value)} (h : Ent kv es l) : es.size = l.length := by
  have := congrArg List.length h
  simpa using this

/-- 'len(m)'. -/
theorem run_len_map (hT : P.underlying T = some (.map K E)) {w : World} {b : Nat} {es : Array MapEntry} {ck : Nat} (hb : w.heap[b]? = some (.map es ck)) (ty : TypeId) (n : Nat) (hn : es.size = n) :
    (Builtin.len_ #[T] ty #[.map (some b)]).run P w = .ok (.int .i64 n) w := by
  have hg : (getObj b).run P w = .ok (.map es ck) w := by simp [getObj, Sem.run, hb]
  subst hn
  simp [Builtin.len_, run_underlying hT, hg, goInt]
end

def fixKey (k : ByteArray × Int) : Value := .agg #[.string k.1, .int .i64 k.2]
def chKey (k : ByteArray × ByteArray) : Value := .agg #[.string k.1, .string k.2]
/-- Bytes are the same if their lists are. -/
theorem bytes_beq (a b : ByteArray) : (a.toList == b.toList) = (a == b) := (beq_toListBytes a b).symm

theorem pair_and {a b : Bool} : (if a = true then b else false) = (a && b) := by cases a <;> simp

theorem bytes_of_beq {a b : ByteArray} (h : (a == b) = true) : a = b := by
  obtain ⟨⟨x⟩⟩ := a
  obtain ⟨⟨y⟩⟩ := b
  have h' : ((⟨x⟩ : Array UInt8) == ⟨y⟩) = true := h
  simp at h'
  subst h'
  rfl
theorem bytes_rfl (a : ByteArray) : (a == a) = true := by
  obtain ⟨⟨x⟩⟩ := a
  show ((⟨x⟩ : Array UInt8) == ⟨x⟩) = true
  simp
instance bytesLawful : LawfulBEq ByteArray where
  eq_of_beq := bytes_of_beq
  rfl := bytes_rfl _
theorem toList_inj {a b : ByteArray} : a.toList = b.toList ↔ a = b := by
  constructor
  · intro h
    have := beq_toListBytes a b
    rw [h] at this
    simpa using this
  · rintro rfl
    rfl
set_option maxRecDepth 100000 in
theorem fixT : MapT Try.prog 163 168 3 fixKey (.int .i64 0) where
  under := by kernel_rfl
  kind := by kernel_rfl
  eq := fun a b w => by
    unfold Op.equal Op.maxDepth fixKey
    go_simp
    obtain ⟨a1, a2⟩ := a
    obtain ⟨b1, b2⟩ := b
    simp only [toList_inj]
    by_cases h1 : a1 = b1 <;> by_cases h2 : a2 = b2 <;> simp [h1, h2]
  key := fun e a w => by
    unfold fixKey
    kernel_rfl
  zero := fun w => by kernel_rfl
set_option maxRecDepth 100000 in
theorem chT : MapT Try.prog 164 171 173 chKey (.agg #[.int .i64 0, .int .i64 0]) where
  under := by kernel_rfl
  kind := by kernel_rfl
  eq := fun a b w => by
    unfold Op.equal Op.maxDepth chKey
    go_simp
    obtain ⟨a1, a2⟩ := a
    obtain ⟨b1, b2⟩ := b
    simp only [toList_inj]
    by_cases h1 : a1 = b1 <;> by_cases h2 : a2 = b2 <;> simp [h1, h2]
  key := fun e a w => by
    unfold chKey
    kernel_rfl
  zero := fun w => by kernel_rfl

end Go.Proofs.Ytgjjngkmbplijaa
