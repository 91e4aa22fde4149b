/- Words for memory of this seat's proofs: a world that has grown, a slice that reads as a list, append onto a row of the call's own. -/
import Derived.Test.YtgjjngkmbplijaaRows
import Derived.WalkKit
import Derived.WalkSpells
import Derived.WalkLawsBesides
import Derived.Lib.Hide
import Derived.Maps.AppendAt
import Derived.Lib.OthersKept
import Derived.WalkSmall
namespace Go.Proofs.Ytgjjngkmbplijaa
open Go.RowKit
set_option linter.unusedSimpArgs false
set_option linter.unusedVariables false

/-- w' is w and new blocks: nothing that was there has turned. -/
def Ext (w w' : World) : Prop := Below w.heap.size w w'

section
variable {w w' a b c : World}
theorem Ext.refl (w : World) : Ext w w := Below.refl _ _
theorem Ext.trans (h : Ext a b) (k : Ext b c) : Ext a c := Below.trans h (k.mono h.size)
theorem Ext.alloc (h : Ext a b) (o : Obj) : Ext a (b.alloc o) := Below.alloc h h.size o
theorem Ext.drew (h : Ext a b) : Ext a b.drew := Below.drew h
theorem Ext.drewN (h : Ext a b) (n : Nat) : Ext a (b.drewN n) := ⟨h.os, h.tape, h.output, h.size, h.block⟩
theorem Ext.setCell (h : Ext a b) {p : Addr} (hp : a.heap.size ≤ p.block) (u : Value) : Ext a (b.setCell p u) := Below.setCell h hp u
theorem Ext.below (h : Ext a b) : Below a.heap.size a b := h
theorem Ext.le (h : Ext a b) : a.heap.size ≤ b.heap.size := h.size
theorem Ext.cell (h : Ext a b) {p : Addr} {v : Value} (hc : a.cell? p = some v) : b.cell? p = some v := by
  rw [Below.cell h (World.block_lt_of_cell? a p hc)]; exact hc
theorem Ext.block (h : Ext a b) {k : Nat} (hk : k < a.heap.size) : b.heap[k]? = a.heap[k]? := Below.block h k hk
theorem Ext.obj (h : Ext a b) {k : Nat} {o : Obj} (hk : a.heap[k]? = some o) : b.heap[k]? = some o := by
  rw [Ext.block h (Array.getElem?_eq_some_iff.1 hk).1]; exact hk
theorem Ext.grown (h : Ext a b) {row : Option Nat} (hg : b.grownBy c row) (hr : ∀ k, row = some k → a.heap.size ≤ k) : Ext a c :=
  Below.grown h hg h.size hr
theorem Ext.iter (h : Ext a b) {k : Nat} (hk : a.heap.size ≤ k) (s : ByteArray) (p : Nat) : Ext a (b.iterAt k s p) := Lib.below_iterAt h hk s p
theorem Ext.own {base : Nat} {e : TypeId} {size n : Nat} {v : Value} {xs : List Value} (h : Ext a b) (ho : a.ownsRow base e size v n xs) : b.ownsRow base e size v n xs := by
  refine ⟨ho.1, ?_⟩
  rcases ho.2 with h1 | ⟨g, cap, cur, h1, h2, h3, h4⟩
  · exact .inl h1
  · exact .inr ⟨g, cap, cur, h1, h2, h.obj h3, h4⟩
/-- What is to be laid behind a contract that ends in Ext: old cells, old marks, read as before. -/
theorem Ext.cells (h : Ext a b) : (∀ k o, k < a.heap.size → b.cell? ⟨k, o, none⟩ = a.cell? ⟨k, o, none⟩) ∧ (∀ k o, k < a.heap.size → b.frozen? ⟨k, o, none⟩ = a.frozen? ⟨k, o, none⟩) :=
  ⟨fun k o hk => Below.cell (p := ⟨k, o, none⟩) h hk, fun k o hk => Below.frozen (p := ⟨k, o, none⟩) h hk⟩
end

theorem add_block (a : Addr) (n : Nat) : (a.add n).block = a.block := by unfold Addr.add; split <;> rfl
theorem add_add (a : Addr) (i j : Nat) : (a.add i).add j = a.add (i + j) := by
  unfold Addr.add
  by_cases hi : i = 0 <;> by_cases hj : j = 0 <;> simp [hi, hj, Nat.add_assoc]

/-- The slice '.slice a n c' reads as the cells xs (size cells an element). -/
def Rd (w : World) (size : Nat) (a : Option Addr) (n : Nat) (xs : List Value) : Prop :=
  xs.length = n * size ∧ ∀ j u, xs[j]? = some u → ∃ ad, a = some ad ∧ w.cell? (ad.add j) = some u

section
variable {w w' : World} {size n : Nat} {a : Option Addr} {xs : List Value}
theorem Rd.nil : Rd w size none 0 [] := ⟨by simp, fun j u h => by simp at h⟩
theorem Rd.ext (h : Rd w size a n xs) (k : Ext w w') : Rd w' size a n xs :=
  ⟨h.1, fun j u hu => by obtain ⟨ad, e, hc⟩ := h.2 j u hu; exact ⟨ad, e, k.cell hc⟩⟩
theorem Rd.at1 {k : Nat} (h : Rd w 1 a n xs) (hk : k < n) : ∃ ad u, a = some ad ∧ xs[k]? = some u ∧ w.cell? (ad.add k) = some u := by
  have hl : k < xs.length := by have := h.1; omega
  obtain ⟨ad, e, hc⟩ := h.2 k xs[k] (List.getElem?_eq_getElem hl)
  exact ⟨ad, xs[k], e, List.getElem?_eq_getElem hl, hc⟩
theorem Rd.addr (h : Rd w size a n xs) (hn : 0 < n) (hs : 0 < size) : ∃ ad, a = some ad ∧ ∀ j u, xs[j]? = some u → w.cell? (ad.add j) = some u := by
  have hl : 0 < xs.length := by rw [h.1]; exact Nat.mul_pos hn hs
  obtain ⟨ad, e, hc⟩ := h.2 0 xs[0] (List.getElem?_eq_getElem hl)
  refine ⟨ad, e, fun j u hu => ?_⟩
  obtain ⟨ad', e', hc'⟩ := h.2 j u hu
  rw [e] at e'
  injection e' with e'
  subst e'
  exact hc'
theorem Rd.of_own {base c : Nat} {e : TypeId} (h : w.ownsRow base e size (.slice a n c) n xs) : Rd w size a n xs := by
  refine ⟨h.1, fun j u hu => ?_⟩
  rcases h.2 with ⟨e1, rfl⟩ | ⟨g, cap, cur, e1, _⟩
  · have := h.1
    have hx : xs = [] := List.eq_nil_of_length_eq_zero (by simpa using h.1)
    subst hx
    simp at hu
  · injection e1 with e1 e2 e3
    subst e1
    exact ⟨_, rfl, h.cells (g := g) rfl j u hu⟩
theorem Rd.new (w : World) (cs : Array Value) (e : TypeId) (n size : Nat) (h : cs.size = n * size) : Rd (w.alloc (.cells cs e)) size (some ⟨w.heap.size, 0, none⟩) n cs.toList := by
  refine ⟨by simpa using h, fun j u hu => ⟨_, rfl, ?_⟩⟩
  have : (⟨w.heap.size, 0, none⟩ : Addr).add j = ⟨w.heap.size, j, none⟩ := by rw [Addr.add_lit]; simp
  rw [this, World.cell?_alloc_new]
  simpa using hu
theorem Rd.take {k : Nat} (h : Rd w size a n xs) (hk : k ≤ n) : Rd w size a k (xs.take (k * size)) := by
  refine ⟨?_, fun j u hu => ?_⟩
  · rw [List.length_take, h.1]
    exact Nat.min_eq_left (Nat.mul_le_mul_right _ hk)
  · rw [List.getElem?_take] at hu
    split at hu
    · exact h.2 j u hu
    · simp at hu
theorem Rd.drop {k cap : Nat} (h : Rd w size a n xs) (hk : k ≤ n) (hc : n ≤ cap) : Rd w size (if cap = k then a else a.map (·.add (k * size))) (n - k) (xs.drop (k * size)) := by
  refine ⟨by rw [List.length_drop, h.1, Nat.sub_mul], fun j u hu => ?_⟩
  rw [List.getElem?_drop] at hu
  obtain ⟨ad, e, hcell⟩ := h.2 _ u hu
  have hlt : k * size + j < n * size := by
    have := (List.getElem?_eq_some_iff.1 hu).1
    rw [h.1] at this
    exact this
  have hne : cap ≠ k := by
    rintro rfl
    have : n = cap := by omega
    subst this
    omega
  rw [if_neg hne]
  subst e
  exact ⟨ad.add (k * size), rfl, by rw [add_add]; exact hcell⟩
end

section
variable {w : World} {base size n : Nat} {e : TypeId} {v : Value} {xs : List Value}
theorem own_form (h : w.ownsRow base e size v n xs) : ∃ A C, v = .slice A n C ∧ n ≤ C ∧ C ≤ maxLen := by
  rcases h.2 with ⟨rfl, rfl⟩ | ⟨g, cap, cur, rfl, _, _, h1, h2, _⟩
  · exact ⟨none, 0, rfl, Nat.le_refl _, by unfold maxLen; omega⟩
  · exact ⟨_, cap, rfl, h1, h2⟩
theorem own_at {A : Option Addr} {C k : Nat} (h : w.ownsRow base e size (.slice A n C) n xs) (hk : k < n) : ∃ g, A = some ⟨g, 0, none⟩ ∧ base ≤ g ∧ g < w.heap.size := by
  rcases h.2 with ⟨_, rfl⟩ | ⟨g, cap, cur, e1, h2, h3, _⟩
  · omega
  · injection e1 with e1
    exact ⟨g, e1, h2, (Array.getElem?_eq_some_iff.1 h3).1⟩
end

/-- What the table of types tells of a slice's type t and its element's type e. -/
structure Elem (P : Program) (t e : TypeId) (size bytes : Nat) : Prop where
  under : P.underlying t = some (.slice e)
  info : ∃ i z, P.info? e = some i ∧ i.zero = some z ∧ i.size = size ∧ i.bytes = bytes ∧ z.cells.size = size
  pos : 0 < size

theorem elem_of {P : Program} {t e : TypeId} {z : Value} {size bytes : Nat} (hu : P.underlying t = some (.slice e)) (h : (P.info? e).map (fun i => (i.zero, i.size, i.bytes)) = some (some z, size, bytes)) (hz : z.cells.size = size) (hs : 0 < size) :
    Elem P t e size bytes := by
  obtain ⟨i, h1, h2, h3, h4⟩ := info_parts h
  exact ⟨hu, ⟨i, z, h1, h2, h3, h4, hz⟩, hs⟩

section
variable {P : Program} {w : World} {t e : TypeId} {size bytes : Nat}
theorem run_app (E : Elem P t e size bytes) (ty : TypeId) (base : Nat) (v : Value) (n : Nat) (xs : List Value) (hown : w.ownsRow base e size v n xs)
    (a : Option Addr) (m c : Nat) (news : List Value) (hr : Rd w size a m news) (h1 : ∀ u ∈ news, u.oneCell' = true) (h63 : n + m ≤ maxLen) (hbytes : (n + m) * bytes ≤ 140737488355328) (hbase : base ≤ w.heap.size) :
    ∃ v' w', (Builtin.append_ #[t, t] ty #[v, .slice a m c]).run P w = .ok v' w' ∧ w'.ownsRow base e size v' (n + m) (xs ++ news) ∧ w.grownBy w' v.ownBlock ∧
      (v'.ownBlock = v.ownBlock ∨ v'.ownBlock = some w.heap.size) := by
  obtain ⟨i, z, hi, hz, hsize, hby, hzs⟩ := E.info
  rcases a with _ | ad
  · have hn : news = [] := by
      cases hnews : news with
      | nil => rfl
      | cons u r =>
        obtain ⟨ad, e0, _⟩ := hr.2 0 u (by rw [hnews]; rfl)
        cases e0
    have hm : m = 0 := by
      have := hr.1
      rw [hn] at this
      rcases Nat.eq_zero_or_pos m with h | h
      · exact h
      · have := Nat.mul_pos h E.pos
        simp at *
        omega
    subst hm hn
    refine ⟨v, w, ?_, by simpa using hown, World.grownBy.refl w _, .inl rfl⟩
    rcases hown.2 with ⟨rfl, rfl⟩ | ⟨g, cap, cur, rfl, _, _, hnc, _⟩
    · simp [Builtin.append_, run_underlying E.under, sizeOf, typeInfo, hi, Builtin.lenOf, Builtin.firstCells]
    · simp [Builtin.append_, run_underlying E.under, sizeOf, typeInfo, hi, Builtin.lenOf, Builtin.firstCells, hnc, storeCells]
  · have hcells : ∀ j u, news[j]? = some u → w.cell? (ad.add j) = some u := by
      intro j u hu
      obtain ⟨ad', e0, hc⟩ := hr.2 j u hu
      injection e0 with e0
      subst e0
      exact hc
    obtain ⟨v', w', hrun, h2, h3, _, h5⟩ := run_append_own_at (P := P) w base t ty e i z size bytes E.under hi hz hsize hby hzs E.pos v n xs hown ad m c news hr.1 hcells h1 h63 hbytes hbase
    exact ⟨v', w', hrun, h2, h3, h5⟩

/-- 'append(s, x...)' where s is a row of the call's own, x reads as news: for the walk. -/
theorem wpList_app {ops : Array Oper} {rest : List Oper} {o : Oper} {a : Act} {Q : Exit → Act → World → Prop} (E : Elem P t e size bytes) (hgd : o.guard = none) (s x : Operand)
    (ho : o.op = .call { callee := .builtin .append, args := #[s, x], argTypes := #[t, t] })
    (base : Nat) (v : Value) (n : Nat) (xs : List Value) (hs : a.eval s = v) (hown : w.ownsRow base e size v n xs)
    (A : Option Addr) (m c : Nat) (news : List Value) (hx : a.eval x = .slice A m c) (hr : Rd w size A m news) (h1 : ∀ u ∈ news, u.oneCell' = true)
    (h63 : n + m ≤ maxLen) (hbytes : (n + m) * bytes ≤ 140737488355328) (hbase : base ≤ w.heap.size)
    (h : ∀ v' w', w'.ownsRow base e size v' (n + m) (xs ++ news) → w.grownBy w' v.ownBlock → (v'.ownBlock = v.ownBlock ∨ v'.ownBlock = some w.heap.size) → wpList P ops Q rest (a.put o.dst v') w') : wpList P ops Q (o :: rest) a w := by
  obtain ⟨v', w', hrun, h2, h3, h4⟩ := run_app (P := P) E o.type base v n xs hown A m c news hr h1 h63 hbytes hbase
  refine wpList_plain hgd fun K hK => ?_
  unfold Oper.wp execOp
  simp only [ho, resolve, invoke, builtin, Sem.run_bind, Sem.run_pure, Result.andThen_ok, List.map_toArray, List.map_cons, List.map_nil, hs, hx, hrun]
  exact hK _ _ (h v' w' h2 h3 h4)
end

/-- 's[j:]' of a slice: ONE equation, whether j is the capacity or not. -/
theorem run_slice_from {P : Program} {t e : TypeId} {size bytes : Nat} (E : Elem P t e size bytes) (a : Option Addr) (n c j : Nat) (hj : j ≤ n) (hc : n ≤ c) (w : World) :
    (Instr.slice t (.slice a n c) (some (.int .i64 (j : Int))) none none).run P w = .ok (.slice (if c = j then a else a.map (·.add (j * size))) (n - j) (c - j)) w := by
  obtain ⟨i, z, hi, hz, hsize, _⟩ := E.info
  have h1 : (0 : Int) ≤ (j : Int) ∧ (j : Int) ≤ (n : Int) := ⟨by omega, by omega⟩
  simp [Instr.slice, run_underlying E.under, Instr.sliceBounds, Instr.sliceBound, asIntOf, sizeOf, typeInfo, hi, hsize, h1]
  omega

theorem ret_bool {a b : Bool} (h : a = b) : Ending.returned (.bool a) = .returned (.bool b) := by rw [h]
theorem ret_int {k : IntKind} {a b : Int} (h : a = b) : Ending.returned (.int k a) = .returned (.int k b) := by rw [h]
/-- Not an interface's. -/
def Plain (d : TypeDesc) : Bool := match d with | .interface _ => false | _ => true
/-- 'x.(T)' on an interface value: of T itself; of another type; nil. -/
theorem run_ta_hit {P : Program} {t : TypeId} (hu : (P.underlying t).any Plain = true) (xT : TypeId) (v : Value) (w : World) : (Instr.typeAssert (.iface t v) xT t true).run P w = .ok (.tuple #[v, .bool true]) w := by
  cases h : P.underlying t with
  | none => rw [h] at hu; cases hu
  | some d =>
    rw [h] at hu
    cases d <;> first | (simp [Plain] at hu; done) | simp [Instr.typeAssert, run_underlying h]
theorem run_ta_hit1 {P : Program} {t : TypeId} (hu : (P.underlying t).any Plain = true) (xT : TypeId) (v : Value) (w : World) : (Instr.typeAssert (.iface t v) xT t false).run P w = .ok v w := by
  cases h : P.underlying t with
  | none => rw [h] at hu; cases hu
  | some d =>
    rw [h] at hu
    cases d <;> first | (simp [Plain] at hu; done) | simp [Instr.typeAssert, run_underlying h]
theorem run_ta_miss {P : Program} {t t' : TypeId} (hu : (P.underlying t).any Plain = true) {z : Value} (hz : ∀ w : World, (zeroValue t).run P w = .ok z w) (hne : t' ≠ t) (xT : TypeId) (v : Value) (w : World) :
    (Instr.typeAssert (.iface t' v) xT t true).run P w = .ok (.tuple #[z, .bool false]) w := by
  cases h : P.underlying t with
  | none => rw [h] at hu; cases hu
  | some d =>
    rw [h] at hu
    cases d <;> first | (simp [Plain] at hu; done) | simp [Instr.typeAssert, run_underlying h, hne, hz]
theorem run_ta_nil {P : Program} {t : TypeId} (hu : (P.underlying t).any Plain = true) {z : Value} (hz : ∀ w : World, (zeroValue t).run P w = .ok z w) (xT : TypeId) (w : World) :
    (Instr.typeAssert .nilIface xT t true).run P w = .ok (.tuple #[z, .bool false]) w := by
  cases h : P.underlying t with
  | none => rw [h] at hu; cases hu
  | some d =>
    rw [h] at hu
    cases d <;> first | (simp [Plain] at hu; done) | simp [Instr.typeAssert, run_underlying h, hz]
def ints (l : List Int) : List Value := l.map (Value.int .i64)
theorem ints_one (l : List Int) : ∀ u ∈ ints l, u.oneCell' = true := by
  intro u hu
  obtain ⟨x, _, rfl⟩ := List.mem_map.1 hu
  rfl
/-- A slice of ints that came in. -/
def InInts (w : World) (a : Option Addr) (n c : Nat) (l : List Int) : Prop :=
  Rd w 1 a n (ints l) ∧ n ≤ c ∧ c ≤ maxLen ∧ ∀ x ∈ l, (Lit.int .i64 x).wf = true

/-- An int's bounds. -/
theorem i64_of {a : Int} (h : (Lit.int .i64 a).wf = true) : -9223372036854775808 ≤ a ∧ a ≤ 9223372036854775807 := by
  have h' := h
  simp only [Lit.wf, Bool.and_eq_true, decide_eq_true_eq] at h'
  have e1 : IntKind.i64.min = -9223372036854775808 := by decide
  have e2 : IntKind.i64.max = 9223372036854775807 := by decide
  rw [e1, e2] at h'
  exact h'

end Go.Proofs.Ytgjjngkmbplijaa
