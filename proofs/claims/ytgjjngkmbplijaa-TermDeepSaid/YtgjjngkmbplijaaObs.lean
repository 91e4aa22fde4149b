/- Numbers as values: trees; contracts of package obs: Kids, leaf, none. -/
import Derived.Test.YtgjjngkmbplijaaTa
import Derived.Test.YtgjjngkmbplijaaRunes
import Derived.Test.YtgjjngkmbplijaaCents
namespace Go.Proofs.Ytgjjngkmbplijaa
open Go.RowKit
set_option linter.unusedSimpArgs false
set_option linter.unusedVariables false

/-- A number of api's, or something else. -/
inductive Ob where
  | const (n : Int)
  | fix (s : ByteArray)
  | add (l r : Ob)
  | neg (o : Ob)
  | mul (l r : Ob)
  | max (l r : Ob)
  | odd (v : Value)
def Ob.val : Ob → Value
  | .const n => .iface 52 (.agg #[.int .i64 n])
  | .fix s => .iface 60 (.agg #[.string s])
  | .add l r => .iface 55 (.agg #[l.val, r.val])
  | .neg o => .iface 62 (.agg #[o.val])
  | .mul l r => .iface 68 (.agg #[l.val, r.val])
  | .max l r => .iface 79 (.agg #[l.val, r.val])
  | .odd v => v
/-- None of api's numbers. -/
def OddV (v : Value) : Prop := v = .nilIface ∨ ∃ t x, v = .iface t x ∧ t ≠ 52 ∧ t ≠ 60 ∧ t ≠ 55 ∧ t ≠ 62 ∧ t ≠ 68 ∧ t ≠ 79
def Ob.wf : Ob → Prop
  | .const n => -9223372036854775808 ≤ n ∧ n ≤ 9223372036854775807
  | .fix s => s.size ≤ 1000
  | .add l r => l.wf ∧ r.wf
  | .neg o => o.wf
  | .mul l r => l.wf ∧ r.wf
  | .max l r => l.wf ∧ r.wf
  | .odd v => OddV v
def Ob.kids : Ob → List Ob
  | .add l r => [l, r]
  | .neg o => [o]
  | .mul l r => [l, r]
  | .max l r => [l, r]
  | _ => []
def obVals (l : List Ob) : List Value := l.map Ob.val
theorem Ob.kids_wf {o k : Ob} (h : o.wf) (hk : k ∈ o.kids) : k.wf := by
  cases o <;> simp [Ob.kids] at hk <;> simp only [Ob.wf] at h
  · rcases hk with rfl | rfl
    · exact h.1
    · exact h.2
  · subst hk; exact h
  · rcases hk with rfl | rfl
    · exact h.1
    · exact h.2
  · rcases hk with rfl | rfl
    · exact h.1
    · exact h.2
theorem Ob.kids_size {o k : Ob} (hk : k ∈ o.kids) : SizeOf.sizeOf k < SizeOf.sizeOf o := by
  cases o <;> simp [Ob.kids] at hk
  · rcases hk with rfl | rfl <;> simp <;> omega
  · subst hk; simp
  · rcases hk with rfl | rfl <;> simp <;> omega
  · rcases hk with rfl | rfl <;> simp <;> omega

/-- A slice comes back that reads as the list; nothing that was there has turned. -/
def RetSl (w : World) (n : Nat) (xs : List Value) (e : Ending) (w' : World) : Prop :=
  ∃ a c, e = .returned (.slice a n c) ∧ n ≤ c ∧ c ≤ maxLen ∧ Rd w' 1 a n xs ∧ Ext w w'

theorem Ob.one {o : Ob} (h : o.wf) : o.val.oneCell' = true := by
  cases o with
  | odd v => rcases h with rfl | ⟨t, x, rfl, _⟩ <;> rfl
  | _ => rfl
theorem Rd.newAt {w : World} {cs : Array Value} {e : TypeId} {n size b : Nat} {xs : List Value} (hb : b = w.heap.size) (hx : cs.toList = xs) (h : cs.size = n * size) : Rd (w.alloc (.cells cs e)) size (some ⟨b, 0, none⟩) n xs := by
  subst hb; subst hx; exact Rd.new w cs e n size h
theorem own_new {w : World} {cs : Array Value} {e : TypeId} {n b base : Nat} {xs : List Value} (hb : b = w.heap.size) (hx : cs.toList = xs) (hl : base ≤ w.heap.size) (h : n = cs.size) (hm : n ≤ maxLen := by unfold maxLen; omega) :
    (w.alloc (.cells cs e)).ownsRow base e 1 (.slice (some ⟨b, 0, none⟩) n n) n xs := by
  subst hb; subst hx
  exact World.ownsRow_lit w cs n hl hm (by omega)
theorem Ob.form {o : Ob} (h : o.wf) : o.val = .nilIface ∨ ∃ t x, o.val = .iface t x := by
  cases o with
  | odd v => rcases h with rfl | ⟨t, x, rfl, _⟩
             · exact .inl rfl
             · exact .inr ⟨t, x, rfl⟩
  | _ => exact .inr ⟨_, _, rfl⟩

set_option maxRecDepth 100000 in
set_option maxHeartbeats 400000 in
theorem kids_own (o : Ob) (w : World) (h : o.wf) : Calls Try.prog 52 #[o.val] w (RetOwn w 53 1 o.kids.length (obVals o.kids)) := by
  cases o with
  | const n =>
    simp only [Ob.val, Ob.kids, List.length_nil]
    go_enter Try.func52, Try.ntmps52
    go_wp2
    apply bodyPost_ret
    · exact results_tmp rfl _ _ _
    · rfl
    exact ⟨_, rfl, World.ownsRow_nil _ _ _ _, ((((Ext.refl w).alloc _).alloc _).alloc _).alloc _⟩
  | fix s =>
    simp only [Ob.val, Ob.kids, List.length_nil]
    go_enter Try.func52, Try.ntmps52
    go_wp2
    apply bodyPost_ret
    · exact results_tmp rfl _ _ _
    · rfl
    exact ⟨_, rfl, World.ownsRow_nil _ _ _ _, ((((Ext.refl w).alloc _).alloc _).alloc _).alloc _⟩
  | add l r =>
    simp only [Ob.val, Ob.kids, List.length_cons, List.length_nil, obVals, List.map_cons, List.map_nil]
    rcases Ob.form h.1 with e1 | ⟨t1, x1, e1⟩ <;> rcases Ob.form h.2 with e2 | ⟨t2, x2, e2⟩ <;>
    ( rw [e1, e2]
      clear e1 e2 h
      go_enter Try.func52, Try.ntmps52
      go_wp2
      refine bodyPost_ret (w := _) (a := _) (R := _) (results_tmp rfl _ _ _) rfl ?_
      exact ⟨_, rfl, own_new (by simp) rfl (by simp +arith) rfl, ((Ext.refl w).alloc _).alloc _⟩)
  | neg o =>
    simp only [Ob.val, Ob.kids, List.length_cons, List.length_nil, obVals, List.map_cons, List.map_nil]
    have h' : o.wf := h
    rcases Ob.form h' with e1 | ⟨t1, x1, e1⟩ <;>
    ( rw [e1]
      clear e1 h h'
      go_enter Try.func52, Try.ntmps52
      go_wp2
      refine bodyPost_ret (w := _) (a := _) (R := _) (results_tmp rfl _ _ _) rfl ?_
      exact ⟨_, rfl, own_new (by simp) rfl (by simp +arith) rfl, (((((Ext.refl w).alloc _).alloc _).alloc _).alloc _).alloc _⟩)
  | mul l r =>
    simp only [Ob.val, Ob.kids, List.length_cons, List.length_nil, obVals, List.map_cons, List.map_nil]
    rcases Ob.form h.1 with e1 | ⟨t1, x1, e1⟩ <;> rcases Ob.form h.2 with e2 | ⟨t2, x2, e2⟩ <;>
    ( rw [e1, e2]
      clear e1 e2 h
      go_enter Try.func52, Try.ntmps52
      go_wp2
      refine bodyPost_ret (w := _) (a := _) (R := _) (results_tmp rfl _ _ _) rfl ?_
      exact ⟨_, rfl, own_new (by simp) rfl (by simp +arith) rfl, (((Ext.refl w).alloc _).alloc _).alloc _⟩)
  | max l r =>
    simp only [Ob.val, Ob.kids, List.length_cons, List.length_nil, obVals, List.map_cons, List.map_nil]
    rcases Ob.form h.1 with e1 | ⟨t1, x1, e1⟩ <;> rcases Ob.form h.2 with e2 | ⟨t2, x2, e2⟩ <;>
    ( rw [e1, e2]
      clear e1 e2 h
      go_enter Try.func52, Try.ntmps52
      go_wp2
      refine bodyPost_ret (w := _) (a := _) (R := _) (results_tmp rfl _ _ _) rfl ?_
      exact ⟨_, rfl, own_new (by simp) rfl (by simp +arith) rfl, ((((Ext.refl w).alloc _).alloc _).alloc _).alloc _⟩)
  | odd v =>
    rcases h with rfl | ⟨t, x, rfl, h1, h2, h3, h4, h5, h6⟩
    · simp only [Ob.val, Ob.kids, List.length_nil]
      go_enter Try.func52, Try.ntmps52
      go_wp2
      apply bodyPost_ret
      · exact results_tmp rfl _ _ _
      · rfl
      exact ⟨_, rfl, World.ownsRow_nil _ _ _ _, ((((Ext.refl w).alloc _).alloc _).alloc _).alloc _⟩
    · simp only [Ob.val, Ob.kids, List.length_nil]
      go_enter Try.func52, Try.ntmps52
      go_wp2
      apply bodyPost_ret
      · exact results_tmp rfl _ _ _
      · rfl
      exact ⟨_, rfl, World.ownsRow_nil _ _ _ _, ((((Ext.refl w).alloc _).alloc _).alloc _).alloc _⟩

theorem kids_calls (o : Ob) (w : World) (h : o.wf) : Calls Try.prog 52 #[o.val] w (RetSl w o.kids.length (obVals o.kids)) :=
  (kids_own o w h).mono fun e w' hr => by
    obtain ⟨v, rfl, ho, hx⟩ := hr
    obtain ⟨A, C, rfl, h1, h2⟩ := own_form ho
    exact ⟨A, C, rfl, h1, h2, Rd.of_own ho, hx⟩

end Go.Proofs.Ytgjjngkmbplijaa
