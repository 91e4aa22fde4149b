/- Contracts as values: trees; package term: Kids, kind, number, own. Printed by wip/src/mkterm1.py. -/
import Derived.Test.YtgjjngkmbplijaaYLaw04

namespace Go.Proofs.Ytgjjngkmbplijaa
open Go.RowKit
set_option linter.unusedSimpArgs false
set_option linter.unusedVariables false

/-- A contract of api's, or something else. -/
inductive Te where
  | zero 
  | one (s : ByteArray)
  | give (t : Te)
  | and (l r : Te)
  | or (s : ByteArray) (l r : Te)
  | scale (o : Ob) (t : Te)
  | whn (d : Int) (t : Te)
  | cond (o : Ob) (l r : Te)
  | odd (v : Value)
def Te.val : Te → Value
  | .zero  => .iface 101 (.agg #[])
  | .one s => .iface 96 (.agg #[.string s])
  | .give t => .iface 99 (.agg #[t.val])
  | .and l r => .iface 118 (.agg #[l.val, r.val])
  | .or s l r => .iface 104 (.agg #[.string s, l.val, r.val])
  | .scale o t => .iface 108 (.agg #[o.val, t.val])
  | .whn d t => .iface 106 (.agg #[.int .i64 d, t.val])
  | .cond o l r => .iface 110 (.agg #[o.val, l.val, r.val])
  | .odd v => v
/-- None of api's contracts. -/
def OddT (v : Value) : Prop := v = .nilIface ∨ ∃ t x, v = .iface t x ∧ t ≠ 101 ∧ t ≠ 96 ∧ t ≠ 99 ∧ t ≠ 118 ∧ t ≠ 104 ∧ t ≠ 108 ∧ t ≠ 106 ∧ t ≠ 110
def Te.wf : Te → Prop
  | .zero  => True
  | .one s => s.size ≤ 1000
  | .give t => t.wf
  | .and l r => l.wf ∧ r.wf
  | .or s l r => s.size ≤ 1000 ∧ l.wf ∧ r.wf
  | .scale o t => o.wf ∧ t.wf
  | .whn d t => (-9223372036854775808 ≤ d ∧ d ≤ 9223372036854775807) ∧ t.wf
  | .cond o l r => o.wf ∧ l.wf ∧ r.wf
  | .odd v => OddT v
def Te.kids : Te → List Te
  | .give t => [t]
  | .and l r => [l, r]
  | .or _ l r => [l, r]
  | .scale _ t => [t]
  | .whn _ t => [t]
  | .cond _ l r => [l, r]
  | _ => []
def Te.kind : Te → Nat
  | .zero  => 1
  | .one _ => 2
  | .give _ => 3
  | .and _ _ => 4
  | .or _ _ _ => 5
  | .scale _ _ => 6
  | .whn _ _ => 7
  | .cond _ _ _ => 8
  | .odd _ => 0
def Te.num : Te → Option Ob
  | .scale o _ => some o
  | .cond o _ _ => some o
  | _ => none
def Te.ownS : Te → ByteArray
  | .one s => s
  | .or s _ _ => s
  | _ => ⟨#[]⟩
def Te.ownD : Te → Int
  | .whn d _ => d
  | _ => 0
def teVals (l : List Te) : List Value := l.map Te.val
theorem Te.form {t : Te} (h : t.wf) : t.val = .nilIface ∨ ∃ k x, t.val = .iface k x := by
  cases t with
  | odd v => rcases h with rfl | ⟨t, x, rfl, _⟩
             · exact .inl rfl
             · exact .inr ⟨t, x, rfl⟩
  | _ => exact .inr ⟨_, _, rfl⟩
theorem Te.kids_wf {t k : Te} (h : t.wf) (hk : k ∈ t.kids) : k.wf := by
  cases t <;> simp [Te.kids] at hk <;> simp only [Te.wf] at h
  · subst hk; exact h
  · rcases hk with rfl | rfl
    · exact h.1
    · exact h.2
  · rcases hk with rfl | rfl
    · exact h.2.1
    · exact h.2.2
  · subst hk; exact h.2
  · subst hk; exact h.2
  · rcases hk with rfl | rfl
    · exact h.2.1
    · exact h.2.2
theorem Te.kids_size {t k : Te} (hk : k ∈ t.kids) : SizeOf.sizeOf k < SizeOf.sizeOf t := by
  cases t <;> simp [Te.kids] at hk
  · subst hk; simp; try omega
  · rcases hk with rfl | rfl <;> simp <;> omega
  · rcases hk with rfl | rfl <;> simp <;> omega
  · subst hk; simp; try omega
  · subst hk; simp; try omega
  · rcases hk with rfl | rfl <;> simp <;> omega
theorem Te.num_wf {t : Te} {o : Ob} (h : t.wf) (ho : t.num = some o) : o.wf := by
  cases t <;> simp [Te.num] at ho <;> subst ho <;> exact h.1

set_option maxRecDepth 100000 in
set_option maxHeartbeats 800000 in
theorem tkids_own (t : Te) (w : World) (h : t.wf) : Calls Try.prog 77 #[t.val] w (RetOwn w 97 1 t.kids.length (teVals t.kids)) := by
  cases t with
  | zero  =>
    simp only [Te.val, Te.kids, List.length_cons, List.length_nil, teVals, List.map_cons, List.map_nil]
    go_enter Try.func77, Try.ntmps77
    go_wp2
    apply bodyPost_ret
    · exact results_tmp rfl _ _ _
    · rfl
    exact ⟨_, rfl, World.ownsRow_nil _ _ _ _, (by repeat' (first | (with_reducible exact Ext.refl _) | (with_reducible assumption) | (with_reducible refine Ext.alloc ?_ _) | (with_reducible refine Ext.drew ?_) | (with_reducible refine Ext.drewN ?_ _) | (with_reducible refine Ext.setCell ?_ (by first | exact Nat.le_refl _ | (simp; done) | (simp; omega) | omega) _) | (with_reducible refine Ext.trans ?_ (by assumption))))⟩
  | one s =>
    simp only [Te.val, Te.kids, List.length_cons, List.length_nil, teVals, List.map_cons, List.map_nil]
    go_enter Try.func77, Try.ntmps77
    go_wp2
    apply bodyPost_ret
    · exact results_tmp rfl _ _ _
    · rfl
    exact ⟨_, rfl, World.ownsRow_nil _ _ _ _, (by repeat' (first | (with_reducible exact Ext.refl _) | (with_reducible assumption) | (with_reducible refine Ext.alloc ?_ _) | (with_reducible refine Ext.drew ?_) | (with_reducible refine Ext.drewN ?_ _) | (with_reducible refine Ext.setCell ?_ (by first | exact Nat.le_refl _ | (simp; done) | (simp; omega) | omega) _) | (with_reducible refine Ext.trans ?_ (by assumption))))⟩
  | give t =>
    simp only [Te.val, Te.kids, List.length_cons, List.length_nil, teVals, List.map_cons, List.map_nil]
    rcases Te.form ((show t.wf from h)) with e0 | ⟨t0, x0, e0⟩ <;>
    ( rw [e0]
      clear e0 h
      go_enter Try.func77, Try.ntmps77
      go_wp2
      refine bodyPost_ret (w := _) (a := _) (R := _) (results_tmp rfl _ _ _) rfl ?_
      exact ⟨_, rfl, own_new (by simp) rfl (by simp +arith) rfl, (by repeat' (first | (with_reducible exact Ext.refl _) | (with_reducible assumption) | (with_reducible refine Ext.alloc ?_ _) | (with_reducible refine Ext.drew ?_) | (with_reducible refine Ext.drewN ?_ _) | (with_reducible refine Ext.setCell ?_ (by first | exact Nat.le_refl _ | (simp; done) | (simp; omega) | omega) _) | (with_reducible refine Ext.trans ?_ (by assumption))))⟩)
  | and l r =>
    simp only [Te.val, Te.kids, List.length_cons, List.length_nil, teVals, List.map_cons, List.map_nil]
    rcases Te.form (h.1) with e0 | ⟨t0, x0, e0⟩ <;> rcases Te.form (h.2) with e1 | ⟨t1, x1, e1⟩ <;>
    ( rw [e0, e1]
      clear e0 e1 h
      go_enter Try.func77, Try.ntmps77
      go_wp2
      refine bodyPost_ret (w := _) (a := _) (R := _) (results_tmp rfl _ _ _) rfl ?_
      exact ⟨_, rfl, own_new (by simp) rfl (by simp +arith) rfl, (by repeat' (first | (with_reducible exact Ext.refl _) | (with_reducible assumption) | (with_reducible refine Ext.alloc ?_ _) | (with_reducible refine Ext.drew ?_) | (with_reducible refine Ext.drewN ?_ _) | (with_reducible refine Ext.setCell ?_ (by first | exact Nat.le_refl _ | (simp; done) | (simp; omega) | omega) _) | (with_reducible refine Ext.trans ?_ (by assumption))))⟩)
  | or s l r =>
    simp only [Te.val, Te.kids, List.length_cons, List.length_nil, teVals, List.map_cons, List.map_nil]
    rcases Te.form (h.2.1) with e0 | ⟨t0, x0, e0⟩ <;> rcases Te.form (h.2.2) with e1 | ⟨t1, x1, e1⟩ <;>
    ( rw [e0, e1]
      clear e0 e1 h
      go_enter Try.func77, Try.ntmps77
      go_wp2
      refine bodyPost_ret (w := _) (a := _) (R := _) (results_tmp rfl _ _ _) rfl ?_
      exact ⟨_, rfl, own_new (by simp) rfl (by simp +arith) rfl, (by repeat' (first | (with_reducible exact Ext.refl _) | (with_reducible assumption) | (with_reducible refine Ext.alloc ?_ _) | (with_reducible refine Ext.drew ?_) | (with_reducible refine Ext.drewN ?_ _) | (with_reducible refine Ext.setCell ?_ (by first | exact Nat.le_refl _ | (simp; done) | (simp; omega) | omega) _) | (with_reducible refine Ext.trans ?_ (by assumption))))⟩)
  | scale o t =>
    simp only [Te.val, Te.kids, List.length_cons, List.length_nil, teVals, List.map_cons, List.map_nil]
    rcases Ob.form (h.1) with e0 | ⟨t0, x0, e0⟩ <;> rcases Te.form (h.2) with e1 | ⟨t1, x1, e1⟩ <;>
    ( rw [e0, e1]
      clear e0 e1 h
      go_enter Try.func77, Try.ntmps77
      go_wp2
      refine bodyPost_ret (w := _) (a := _) (R := _) (results_tmp rfl _ _ _) rfl ?_
      exact ⟨_, rfl, own_new (by simp) rfl (by simp +arith) rfl, (by repeat' (first | (with_reducible exact Ext.refl _) | (with_reducible assumption) | (with_reducible refine Ext.alloc ?_ _) | (with_reducible refine Ext.drew ?_) | (with_reducible refine Ext.drewN ?_ _) | (with_reducible refine Ext.setCell ?_ (by first | exact Nat.le_refl _ | (simp; done) | (simp; omega) | omega) _) | (with_reducible refine Ext.trans ?_ (by assumption))))⟩)
  | whn d t =>
    simp only [Te.val, Te.kids, List.length_cons, List.length_nil, teVals, List.map_cons, List.map_nil]
    rcases Te.form (h.2) with e0 | ⟨t0, x0, e0⟩ <;>
    ( rw [e0]
      clear e0 h
      go_enter Try.func77, Try.ntmps77
      go_wp2
      refine bodyPost_ret (w := _) (a := _) (R := _) (results_tmp rfl _ _ _) rfl ?_
      exact ⟨_, rfl, own_new (by simp) rfl (by simp +arith) rfl, (by repeat' (first | (with_reducible exact Ext.refl _) | (with_reducible assumption) | (with_reducible refine Ext.alloc ?_ _) | (with_reducible refine Ext.drew ?_) | (with_reducible refine Ext.drewN ?_ _) | (with_reducible refine Ext.setCell ?_ (by first | exact Nat.le_refl _ | (simp; done) | (simp; omega) | omega) _) | (with_reducible refine Ext.trans ?_ (by assumption))))⟩)
  | cond o l r =>
    simp only [Te.val, Te.kids, List.length_cons, List.length_nil, teVals, List.map_cons, List.map_nil]
    rcases Ob.form (h.1) with e0 | ⟨t0, x0, e0⟩ <;> rcases Te.form (h.2.1) with e1 | ⟨t1, x1, e1⟩ <;> rcases Te.form (h.2.2) with e2 | ⟨t2, x2, e2⟩ <;>
    ( rw [e0, e1, e2]
      clear e0 e1 e2 h
      go_enter Try.func77, Try.ntmps77
      go_wp2
      refine bodyPost_ret (w := _) (a := _) (R := _) (results_tmp rfl _ _ _) rfl ?_
      exact ⟨_, rfl, own_new (by simp) rfl (by simp +arith) rfl, (by repeat' (first | (with_reducible exact Ext.refl _) | (with_reducible assumption) | (with_reducible refine Ext.alloc ?_ _) | (with_reducible refine Ext.drew ?_) | (with_reducible refine Ext.drewN ?_ _) | (with_reducible refine Ext.setCell ?_ (by first | exact Nat.le_refl _ | (simp; done) | (simp; omega) | omega) _) | (with_reducible refine Ext.trans ?_ (by assumption))))⟩)
  | odd v =>
    rcases h with rfl | ⟨t, x, rfl, h1, h2, h3, h4, h5, h6, h7, h8⟩
    · simp only [Te.val, Te.kids, List.length_cons, List.length_nil, teVals, List.map_cons, List.map_nil]
      go_enter Try.func77, Try.ntmps77
      go_wp2
      apply bodyPost_ret
      · exact results_tmp rfl _ _ _
      · rfl
      exact ⟨_, rfl, World.ownsRow_nil _ _ _ _, (by repeat' (first | (with_reducible exact Ext.refl _) | (with_reducible assumption) | (with_reducible refine Ext.alloc ?_ _) | (with_reducible refine Ext.drew ?_) | (with_reducible refine Ext.drewN ?_ _) | (with_reducible refine Ext.setCell ?_ (by first | exact Nat.le_refl _ | (simp; done) | (simp; omega) | omega) _) | (with_reducible refine Ext.trans ?_ (by assumption))))⟩
    · simp only [Te.val, Te.kids, List.length_cons, List.length_nil, teVals, List.map_cons, List.map_nil]
      go_enter Try.func77, Try.ntmps77
      go_wp2
      apply bodyPost_ret
      · exact results_tmp rfl _ _ _
      · rfl
      exact ⟨_, rfl, World.ownsRow_nil _ _ _ _, (by repeat' (first | (with_reducible exact Ext.refl _) | (with_reducible assumption) | (with_reducible refine Ext.alloc ?_ _) | (with_reducible refine Ext.drew ?_) | (with_reducible refine Ext.drewN ?_ _) | (with_reducible refine Ext.setCell ?_ (by first | exact Nat.le_refl _ | (simp; done) | (simp; omega) | omega) _) | (with_reducible refine Ext.trans ?_ (by assumption))))⟩

theorem tkids_calls (t : Te) (w : World) (h : t.wf) : Calls Try.prog 77 #[t.val] w (RetSl w t.kids.length (teVals t.kids)) :=
  (tkids_own t w h).mono fun e w' hr => by
    obtain ⟨v, rfl, ho, hx⟩ := hr
    obtain ⟨A, C, rfl, h1, h2⟩ := own_form ho
    exact ⟨A, C, rfl, h1, h2, Rd.of_own ho, hx⟩

set_option maxRecDepth 100000 in
set_option maxHeartbeats 800000 in
theorem tkind_calls (t : Te) (w : World) (h : t.wf) : Calls Try.prog 115 #[t.val] w fun e w' => e = .returned (.int .i64 t.kind) ∧ w = w' := by
  cases t with
  | zero  =>
    simp only [Te.val, Te.kind]
    go_enter Try.func115, Try.ntmps115
    go_wp2
    go_ret
    exact ⟨rfl, rfl⟩
  | one s =>
    simp only [Te.val, Te.kind]
    go_enter Try.func115, Try.ntmps115
    go_wp2
    go_ret
    exact ⟨rfl, rfl⟩
  | give t =>
    simp only [Te.val, Te.kind]
    rcases Te.form ((show t.wf from h)) with e0 | ⟨t0, x0, e0⟩ <;>
    ( rw [e0]
      clear e0 h
      go_enter Try.func115, Try.ntmps115
      go_wp2
      go_ret
      exact ⟨rfl, rfl⟩)
  | and l r =>
    simp only [Te.val, Te.kind]
    rcases Te.form (h.1) with e0 | ⟨t0, x0, e0⟩ <;> rcases Te.form (h.2) with e1 | ⟨t1, x1, e1⟩ <;>
    ( rw [e0, e1]
      clear e0 e1 h
      go_enter Try.func115, Try.ntmps115
      go_wp2
      go_ret
      exact ⟨rfl, rfl⟩)
  | or s l r =>
    simp only [Te.val, Te.kind]
    rcases Te.form (h.2.1) with e0 | ⟨t0, x0, e0⟩ <;> rcases Te.form (h.2.2) with e1 | ⟨t1, x1, e1⟩ <;>
    ( rw [e0, e1]
      clear e0 e1 h
      go_enter Try.func115, Try.ntmps115
      go_wp2
      go_ret
      exact ⟨rfl, rfl⟩)
  | scale o t =>
    simp only [Te.val, Te.kind]
    rcases Ob.form (h.1) with e0 | ⟨t0, x0, e0⟩ <;> rcases Te.form (h.2) with e1 | ⟨t1, x1, e1⟩ <;>
    ( rw [e0, e1]
      clear e0 e1 h
      go_enter Try.func115, Try.ntmps115
      go_wp2
      go_ret
      exact ⟨rfl, rfl⟩)
  | whn d t =>
    simp only [Te.val, Te.kind]
    rcases Te.form (h.2) with e0 | ⟨t0, x0, e0⟩ <;>
    ( rw [e0]
      clear e0 h
      go_enter Try.func115, Try.ntmps115
      go_wp2
      go_ret
      exact ⟨rfl, rfl⟩)
  | cond o l r =>
    simp only [Te.val, Te.kind]
    rcases Ob.form (h.1) with e0 | ⟨t0, x0, e0⟩ <;> rcases Te.form (h.2.1) with e1 | ⟨t1, x1, e1⟩ <;> rcases Te.form (h.2.2) with e2 | ⟨t2, x2, e2⟩ <;>
    ( rw [e0, e1, e2]
      clear e0 e1 e2 h
      go_enter Try.func115, Try.ntmps115
      go_wp2
      go_ret
      exact ⟨rfl, rfl⟩)
  | odd v =>
    rcases h with rfl | ⟨t, x, rfl, h1, h2, h3, h4, h5, h6, h7, h8⟩
    · simp only [Te.val, Te.kind]
      go_enter Try.func115, Try.ntmps115
      go_wp2
      go_ret
      exact ⟨rfl, rfl⟩
    · simp only [Te.val, Te.kind]
      go_enter Try.func115, Try.ntmps115
      go_wp2
      go_ret
      exact ⟨rfl, rfl⟩

/-- A text and a number come back. -/
def RetSI (w : World) (s : ByteArray) (n : Int) (e : Ending) (w' : World) : Prop := e = .returned (.tuple #[.string s, .int .i64 n]) ∧ Ext w w'
set_option maxRecDepth 100000 in
set_option maxHeartbeats 800000 in
theorem town_calls (t : Te) (w : World) (h : t.wf) : Calls Try.prog 117 #[t.val] w fun e w' => RetSI w t.ownS t.ownD e w' := by
  cases t with
  | zero  =>
    simp only [Te.val, Te.ownS, Te.ownD]
    go_enter Try.func117, Try.ntmps117
    go_wp2
    go_ret2
    exact ⟨rfl, (by repeat' (first | (with_reducible exact Ext.refl _) | (with_reducible assumption) | (with_reducible refine Ext.alloc ?_ _) | (with_reducible refine Ext.drew ?_) | (with_reducible refine Ext.drewN ?_ _) | (with_reducible refine Ext.setCell ?_ (by first | exact Nat.le_refl _ | (simp; done) | (simp; omega) | omega) _) | (with_reducible refine Ext.trans ?_ (by assumption))))⟩
  | one s =>
    simp only [Te.val, Te.ownS, Te.ownD]
    go_enter Try.func117, Try.ntmps117
    go_wp2
    go_ret2
    exact ⟨rfl, (by repeat' (first | (with_reducible exact Ext.refl _) | (with_reducible assumption) | (with_reducible refine Ext.alloc ?_ _) | (with_reducible refine Ext.drew ?_) | (with_reducible refine Ext.drewN ?_ _) | (with_reducible refine Ext.setCell ?_ (by first | exact Nat.le_refl _ | (simp; done) | (simp; omega) | omega) _) | (with_reducible refine Ext.trans ?_ (by assumption))))⟩
  | give t =>
    simp only [Te.val, Te.ownS, Te.ownD]
    rcases Te.form ((show t.wf from h)) with e0 | ⟨t0, x0, e0⟩ <;>
    ( rw [e0]
      clear e0 h
      go_enter Try.func117, Try.ntmps117
      go_wp2
      go_ret2
      exact ⟨rfl, (by repeat' (first | (with_reducible exact Ext.refl _) | (with_reducible assumption) | (with_reducible refine Ext.alloc ?_ _) | (with_reducible refine Ext.drew ?_) | (with_reducible refine Ext.drewN ?_ _) | (with_reducible refine Ext.setCell ?_ (by first | exact Nat.le_refl _ | (simp; done) | (simp; omega) | omega) _) | (with_reducible refine Ext.trans ?_ (by assumption))))⟩)
  | and l r =>
    simp only [Te.val, Te.ownS, Te.ownD]
    rcases Te.form (h.1) with e0 | ⟨t0, x0, e0⟩ <;> rcases Te.form (h.2) with e1 | ⟨t1, x1, e1⟩ <;>
    ( rw [e0, e1]
      clear e0 e1 h
      go_enter Try.func117, Try.ntmps117
      go_wp2
      go_ret2
      exact ⟨rfl, (by repeat' (first | (with_reducible exact Ext.refl _) | (with_reducible assumption) | (with_reducible refine Ext.alloc ?_ _) | (with_reducible refine Ext.drew ?_) | (with_reducible refine Ext.drewN ?_ _) | (with_reducible refine Ext.setCell ?_ (by first | exact Nat.le_refl _ | (simp; done) | (simp; omega) | omega) _) | (with_reducible refine Ext.trans ?_ (by assumption))))⟩)
  | or s l r =>
    simp only [Te.val, Te.ownS, Te.ownD]
    rcases Te.form (h.2.1) with e0 | ⟨t0, x0, e0⟩ <;> rcases Te.form (h.2.2) with e1 | ⟨t1, x1, e1⟩ <;>
    ( rw [e0, e1]
      clear e0 e1 h
      go_enter Try.func117, Try.ntmps117
      go_wp2
      go_ret2
      exact ⟨rfl, (by repeat' (first | (with_reducible exact Ext.refl _) | (with_reducible assumption) | (with_reducible refine Ext.alloc ?_ _) | (with_reducible refine Ext.drew ?_) | (with_reducible refine Ext.drewN ?_ _) | (with_reducible refine Ext.setCell ?_ (by first | exact Nat.le_refl _ | (simp; done) | (simp; omega) | omega) _) | (with_reducible refine Ext.trans ?_ (by assumption))))⟩)
  | scale o t =>
    simp only [Te.val, Te.ownS, Te.ownD]
    rcases Ob.form (h.1) with e0 | ⟨t0, x0, e0⟩ <;> rcases Te.form (h.2) with e1 | ⟨t1, x1, e1⟩ <;>
    ( rw [e0, e1]
      clear e0 e1 h
      go_enter Try.func117, Try.ntmps117
      go_wp2
      go_ret2
      exact ⟨rfl, (by repeat' (first | (with_reducible exact Ext.refl _) | (with_reducible assumption) | (with_reducible refine Ext.alloc ?_ _) | (with_reducible refine Ext.drew ?_) | (with_reducible refine Ext.drewN ?_ _) | (with_reducible refine Ext.setCell ?_ (by first | exact Nat.le_refl _ | (simp; done) | (simp; omega) | omega) _) | (with_reducible refine Ext.trans ?_ (by assumption))))⟩)
  | whn d t =>
    simp only [Te.val, Te.ownS, Te.ownD]
    rcases Te.form (h.2) with e0 | ⟨t0, x0, e0⟩ <;>
    ( rw [e0]
      clear e0 h
      go_enter Try.func117, Try.ntmps117
      go_wp2
      go_quiet (fail)
      go_wp2
      go_ret2
      exact ⟨rfl, (by repeat' (first | (with_reducible exact Ext.refl _) | (with_reducible assumption) | (with_reducible refine Ext.alloc ?_ _) | (with_reducible refine Ext.drew ?_) | (with_reducible refine Ext.drewN ?_ _) | (with_reducible refine Ext.setCell ?_ (by first | exact Nat.le_refl _ | (simp; done) | (simp; omega) | omega) _) | (with_reducible refine Ext.trans ?_ (by assumption))))⟩)
  | cond o l r =>
    simp only [Te.val, Te.ownS, Te.ownD]
    rcases Ob.form (h.1) with e0 | ⟨t0, x0, e0⟩ <;> rcases Te.form (h.2.1) with e1 | ⟨t1, x1, e1⟩ <;> rcases Te.form (h.2.2) with e2 | ⟨t2, x2, e2⟩ <;>
    ( rw [e0, e1, e2]
      clear e0 e1 e2 h
      go_enter Try.func117, Try.ntmps117
      go_wp2
      go_ret2
      exact ⟨rfl, (by repeat' (first | (with_reducible exact Ext.refl _) | (with_reducible assumption) | (with_reducible refine Ext.alloc ?_ _) | (with_reducible refine Ext.drew ?_) | (with_reducible refine Ext.drewN ?_ _) | (with_reducible refine Ext.setCell ?_ (by first | exact Nat.le_refl _ | (simp; done) | (simp; omega) | omega) _) | (with_reducible refine Ext.trans ?_ (by assumption))))⟩)
  | odd v =>
    rcases h with rfl | ⟨t, x, rfl, h1, h2, h3, h4, h5, h6, h7, h8⟩
    · simp only [Te.val, Te.ownS, Te.ownD]
      go_enter Try.func117, Try.ntmps117
      go_wp2
      go_ret2
      exact ⟨rfl, (by repeat' (first | (with_reducible exact Ext.refl _) | (with_reducible assumption) | (with_reducible refine Ext.alloc ?_ _) | (with_reducible refine Ext.drew ?_) | (with_reducible refine Ext.drewN ?_ _) | (with_reducible refine Ext.setCell ?_ (by first | exact Nat.le_refl _ | (simp; done) | (simp; omega) | omega) _) | (with_reducible refine Ext.trans ?_ (by assumption))))⟩
    · simp only [Te.val, Te.ownS, Te.ownD]
      go_enter Try.func117, Try.ntmps117
      go_wp2
      go_ret2
      exact ⟨rfl, (by repeat' (first | (with_reducible exact Ext.refl _) | (with_reducible assumption) | (with_reducible refine Ext.alloc ?_ _) | (with_reducible refine Ext.drew ?_) | (with_reducible refine Ext.drewN ?_ _) | (with_reducible refine Ext.setCell ?_ (by first | exact Nat.le_refl _ | (simp; done) | (simp; omega) | omega) _) | (with_reducible refine Ext.trans ?_ (by assumption))))⟩

/-- A value and a truth come back. -/
def RetVB (w : World) (v : Value) (b : Bool) (e : Ending) (w' : World) : Prop := e = .returned (.tuple #[v, .bool b]) ∧ Ext w w'
def Te.numV (t : Te) : Value := match t.num with | some o => o.val | none => .nilIface
set_option maxRecDepth 100000 in
set_option maxHeartbeats 800000 in
theorem tnum_calls (t : Te) (w : World) (h : t.wf) : Calls Try.prog 116 #[t.val] w fun e w' => RetVB w t.numV t.num.isSome e w' := by
  cases t with
  | zero  =>
    simp only [Te.val, Te.numV, Te.num, Option.isSome]
    go_enter Try.func116, Try.ntmps116
    go_wp2
    go_ret2
    exact ⟨rfl, (by repeat' (first | (with_reducible exact Ext.refl _) | (with_reducible assumption) | (with_reducible refine Ext.alloc ?_ _) | (with_reducible refine Ext.drew ?_) | (with_reducible refine Ext.drewN ?_ _) | (with_reducible refine Ext.setCell ?_ (by first | exact Nat.le_refl _ | (simp; done) | (simp; omega) | omega) _) | (with_reducible refine Ext.trans ?_ (by assumption))))⟩
  | one s =>
    simp only [Te.val, Te.numV, Te.num, Option.isSome]
    go_enter Try.func116, Try.ntmps116
    go_wp2
    go_ret2
    exact ⟨rfl, (by repeat' (first | (with_reducible exact Ext.refl _) | (with_reducible assumption) | (with_reducible refine Ext.alloc ?_ _) | (with_reducible refine Ext.drew ?_) | (with_reducible refine Ext.drewN ?_ _) | (with_reducible refine Ext.setCell ?_ (by first | exact Nat.le_refl _ | (simp; done) | (simp; omega) | omega) _) | (with_reducible refine Ext.trans ?_ (by assumption))))⟩
  | give t =>
    simp only [Te.val, Te.numV, Te.num, Option.isSome]
    rcases Te.form ((show t.wf from h)) with e0 | ⟨t0, x0, e0⟩ <;>
    ( rw [e0]
      clear e0 h
      go_enter Try.func116, Try.ntmps116
      go_wp2
      go_ret2
      exact ⟨rfl, (by repeat' (first | (with_reducible exact Ext.refl _) | (with_reducible assumption) | (with_reducible refine Ext.alloc ?_ _) | (with_reducible refine Ext.drew ?_) | (with_reducible refine Ext.drewN ?_ _) | (with_reducible refine Ext.setCell ?_ (by first | exact Nat.le_refl _ | (simp; done) | (simp; omega) | omega) _) | (with_reducible refine Ext.trans ?_ (by assumption))))⟩)
  | and l r =>
    simp only [Te.val, Te.numV, Te.num, Option.isSome]
    rcases Te.form (h.1) with e0 | ⟨t0, x0, e0⟩ <;> rcases Te.form (h.2) with e1 | ⟨t1, x1, e1⟩ <;>
    ( rw [e0, e1]
      clear e0 e1 h
      go_enter Try.func116, Try.ntmps116
      go_wp2
      go_ret2
      exact ⟨rfl, (by repeat' (first | (with_reducible exact Ext.refl _) | (with_reducible assumption) | (with_reducible refine Ext.alloc ?_ _) | (with_reducible refine Ext.drew ?_) | (with_reducible refine Ext.drewN ?_ _) | (with_reducible refine Ext.setCell ?_ (by first | exact Nat.le_refl _ | (simp; done) | (simp; omega) | omega) _) | (with_reducible refine Ext.trans ?_ (by assumption))))⟩)
  | or s l r =>
    simp only [Te.val, Te.numV, Te.num, Option.isSome]
    rcases Te.form (h.2.1) with e0 | ⟨t0, x0, e0⟩ <;> rcases Te.form (h.2.2) with e1 | ⟨t1, x1, e1⟩ <;>
    ( rw [e0, e1]
      clear e0 e1 h
      go_enter Try.func116, Try.ntmps116
      go_wp2
      go_ret2
      exact ⟨rfl, (by repeat' (first | (with_reducible exact Ext.refl _) | (with_reducible assumption) | (with_reducible refine Ext.alloc ?_ _) | (with_reducible refine Ext.drew ?_) | (with_reducible refine Ext.drewN ?_ _) | (with_reducible refine Ext.setCell ?_ (by first | exact Nat.le_refl _ | (simp; done) | (simp; omega) | omega) _) | (with_reducible refine Ext.trans ?_ (by assumption))))⟩)
  | scale o t =>
    simp only [Te.val, Te.numV, Te.num, Option.isSome]
    rcases Ob.form (h.1) with e0 | ⟨t0, x0, e0⟩ <;> rcases Te.form (h.2) with e1 | ⟨t1, x1, e1⟩ <;>
    ( rw [e0, e1]
      clear e0 e1 h
      go_enter Try.func116, Try.ntmps116
      go_wp2
      go_ret2
      exact ⟨rfl, (by repeat' (first | (with_reducible exact Ext.refl _) | (with_reducible assumption) | (with_reducible refine Ext.alloc ?_ _) | (with_reducible refine Ext.drew ?_) | (with_reducible refine Ext.drewN ?_ _) | (with_reducible refine Ext.setCell ?_ (by first | exact Nat.le_refl _ | (simp; done) | (simp; omega) | omega) _) | (with_reducible refine Ext.trans ?_ (by assumption))))⟩)
  | whn d t =>
    simp only [Te.val, Te.numV, Te.num, Option.isSome]
    rcases Te.form (h.2) with e0 | ⟨t0, x0, e0⟩ <;>
    ( rw [e0]
      clear e0 h
      go_enter Try.func116, Try.ntmps116
      go_wp2
      go_ret2
      exact ⟨rfl, (by repeat' (first | (with_reducible exact Ext.refl _) | (with_reducible assumption) | (with_reducible refine Ext.alloc ?_ _) | (with_reducible refine Ext.drew ?_) | (with_reducible refine Ext.drewN ?_ _) | (with_reducible refine Ext.setCell ?_ (by first | exact Nat.le_refl _ | (simp; done) | (simp; omega) | omega) _) | (with_reducible refine Ext.trans ?_ (by assumption))))⟩)
  | cond o l r =>
    simp only [Te.val, Te.numV, Te.num, Option.isSome]
    rcases Ob.form (h.1) with e0 | ⟨t0, x0, e0⟩ <;> rcases Te.form (h.2.1) with e1 | ⟨t1, x1, e1⟩ <;> rcases Te.form (h.2.2) with e2 | ⟨t2, x2, e2⟩ <;>
    ( rw [e0, e1, e2]
      clear e0 e1 e2 h
      go_enter Try.func116, Try.ntmps116
      go_wp2
      go_ret2
      exact ⟨rfl, (by repeat' (first | (with_reducible exact Ext.refl _) | (with_reducible assumption) | (with_reducible refine Ext.alloc ?_ _) | (with_reducible refine Ext.drew ?_) | (with_reducible refine Ext.drewN ?_ _) | (with_reducible refine Ext.setCell ?_ (by first | exact Nat.le_refl _ | (simp; done) | (simp; omega) | omega) _) | (with_reducible refine Ext.trans ?_ (by assumption))))⟩)
  | odd v =>
    rcases h with rfl | ⟨t, x, rfl, h1, h2, h3, h4, h5, h6, h7, h8⟩
    · simp only [Te.val, Te.numV, Te.num, Option.isSome]
      go_enter Try.func116, Try.ntmps116
      go_wp2
      go_ret2
      exact ⟨rfl, (by repeat' (first | (with_reducible exact Ext.refl _) | (with_reducible assumption) | (with_reducible refine Ext.alloc ?_ _) | (with_reducible refine Ext.drew ?_) | (with_reducible refine Ext.drewN ?_ _) | (with_reducible refine Ext.setCell ?_ (by first | exact Nat.le_refl _ | (simp; done) | (simp; omega) | omega) _) | (with_reducible refine Ext.trans ?_ (by assumption))))⟩
    · simp only [Te.val, Te.numV, Te.num, Option.isSome]
      go_enter Try.func116, Try.ntmps116
      go_wp2
      go_ret2
      exact ⟨rfl, (by repeat' (first | (with_reducible exact Ext.refl _) | (with_reducible assumption) | (with_reducible refine Ext.alloc ?_ _) | (with_reducible refine Ext.drew ?_) | (with_reducible refine Ext.drewN ?_ _) | (with_reducible refine Ext.setCell ?_ (by first | exact Nat.le_refl _ | (simp; done) | (simp; omega) | omega) _) | (with_reducible refine Ext.trans ?_ (by assumption))))⟩

end Go.Proofs.Ytgjjngkmbplijaa
