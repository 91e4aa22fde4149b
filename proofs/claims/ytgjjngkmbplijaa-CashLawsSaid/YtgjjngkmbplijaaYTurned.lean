/- Law 10's turned; a copy of flows; plain facts for the law CashLaws. -/
import Derived.Test.YtgjjngkmbplijaaZFa
import Derived.Test.YtgjjngkmbplijaaYKeep

namespace Go.Proofs.Ytgjjngkmbplijaa
open Go.RowKit
set_option linter.unusedSimpArgs false
set_option linter.unusedVariables false

def Fl.neg (x : Fl) : Fl := ⟨x.day, x.cur, -x.amt⟩
theorem fl_own {w : World} {base : Nat} {e : TypeId} {A : Option Addr} {n c : Nat} {l : List Fl} (h : w.ownsRow base e 3 (.slice A n c) n (flCells l)) : l.length = n := by
  have := h.1
  have e : (flCells l).length = l.length * 3 := by
    clear h this
    induction l with
    | nil => rfl
    | cons x r ih => simp only [flCells, List.flatMap_cons, List.length_append, List.length_cons] at *; have : x.cells.length = 3 := rfl; omega
  omega
theorem flCells_one (l : List Fl) : ∀ u ∈ flCells l, u.oneCell' = true := by
  intro u hu
  obtain ⟨x, _, hx⟩ := List.mem_flatMap.1 hu
  simp only [Fl.cells, List.mem_cons, List.not_mem_nil, or_false] at hx
  rcases hx with rfl | rfl | rfl <;> rfl
set_option maxRecDepth 100000 in
set_option maxHeartbeats 1600000 in
theorem kcopyF_calls (b1 : Nat) (l : List Fl) (A : Option Addr) (c : Nat) (w : World) (hr : w.ownsRow b1 144 3 (.slice A l.length c) l.length (flCells l)) (hl : l.length ≤ 2 ^ 30) :
    Calls Try.prog 88 #[.slice A l.length c] w (RetOwn w 144 3 l.length (flCells l)) := by
  have hrd := Rd.of_own hr
  go_enter Try.func88, Try.ntmps88
  go_wp2_with (at_builtin; refine wpList_app elemFl rfl _ _ rfl w.heap.size (.slice none 0 0) 0 [] rfl (World.ownsRow_nil _ _ _ _) A l.length c (flCells l) rfl hrd (flCells_one l) (by unfold maxLen; omega) (by omega) (Nat.le_refl _) ?_; intro v1 w1 hown1 hg1 hat1)
  have hE1 : Ext w w1 := (Ext.refl w).grown hg1 (fun k hk => by simp [Value.ownBlock] at hk)
  simp only [Nat.zero_add, List.nil_append] at hown1
  obtain ⟨A6, C6, rfl, h6, h7⟩ := own_form hown1
  have hq := Lib.hid (And.intro hown1 hE1)
  clear hown1 hE1 hg1 hat1 hr hrd
  go_wp2_with fail
  apply bodyPost_ret
  · exact results_tmp rfl _ _ _
  · rfl
  exact ⟨_, rfl, hq.out.1, hq.out.2⟩
theorem neg_take {l : List Fl} {j : Nat} {x : Fl} (h : l[j]? = some x) : (l.take (j + 1)).map Fl.neg = (l.take j).map Fl.neg ++ [x.neg] := by
  rw [List.take_add_one, h]; simp
set_option maxRecDepth 100000 in
set_option maxHeartbeats 3200000 in
theorem turned_calls (b1 : Nat) (l : List Fl) (A : Option Addr) (c : Nat) (w : World) (hr : w.ownsRow b1 144 3 (.slice A l.length c) l.length (flCells l)) (hl : l.length ≤ 2 ^ 30) (hcm : c ≤ maxLen) (hv : ∀ x ∈ l, Vd x.amt = true) :
    Calls Try.prog 87 #[.slice A l.length c] w (RetOwn w 144 3 l.length (flCells (l.map Fl.neg))) := by
  unfold maxLen at hcm
  have hr0 := Lib.hid hr
  have hv := Lib.hid hv
  clear hr
  go_enter Try.func87, Try.ntmps87
  go_wp2_with fail
  go_loopw [8, 3] (fun i out wr => ∃ (j : Nat) (A1 : Option Addr) (C1 : Nat), j ≤ l.length ∧ i = .int .i64 j ∧ out = .slice A1 j C1 ∧ wr.ownsRow w.heap.size 144 3 (.slice A1 j C1) j (flCells ((l.take j).map Fl.neg)) ∧ Ext w wr) (fun i _ _ => l.length - (intOf i).toNat)
  case atStart => exact ⟨0, none, 0, by omega, rfl, rfl, World.ownsRow_nil _ _ _ _, Ext.refl _⟩
  case round =>
    obtain ⟨j, A1, C1, hj, rfl, rfl, hown, hx⟩ := hrel
    by_cases hlt : j < l.length
    · have e1 : l[j]? = some l[j] := List.getElem?_eq_getElem hlt
      generalize l[j] = x at e1
      obtain ⟨g, rfl, c0, c1, c2⟩ := fl_at (hx.own hr0.out) e1 hlt
      have hb := (Vd_iff x.amt).1 (hv.out x (List.mem_of_getElem? e1))
      have hb1 := hb.1
      have hb2 := hb.2
      have hS := Lib.hid (neg_take e1)
      have hj0 := Lib.hid (show j + 1 ≤ l.length from hlt)
      have hji : (j : Int) < (l.length : Int) := by omega
      have hji0 : (0 : Int) ≤ (j : Int) := by omega
      have h63 : j + 1 ≤ maxLen := by unfold maxLen; omega
      have hby : (j + 1) * 32 ≤ 140737488355328 := by omega
      have hle := hx.le
      have hx0 := Lib.hid hx
      clear e1 hb hx
      go_wp2_with (at_builtin; refine wpList_app elemFl rfl _ _ rfl w.heap.size (.slice A1 j C1) j (flCells ((l.take j).map Fl.neg)) rfl ((hown.alloc _).alloc _) (some ⟨wr.heap.size + 1, 0, none⟩) 1 1 x.neg.cells rfl (Rd.newAt (by simp) rfl rfl) (by simp [Fl.cells, Value.oneCell']) h63 hby (by simp; omega) ?_; intro v1 w1 hown1 hg1 hat1)
      have hE6 := Lib.hid (((hx0.out.alloc _).alloc _).grown hg1 (fun k hk => (hown.lt k hk).1))
      obtain ⟨A6, C6, rfl, h6, h7⟩ := own_form hown1
      have hown6 := Lib.hid hown1
      clear hown1 hg1 hat1 h63 hby hown hle
      go_wp2_with fail
      go_roundw
      case rel => exact ⟨j + 1, A6, C6, hj0.out, by go_num, rfl, by rw [hS.out, flCells_app]; simpa [flCells] using hown6.out, hE6.out⟩
      case measure => simp [intOf]; omega
    · obtain rfl : j = l.length := by omega
      rw [List.take_length] at hown
      have hx0 := Lib.hid hx
      clear hx
      go_wp2
      apply bodyPost_ret
      · exact results_tmp rfl _ _ _
      · rfl
      exact ⟨_, rfl, hown, hx0.out⟩

section
variable {F : FixL} {C : ChL} {id : ByteArray}
theorem timesS_inv {st : CSt} (hs : ∀ x ∈ st.2, x.sideOk) : timesS (-1) (timesS (-1) st) = st := by
  obtain ⟨fl, wa⟩ := st
  simp only [timesS, List.map_map, Prod.mk.injEq]
  constructor
  · conv => rhs; rw [← List.map_id fl]
    apply List.map_congr_left
    intro x hx
    simp only [Function.comp, Fl.times, id]
    have : -1 * (-1 * x.amt) = x.amt := by omega
    rw [this]
  · conv => rhs; rw [← List.map_id wa]
    apply List.map_congr_left
    intro x hx
    obtain ⟨a, b, c, d, e⟩ := x
    simp only [Function.comp, id]
    cases a with
    | false => rfl
    | true =>
      show Wa.turn (-1) (Wa.turn (-1) ⟨true, b, c, d, e⟩) = ⟨true, b, c, d, e⟩
      have : ∀ y : Int, Wa.turn (-1) ⟨true, b, c, d, y⟩ = ⟨true, b, c, d, 1 - y⟩ := fun y => by simp [Wa.turn]
      rw [this, this]
      congr 1
      omega
/-- Given, a contract pays the other way round. -/
theorem give_ways {o : Te} {d : Int} {st : CSt} (ht : (Te.give o).checked = 0) (hd : dayB d = true) (hA : cashOf F C id o d = (0, st)) (hc : o.checked = 0) : cashOf F C id (.give o) d = (0, timesS (-1) st) := by
  have hA2 : o.walk F C id d 1 ([], []) = (0, st) := by
    rcases cashOf_ways (F := F) (C := C) (id := id) hc hd with ⟨h1, h2⟩ | ⟨h1, h2⟩
    · rw [h1] at hA; cases hA
    · rw [← h1]; exact hA
  have hw := o.walk_times (F := F) (C := C) (id := id) (-1) (by decide) d (-1) ([], []) (by decide)
  have e2 : timesS (-1) ([], []) = ([], []) := rfl
  rw [e2, show (-1 : Int) * -1 = 1 by decide, hA2] at hw
  obtain ⟨h1, h2⟩ := hw rfl
  have e : (Te.give o).walk F C id d 1 ([], []) = o.walk F C id d (-1) ([], []) := rfl
  rw [cashOf_ok ht hd (by rw [e]; exact h1), e]
  have hs : ∀ x ∈ (o.walk F C id d (-1) ([], [])).2.2, x.sideOk := o.walk_sides d (-1) ([], []) (by simp)
  have h3 : timesS (-1) st = (o.walk F C id d (-1) ([], [])).2 := by
    simp only at h2
    rw [h2]
    exact timesS_inv hs
  rw [h3, ← h1]
theorem times_neg (l : List Fl) : l.map (Fl.times (-1)) = l.map Fl.neg := by
  apply List.map_congr_left
  intro x _
  simp only [Fl.times, Fl.neg]
  have : -1 * x.amt = -x.amt := by omega
  rw [this]
/-- Both pay what each does. -/
theorem and_ways {o q : Te} {d : Int} {st su : CSt} (ht : (Te.and o q).checked = 0) (hd : dayB d = true) (ho : o.checked = 0) (hq : q.checked = 0) (hA : cashOf F C id o d = (0, st)) (hB : cashOf F C id q d = (0, su)) : ∃ W, cashOf F C id (.and o q) d = (0, (st.1 ++ su.1, W)) := by
  have hA2 : o.walk F C id d 1 ([], []) = (0, st) := by
    rcases cashOf_ways (F := F) (C := C) (id := id) ho hd with ⟨h1, h2⟩ | ⟨h1, h2⟩
    · rw [h1] at hA; cases hA
    · rw [← h1]; exact hA
  have hB2 : q.walk F C id d 1 ([], []) = (0, su) := by
    rcases cashOf_ways (F := F) (C := C) (id := id) hq hd with ⟨h1, h2⟩ | ⟨h1, h2⟩
    · rw [h1] at hB; cases hB
    · rw [← h1]; exact hB
  have e : (Te.and o q).walk F C id d 1 ([], []) = q.walk F C id d 1 st := by simp only [Te.walk]; rw [hA2, if_pos rfl]
  obtain ⟨h1, h2⟩ := q.walk_app (F := F) (C := C) (id := id) d 1 st
  rw [hB2] at h1 h2
  refine ⟨(q.walk F C id d 1 st).2.2, ?_⟩
  rw [cashOf_ok ht hd (by rw [e]; exact h1), e]
  simp only at h1 h2
  rw [← h2, ← h1]
/-- From a day on: as on the later day. -/
theorem whn_ways {o : Te} {d m : Int} (ht : (Te.whn m o).checked = 0) (hd : dayB d = true) (hm : dayB m = true) (ho : o.checked = 0) : cashOf F C id (.whn m o) d = cashOf F C id o (Max.max d m) := by
  have e : (Te.whn m o).walk F C id d 1 ([], []) = o.walk F C id (Max.max d m) 1 ([], []) := rfl
  unfold cashOf
  simp only [ht, hd, ho, dayB_max hd hm, and_self, if_true, e]
theorem scale0_ways {o : Te} {d : Int} (ht : (Te.scale (.const 0) o).checked = 0) (hd : dayB d = true) : cashOf F C id (.scale (.const 0) o) d = (0, ([], [])) := by
  rcases scale_ways (F := F) (C := C) (id := id) ht hd with ⟨_, h⟩ | ⟨h, _⟩ | ⟨h, _⟩
  · exact h
  · exact absurd rfl h
  · exact absurd rfl h
theorem cashOf_len {o : Te} {d : Int} (hn : o.nodes ≤ 60) : (cashOf F C id o d).2.1.length ≤ 60 ∧ (cashOf F C id o d).2.2.length ≤ 60 := by
  have h4 := o.walk_lens (F := F) (C := C) (id := id) d 1
  unfold cashOf
  split
  · split
    · omega
    · simp
  · simp
/-- What the law asks of each payment. -/
theorem cash_days {o : Te} {d : Int} {st : CSt} (hd : dayB d = true) (hc : o.checked = 0) (hA : cashOf F C id o d = (0, st)) : (∀ x ∈ st.1, d ≤ x.day ∧ x.amt ≠ 0 ∧ Vd x.amt = true) ∧ (∀ x ∈ st.2, x.sideOk) ∧ st.1.length ≤ 60 ∧ st.2.length ≤ 60 := by
  have hA2 : o.walk F C id d 1 ([], []) = (0, st) := by
    rcases cashOf_ways (F := F) (C := C) (id := id) hc hd with ⟨h1, h2⟩ | ⟨h1, h2⟩
    · rw [h1] at hA; cases hA
    · rw [← h1]; exact hA
  obtain ⟨f1, f2, f3, f4⟩ := Te.checked_form hc
  have h1 := o.walk_days (F := F) (C := C) (id := id) d 1 ([], []) (by decide)
  have h2 := o.walk_amts (F := F) (C := C) (id := id) d 1 ([], []) (by decide) (by simp)
  have h3 := o.walk_sides (F := F) (C := C) (id := id) d 1 ([], []) (by simp)
  have h4 := o.walk_lens (F := F) (C := C) (id := id) d 1
  rw [hA2] at h1 h2 h3 h4
  refine ⟨fun x hx => ?_, h3, by have := h4.1; simp only at this; omega, by have := h4.2; simp only at this; omega⟩
  rcases h1 x hx with h | ⟨h5, h6⟩
  · simp at h
  · exact ⟨h5, h6, h2 x hx⟩
end

end Go.Proofs.Ytgjjngkmbplijaa
