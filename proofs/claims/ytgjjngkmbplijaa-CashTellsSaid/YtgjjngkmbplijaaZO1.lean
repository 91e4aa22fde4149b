/- Texts put together: Obs, Obs2, Obs3. -/
import Derived.Test.YtgjjngkmbplijaaTa
import Derived.Test.YtgjjngkmbplijaaZMp
import Derived.Test.YtgjjngkmbplijaaCents
import Derived.Test.YtgjjngkmbplijaaYStrs
/- Numbers as values: trees; contracts of package obs: Kids, leaf, none. -/
namespace Go.Proofs.Ytgjjngkmbplijaa
open Go.RowKit
set_option linter.unusedSimpArgs false
set_option linter.unusedVariables false

/-- A number of api's, or something else. -/
inductive Ob where
  | const (n : Int)
  | fix (s : ByteArray)
  | add (l r : Ob)
  | neg (o : Ob)
  | mul (l r : Ob)
  | max (l r : Ob)
  | odd (v : Value)
def Ob.val : Ob → Value
  | .const n => .iface 52 (.agg #[.int .i64 n])
  | .fix s => .iface 60 (.agg #[.string s])
  | .add l r => .iface 55 (.agg #[l.val, r.val])
  | .neg o => .iface 62 (.agg #[o.val])
  | .mul l r => .iface 68 (.agg #[l.val, r.val])
  | .max l r => .iface 79 (.agg #[l.val, r.val])
  | .odd v => v
/-- None of api's numbers. -/
def OddV (v : Value) : Prop := v = .nilIface ∨ ∃ t x, v = .iface t x ∧ t ≠ 52 ∧ t ≠ 60 ∧ t ≠ 55 ∧ t ≠ 62 ∧ t ≠ 68 ∧ t ≠ 79
def Ob.wf : Ob → Prop
  | .const n => -9223372036854775808 ≤ n ∧ n ≤ 9223372036854775807
  | .fix s => s.size ≤ 1000
  | .add l r => l.wf ∧ r.wf
  | .neg o => o.wf
  | .mul l r => l.wf ∧ r.wf
  | .max l r => l.wf ∧ r.wf
  | .odd v => OddV v
def Ob.kids : Ob → List Ob
  | .add l r => [l, r]
  | .neg o => [o]
  | .mul l r => [l, r]
  | .max l r => [l, r]
  | _ => []
def obVals (l : List Ob) : List Value := l.map Ob.val
theorem Ob.kids_wf {o k : Ob} (h : o.wf) (hk : k ∈ o.kids) : k.wf := by
  cases o <;> simp [Ob.kids] at hk <;> simp only [Ob.wf] at h
  · rcases hk with rfl | rfl
    · exact h.1
    · exact h.2
  · subst hk; exact h
  · rcases hk with rfl | rfl
    · exact h.1
    · exact h.2
  · rcases hk with rfl | rfl
    · exact h.1
    · exact h.2
theorem Ob.kids_size {o k : Ob} (hk : k ∈ o.kids) : SizeOf.sizeOf k < SizeOf.sizeOf o := by
  cases o <;> simp [Ob.kids] at hk
  · rcases hk with rfl | rfl <;> simp <;> omega
  · subst hk; simp
  · rcases hk with rfl | rfl <;> simp <;> omega
  · rcases hk with rfl | rfl <;> simp <;> omega

/-- A slice comes back that reads as the list; nothing that was there has turned. -/
def RetSl (w : World) (n : Nat) (xs : List Value) (e : Ending) (w' : World) : Prop :=
  ∃ a c, e = .returned (.slice a n c) ∧ n ≤ c ∧ c ≤ maxLen ∧ Rd w' 1 a n xs ∧ Ext w w'

theorem Ob.one {o : Ob} (h : o.wf) : o.val.oneCell' = true := by
  cases o with
  | odd v => rcases h with rfl | ⟨t, x, rfl, _⟩ <;> rfl
  | _ => rfl
theorem Rd.newAt {w : World} {cs : Array Value} {e : TypeId} {n size b : Nat} {xs : List Value} (hb : b = w.heap.size) (hx : cs.toList = xs) (h : cs.size = n * size) : Rd (w.alloc (.cells cs e)) size (some ⟨b, 0, none⟩) n xs := by
  subst hb; subst hx; exact Rd.new w cs e n size h
theorem own_new {w : World} {cs : Array Value} {e : TypeId} {n b base : Nat} {xs : List Value} (hb : b = w.heap.size) (hx : cs.toList = xs) (hl : base ≤ w.heap.size) (h : n = cs.size) (hm : n ≤ maxLen := by unfold maxLen; omega) :
    (w.alloc (.cells cs e)).ownsRow base e 1 (.slice (some ⟨b, 0, none⟩) n n) n xs := by
  subst hb; subst hx
  exact World.ownsRow_lit w cs n hl hm (by omega)
theorem Ob.form {o : Ob} (h : o.wf) : o.val = .nilIface ∨ ∃ t x, o.val = .iface t x := by
  cases o with
  | odd v => rcases h with rfl | ⟨t, x, rfl, _⟩
             · exact .inl rfl
             · exact .inr ⟨t, x, rfl⟩
  | _ => exact .inr ⟨_, _, rfl⟩

set_option maxRecDepth 100000 in
set_option maxHeartbeats 400000 in
theorem kids_own (o : Ob) (w : World) (h : o.wf) : Calls Try.prog 52 #[o.val] w (RetOwn w 53 1 o.kids.length (obVals o.kids)) := by
  cases o with
  | const n =>
    simp only [Ob.val, Ob.kids, List.length_nil]
    go_enter Try.func52, Try.ntmps52
    go_wp2
    apply bodyPost_ret
    · exact results_tmp rfl _ _ _
    · rfl
    exact ⟨_, rfl, World.ownsRow_nil _ _ _ _, ((((Ext.refl w).alloc _).alloc _).alloc _).alloc _⟩
  | fix s =>
    simp only [Ob.val, Ob.kids, List.length_nil]
    go_enter Try.func52, Try.ntmps52
    go_wp2
    apply bodyPost_ret
    · exact results_tmp rfl _ _ _
    · rfl
    exact ⟨_, rfl, World.ownsRow_nil _ _ _ _, ((((Ext.refl w).alloc _).alloc _).alloc _).alloc _⟩
  | add l r =>
    simp only [Ob.val, Ob.kids, List.length_cons, List.length_nil, obVals, List.map_cons, List.map_nil]
    rcases Ob.form h.1 with e1 | ⟨t1, x1, e1⟩ <;> rcases Ob.form h.2 with e2 | ⟨t2, x2, e2⟩ <;>
    ( rw [e1, e2]
      clear e1 e2 h
      go_enter Try.func52, Try.ntmps52
      go_wp2
      refine bodyPost_ret (w := _) (a := _) (R := _) (results_tmp rfl _ _ _) rfl ?_
      exact ⟨_, rfl, own_new (by simp) rfl (by simp +arith) rfl, ((Ext.refl w).alloc _).alloc _⟩)
  | neg o =>
    simp only [Ob.val, Ob.kids, List.length_cons, List.length_nil, obVals, List.map_cons, List.map_nil]
    have h' : o.wf := h
    rcases Ob.form h' with e1 | ⟨t1, x1, e1⟩ <;>
    ( rw [e1]
      clear e1 h h'
      go_enter Try.func52, Try.ntmps52
      go_wp2
      refine bodyPost_ret (w := _) (a := _) (R := _) (results_tmp rfl _ _ _) rfl ?_
      exact ⟨_, rfl, own_new (by simp) rfl (by simp +arith) rfl, (((((Ext.refl w).alloc _).alloc _).alloc _).alloc _).alloc _⟩)
  | mul l r =>
    simp only [Ob.val, Ob.kids, List.length_cons, List.length_nil, obVals, List.map_cons, List.map_nil]
    rcases Ob.form h.1 with e1 | ⟨t1, x1, e1⟩ <;> rcases Ob.form h.2 with e2 | ⟨t2, x2, e2⟩ <;>
    ( rw [e1, e2]
      clear e1 e2 h
      go_enter Try.func52, Try.ntmps52
      go_wp2
      refine bodyPost_ret (w := _) (a := _) (R := _) (results_tmp rfl _ _ _) rfl ?_
      exact ⟨_, rfl, own_new (by simp) rfl (by simp +arith) rfl, (((Ext.refl w).alloc _).alloc _).alloc _⟩)
  | max l r =>
    simp only [Ob.val, Ob.kids, List.length_cons, List.length_nil, obVals, List.map_cons, List.map_nil]
    rcases Ob.form h.1 with e1 | ⟨t1, x1, e1⟩ <;> rcases Ob.form h.2 with e2 | ⟨t2, x2, e2⟩ <;>
    ( rw [e1, e2]
      clear e1 e2 h
      go_enter Try.func52, Try.ntmps52
      go_wp2
      refine bodyPost_ret (w := _) (a := _) (R := _) (results_tmp rfl _ _ _) rfl ?_
      exact ⟨_, rfl, own_new (by simp) rfl (by simp +arith) rfl, ((((Ext.refl w).alloc _).alloc _).alloc _).alloc _⟩)
  | odd v =>
    rcases h with rfl | ⟨t, x, rfl, h1, h2, h3, h4, h5, h6⟩
    · simp only [Ob.val, Ob.kids, List.length_nil]
      go_enter Try.func52, Try.ntmps52
      go_wp2
      apply bodyPost_ret
      · exact results_tmp rfl _ _ _
      · rfl
      exact ⟨_, rfl, World.ownsRow_nil _ _ _ _, ((((Ext.refl w).alloc _).alloc _).alloc _).alloc _⟩
    · simp only [Ob.val, Ob.kids, List.length_nil]
      go_enter Try.func52, Try.ntmps52
      go_wp2
      apply bodyPost_ret
      · exact results_tmp rfl _ _ _
      · rfl
      exact ⟨_, rfl, World.ownsRow_nil _ _ _ _, ((((Ext.refl w).alloc _).alloc _).alloc _).alloc _⟩

theorem kids_calls (o : Ob) (w : World) (h : o.wf) : Calls Try.prog 52 #[o.val] w (RetSl w o.kids.length (obVals o.kids)) :=
  (kids_own o w h).mono fun e w' hr => by
    obtain ⟨v, rfl, ho, hx⟩ := hr
    obtain ⟨A, C, rfl, h1, h2⟩ := own_form ho
    exact ⟨A, C, rfl, h1, h2, Rd.of_own ho, hx⟩

end Go.Proofs.Ytgjjngkmbplijaa

/- Package obs: leaf, none, Size. -/
namespace Go.Proofs.Ytgjjngkmbplijaa
open Go.RowKit
set_option linter.unusedSimpArgs false
set_option linter.unusedVariables false

def Ob.isLeaf : Ob → Bool
  | .const _ | .fix _ => true
  | _ => false
def Ob.leafOk : Ob → Bool
  | .const n => Vd n
  | .fix s => isName s
  | _ => false
def Ob.isOdd : Ob → Bool
  | .odd _ => true
  | _ => false
/-- Two truths come back; nothing that was there has turned. -/
def RetBB (w : World) (a b : Bool) (e : Ending) (w' : World) : Prop := e = .returned (.tuple #[.bool a, .bool b]) ∧ Ext w w'
/-- Two numbers come back. -/
def RetII (w : World) (a b : Int) (e : Ending) (w' : World) : Prop := e = .returned (.tuple #[.int .i64 a, .int .i64 b]) ∧ Ext w w'

set_option maxRecDepth 100000 in
set_option maxHeartbeats 400000 in
theorem leaf_calls (o : Ob) (w : World) (h : o.wf) : Calls Try.prog 128 #[o.val] w fun e w' => RetBB w o.isLeaf o.leafOk e w' := by
  cases o with
  | const n =>
    simp only [Ob.val, Ob.isLeaf, Ob.leafOk]
    go_enter Try.func128, Try.ntmps128
    (go_wp2_with fail; (with_reducible refine (valid_calls _ _).mono ?_); rintro e w' ⟨rfl, rfl⟩)
    go_wp2
    go_ret2
    exact ⟨rfl, (Ext.refl w).alloc _⟩
  | fix s =>
    simp only [Ob.val, Ob.isLeaf, Ob.leafOk]
    go_enter Try.func128, Try.ntmps128
    (go_wp2_with fail; (with_reducible refine (name_ext _ _).mono ?_); rintro e w' ⟨rfl, hx⟩)
    go_wp2
    go_ret2
    exact ⟨rfl, (((Ext.refl w).alloc _).alloc _).trans hx⟩
  | odd v =>
    rcases h with rfl | ⟨t, x, rfl, h1, h2, h3, h4, h5, h6⟩
    · simp only [Ob.val, Ob.isLeaf, Ob.leafOk]
      go_enter Try.func128, Try.ntmps128
      go_wp2
      go_ret2
      exact ⟨rfl, ((Ext.refl w).alloc _).alloc _⟩
    · simp only [Ob.val, Ob.isLeaf, Ob.leafOk]
      go_enter Try.func128, Try.ntmps128
      go_wp2
      go_ret2
      exact ⟨rfl, ((Ext.refl w).alloc _).alloc _⟩
  | _ =>
    simp only [Ob.val, Ob.isLeaf, Ob.leafOk]
    go_enter Try.func128, Try.ntmps128
    go_wp2
    go_ret2
    exact ⟨rfl, ((Ext.refl w).alloc _).alloc _⟩

theorem Ob.odd_iff (o : Ob) : o.isOdd = (!o.isLeaf && decide (o.kids.length = 0)) := by
  cases o <;> simp [Ob.isOdd, Ob.isLeaf, Ob.kids]

theorem nat0 (n : Nat) : ((n : Int) == 0) = decide (n = 0) := by rw [Bool.eq_iff_iff]; simp

set_option maxRecDepth 100000 in
set_option maxHeartbeats 400000 in
theorem none_calls (o : Ob) (w : World) (h : o.wf) : Calls Try.prog 98 #[o.val] w fun e w' => RetB w o.isOdd e w' := by
  have HO := Lib.hid (Ob.odd_iff o)
  have H1 := leaf_calls o w h
  have H2 := fun w' => kids_calls o w' h
  generalize o.isOdd = q at *
  generalize o.isLeaf = q1 at *
  generalize o.leafOk = q2 at *
  generalize obVals o.kids = xs at *
  generalize o.kids.length = n at *
  generalize o.val = v at *
  clear h
  go_enter Try.func98, Try.ntmps98
  (go_wp2_with fail; (with_reducible refine (H1).mono ?_); rintro e w' ⟨rfl, hx⟩)
  clear H1
  cases q1 with
  | true =>
    go_wp2
    go_ret
    exact ⟨by rw [HO.out]; rfl, hx⟩
  | false =>
    (go_wp2_with fail; (with_reducible refine (H2 _).mono ?_); rintro e w' ⟨a, c, rfl, hn, hc, hr, hx2⟩)
    clear H2
    go_wp2
    go_ret
    exact ⟨by rw [HO.out, nat0]; rfl, hx.trans hx2⟩

def Ob.nodes : Ob → Nat
  | .const _ | .fix _ => 1
  | .add l r => l.nodes + r.nodes + 1
  | .neg o => o.nodes + 1
  | .mul l r => l.nodes + r.nodes + 1
  | .max l r => l.nodes + r.nodes + 1
  | .odd _ => 0
def Ob.depth : Ob → Nat
  | .const _ | .fix _ => 1
  | .add l r => Max.max l.depth r.depth + 1
  | .neg o => o.depth + 1
  | .mul l r => Max.max l.depth r.depth + 1
  | .max l r => Max.max l.depth r.depth + 1
  | .odd _ => 0
def sumN (l : List Ob) : Nat := (l.map Ob.nodes).sum
def maxD (l : List Ob) : Nat := l.foldl (fun a o => Max.max a o.depth) 0
theorem sumN_snoc (l : List Ob) (o : Ob) : sumN (l ++ [o]) = sumN l + o.nodes := by simp [sumN]
theorem maxD_snoc (l : List Ob) (o : Ob) : maxD (l ++ [o]) = Max.max (maxD l) o.depth := by simp [maxD]
theorem Ob.nodes_eq {o : Ob} (h : o.isOdd = false) : o.nodes = sumN o.kids + 1 := by
  cases o <;> simp [Ob.isOdd] at h <;> simp [Ob.nodes, sumN, Ob.kids] <;> omega
theorem Ob.depth_eq {o : Ob} (h : o.isOdd = false) : o.depth = maxD o.kids + 1 := by
  cases o <;> simp [Ob.isOdd] at h <;> simp [Ob.depth, maxD, Ob.kids]
theorem Ob.depth_le (o : Ob) : o.depth ≤ o.nodes := by
  induction o <;> simp only [Ob.depth, Ob.nodes] <;> omega
theorem sumN_take (l : List Ob) (i : Nat) : sumN (l.take i) ≤ sumN l := by
  have := congrArg sumN (List.take_append_drop i l)
  simp only [sumN, List.map_append, List.sum_append] at *
  omega
theorem sumN_mem {l : List Ob} {k : Ob} (h : k ∈ l) : k.nodes ≤ sumN l := by
  induction l with
  | nil => cases h
  | cons o t ih =>
    simp only [sumN, List.map_cons, List.sum_cons]
    rcases List.mem_cons.1 h with rfl | h
    · omega
    · have := ih h
      simp only [sumN] at this
      omega
theorem maxD_le (l : List Ob) : maxD l ≤ sumN l := by
  suffices ∀ (l : List Ob) (a : Nat), l.foldl (fun a o => Max.max a o.depth) a ≤ a + sumN l by simpa [maxD] using this l 0
  intro l
  induction l with
  | nil => intro a; simp [sumN]
  | cons o t ih =>
    intro a
    have h1 := ih (Max.max a o.depth)
    have h2 := o.depth_le
    simp only [sumN, List.map_cons, List.sum_cons, List.foldl_cons] at *
    omega
theorem kids_at {o : Ob} {i : Nat} (h : i < o.kids.length) : ∃ k, o.kids[i]? = some k ∧ k ∈ o.kids ∧ o.kids.take (i + 1) = o.kids.take i ++ [k] ∧ (obVals o.kids)[i]? = some k.val := by
  have h1 : o.kids[i]? = some o.kids[i] := List.getElem?_eq_getElem h
  refine ⟨o.kids[i], h1, List.getElem_mem h, ?_, by simp [obVals, h1]⟩
  rw [List.take_add_one, h1]
  rfl

structure SizeAt (ks : List Ob) (i : Nat) (n d : Int) : Prop where
  n : n = (sumN (ks.take i) : Int)
  d : d = (maxD (ks.take i) : Int)

set_option maxRecDepth 100000 in
set_option maxHeartbeats 800000 in
theorem osize_calls (k : Nat) : ∀ (o : Ob) (w : World), SizeOf.sizeOf o < k → o.wf → o.nodes < 2 ^ 62 → Calls Try.prog 46 #[o.val] w fun e w' => RetII w o.nodes o.depth e w' := by
  induction k with
  | zero => intro o w h; omega
  | succ k ih =>
    intro o w hk hwf hn
    have H1 := none_calls o w hwf
    have H2 := fun w' => kids_calls o w' hwf
    cases hodd : o.isOdd with
    | true =>
      obtain ⟨v, rfl⟩ : ∃ v, o = .odd v := by cases o <;> simp [Ob.isOdd] at hodd; exact ⟨_, rfl⟩
      rw [hodd] at H1
      clear hodd hk hn H2
      simp only [Ob.nodes, Ob.depth]
      generalize (Ob.odd v).val = v at *
      go_enter Try.func46, Try.ntmps46
      (go_wp2_with fail; (with_reducible refine (H1).mono ?_); rintro e w' ⟨rfl, hx⟩)
      go_wp2
      go_ret2
      exact ⟨rfl, hx⟩
    | false =>
      rw [hodd] at H1
      have hN := Ob.nodes_eq hodd
      have hD := Ob.depth_eq hodd
      rw [hN] at hn
      have HE := Lib.hid (And.intro hN hD)
      have HK := fun (i : Nat) (h : i < o.kids.length) => kids_at h
      have HR : ∀ (k' : Ob) (w' : World), k' ∈ o.kids → Calls Try.prog 46 #[k'.val] w' fun e w'' => RetII w' k'.nodes k'.depth e w'' := fun k' w' hm => ih k' w' (by have := Ob.kids_size hm; omega) (Ob.kids_wf hwf hm) (by
        have h1 := sumN_mem hm
        omega)
      have HT := Lib.hid (fun i => sumN_take o.kids i)
      have HM := Lib.hid (maxD_le o.kids)
      have HL := Lib.hid hn
      clear hN hD ih hk hn
      generalize Ob.val o = v at *
      go_enter Try.func46, Try.ntmps46
      (go_wp2_with fail; (with_reducible refine (H1).mono ?_); rintro e w' ⟨rfl, hx1⟩)
      clear H1
      (go_wp2_with fail; (with_reducible refine (H2 _).mono ?_); rintro e w' ⟨a, c, rfl, hnc, hcm, hr, hx2⟩)
      clear H2
      have hx3 := hx1.trans hx2
      unfold maxLen at hcm
      go_wp2_with fail
      go_loopw [13, 2, 3] (fun i n d wr => ∃ j : Nat, j ≤ o.kids.length ∧ i = .int .i64 j ∧ n = .int .i64 (sumN (o.kids.take j)) ∧ d = .int .i64 (maxD (o.kids.take j)) ∧ Ext w wr ∧ Rd wr 1 a o.kids.length (obVals o.kids)) (fun i _ _ _ => o.kids.length - (intOf i).toNat)
      case atStart => exact ⟨0, by omega, rfl, rfl, rfl, hx3, hr⟩
      case round =>
        obtain ⟨j, hj, rfl, rfl, rfl, hx, hr⟩ := hrel
        by_cases hlt : j < o.kids.length
        · obtain ⟨k', e1, hm, htk, hv⟩ := HK j hlt
          obtain ⟨ad, u, rfl, hu, hc⟩ := hr.at1 hlt
          obtain rfl : k'.val = u := by rw [hv] at hu; injection hu
          have HRk := fun w' => HR k' w' hm
          have hS : sumN (o.kids.take (j + 1)) = sumN (o.kids.take j) + k'.nodes := by rw [htk, sumN_snoc]
          have hM : maxD (o.kids.take (j + 1)) = Max.max (maxD (o.kids.take j)) k'.depth := by rw [htk, maxD_snoc]
          have hb := HT.out (j + 1)
          have hl := HL.out
          rw [hS] at hb
          have hr0 := Lib.hid hr
          have hS0 := Lib.hid hS
          have hM0 := Lib.hid hM
          have hj0 := Lib.hid (show j + 1 ≤ o.kids.length from hlt)
          clear hr hv hu HK HR e1 htk hm hS hM HT
          generalize sumN (o.kids.take j) = s at *
          generalize maxD (o.kids.take j) = m at *
          generalize sumN o.kids = S at *
          generalize k'.nodes = n1 at *
          generalize k'.depth = d1 at *
          generalize k'.val = v1 at *
          (go_wp2_with fail; (with_reducible refine (HRk _).mono ?_); rintro e w' ⟨rfl, hx4⟩)
          clear HRk
          go_wp2_with fail
          go_roundw
          case rel => exact ⟨j + 1, hj0.out, by go_num, by rw [hS0.out]; go_num, by rw [hM0.out]; go_num, hx.trans hx4, hr0.out.ext hx4⟩
          case measure => simp [intOf]; omega
        · obtain rfl : j = o.kids.length := by omega
          rw [List.take_length]
          have h1 := HE.out
          have h2 := HL.out
          have h3 := HM.out
          have HE2 := HE
          generalize sumN o.kids = S at *
          generalize maxD o.kids = D at *
          clear HK HR h1
          go_wp2
          go_ret2
          exact ⟨by rw [HE.out.1, HE.out.2]; simp, hx⟩

end Go.Proofs.Ytgjjngkmbplijaa

/- Package obs: form (by way of slices.ContainsFunc), Check. -/
namespace Go.Proofs.Ytgjjngkmbplijaa
open Go.RowKit
set_option linter.unusedSimpArgs false
set_option linter.unusedVariables false

def Ob.formed : Ob → Bool
  | .const n => Vd n
  | .fix s => isName s
  | .add l r => l.formed && r.formed
  | .neg o => o.formed
  | .mul l r => l.formed && r.formed
  | .max l r => l.formed && r.formed
  | .odd _ => false
theorem Ob.formed_leaf {o : Ob} (h : o.isLeaf = true) : o.formed = o.leafOk := by
  cases o <;> simp [Ob.isLeaf] at h <;> rfl
theorem Ob.formed_kids {o : Ob} (h : o.isLeaf = false) : o.formed = (!o.isOdd && !(o.kids.any fun k => !k.formed)) := by
  cases o <;> simp [Ob.isLeaf] at h <;> simp [Ob.formed, Ob.isOdd, Ob.kids]

theorem obVals_at {ks : List Ob} {j : Nat} (h : j < ks.length) : ∃ k, ks[j]? = some k ∧ k ∈ ks ∧ (obVals ks)[j]? = some k.val := by
  have h1 : ks[j]? = some ks[j] := List.getElem?_eq_getElem h
  exact ⟨ks[j], h1, List.getElem_mem h, by simp [obVals, h1]⟩
set_option maxRecDepth 100000 in
set_option maxHeartbeats 800000 in
theorem oindex_calls (ks : List Ob) (p : Ob → Bool) (a : Option Addr) (c : Nat) (w : World) (hr : Rd w 1 a ks.length (obVals ks)) (hnc : ks.length ≤ c) (hcm : c ≤ maxLen)
    (HR : ∀ (k : Ob) (w' : World), k ∈ ks → Calls Try.prog 130 #[k.val] w' fun e w'' => RetB w' (p k) e w'') :
    Calls Try.prog 150 #[.slice a ks.length c, .func (.func 130) #[] #[]] w fun e w' => RetAny w (ks.any p) e w' := by
  unfold maxLen at hcm
  go_enter Try.func150, Try.ntmps150
  go_wp2_with fail
  go_loopw [8] (fun i wr => ∃ j : Nat, j ≤ ks.length ∧ i = .int .i64 j ∧ (ks.take j).any p = false ∧ Ext w wr ∧ Rd wr 1 a ks.length (obVals ks)) (fun i _ => ks.length - (intOf i).toNat)
  case atStart => exact ⟨0, by omega, rfl, rfl, Ext.refl w, hr⟩
  case round =>
    obtain ⟨j, hj, rfl, hno, hx, hr⟩ := hrel
    by_cases hlt : j < ks.length
    · obtain ⟨k, e1, hm, hv⟩ := obVals_at hlt
      obtain ⟨ad, u, rfl, hu, hc⟩ := hr.at1 hlt
      obtain rfl : k.val = u := by rw [hv] at hu; injection hu
      have H := fun w' => HR k w' hm
      have hs := any_take_succ (p := p) e1
      rw [hno] at hs
      have hr0 := Lib.hid hr
      have e0 := Lib.hid e1
      have hs0 := Lib.hid hs
      have hj0 := Lib.hid (show j + 1 ≤ ks.length from hlt)
      clear hr hv hu HR e1 hm hs hno
      generalize k.val = v at *
      cases hp : p k with
      | true =>
        rw [hp] at H
        (go_wp2_with fail; (with_reducible refine (H _).mono ?_); rintro e w' ⟨rfl, hx4⟩)
        go_wp2
        go_ret
        exact ⟨_, rfl, by rw [any_hit e0.out hp]; simp, hx.trans hx4⟩
      | false =>
        rw [hp] at H
        (go_wp2_with fail; (with_reducible refine (H _).mono ?_); rintro e w' ⟨rfl, hx4⟩)
        go_wp2_with fail
        go_roundw
        case rel => exact ⟨j + 1, hj0.out, by go_num, by rw [hs0.out, hp]; rfl, hx.trans hx4, hr0.out.ext hx4⟩
        case measure => simp [intOf]; omega
    · obtain rfl : j = ks.length := by omega
      rw [List.take_length] at hno
      clear HR
      go_wp2
      go_ret
      exact ⟨_, rfl, by rw [hno]; rfl, hx⟩

set_option maxRecDepth 100000 in
set_option maxHeartbeats 800000 in
theorem ocontains_calls (ks : List Ob) (p : Ob → Bool) (a : Option Addr) (c : Nat) (w : World) (hr : Rd w 1 a ks.length (obVals ks)) (hnc : ks.length ≤ c) (hcm : c ≤ maxLen)
    (HR : ∀ (k : Ob) (w' : World), k ∈ ks → Calls Try.prog 130 #[k.val] w' fun e w'' => RetB w' (p k) e w'') :
    Calls Try.prog 129 #[.slice a ks.length c, .func (.func 130) #[] #[]] w fun e w' => RetB w (ks.any p) e w' := by
  have H := fun w' (h : Ext w w') => oindex_calls ks p a c w' (hr.ext h) hnc hcm HR
  generalize ks.any p = b at *
  clear HR
  go_enter Try.func129, Try.ntmps129
  (go_wp2_with fail; (with_reducible refine (H _ (Ext.refl w)).mono ?_); rintro e w' ⟨r, rfl, rfl, hx⟩)
  go_wp2
  go_ret
  exact ⟨rfl, hx⟩

set_option maxRecDepth 100000 in
set_option maxHeartbeats 800000 in
theorem oform_calls (k : Nat) : ∀ (o : Ob) (w : World), SizeOf.sizeOf o < k → o.wf → Calls Try.prog 99 #[o.val] w fun e w' => RetB w o.formed e w' := by
  induction k with
  | zero => intro o w h; omega
  | succ k ih =>
    intro o w hk hwf
    have H1 := leaf_calls o w hwf
    cases hl : o.isLeaf with
    | true =>
      rw [hl, ← Ob.formed_leaf hl] at H1
      generalize o.val = v at *
      generalize o.formed = b at *
      clear ih
      go_enter Try.func99, Try.ntmps99
      (go_wp2_with fail; (with_reducible refine (H1).mono ?_); rintro e w' ⟨rfl, hx⟩)
      go_wp2
      go_ret
      exact ⟨rfl, hx⟩
    | false =>
      rw [hl] at H1
      have H2 := fun w' => none_calls o w' hwf
      have H3 := fun w' => kids_calls o w' hwf
      have H4 : ∀ (k' : Ob) (w' : World), k' ∈ o.kids → Calls Try.prog 130 #[k'.val] w' fun e w'' => RetB w' (!k'.formed) e w'' := fun k' w' hm => by
        have h := fun w'' => ih k' w'' (by have := Ob.kids_size hm; omega) (Ob.kids_wf hwf hm)
        generalize k'.val = v at *
        generalize k'.formed = b at *
        clear ih H1 H2 H3
        go_enter Try.func130, Try.ntmps130
        (go_wp2_with fail; (with_reducible refine (h _).mono ?_); rintro e w' ⟨rfl, hx⟩)
        go_wp2
        go_ret
        exact ⟨rfl, hx⟩
      have H5 := fun (w' : World) (a : Option Addr) (c : Nat) (hr : Rd w' 1 a o.kids.length (obVals o.kids)) (h1 : o.kids.length ≤ c) (h2 : c ≤ maxLen) => ocontains_calls o.kids (fun k => !k.formed) a c w' hr h1 h2 H4
      have HF := Lib.hid (Ob.formed_kids hl)
      clear H4 ih hk hwf hl
      generalize o.val = v at *
      generalize o.formed = b at *
      generalize (o.kids.any fun k => !k.formed) = b1 at *
      generalize o.leafOk = b2 at *
      generalize obVals o.kids = xs at *
      generalize o.kids.length = n at *
      go_enter Try.func99, Try.ntmps99
      (go_wp2_with fail; (with_reducible refine (H1).mono ?_); rintro e w' ⟨rfl, hx⟩)
      (go_wp2_with fail; (with_reducible refine (H2 _).mono ?_); rintro e w' ⟨rfl, hx2⟩)
      generalize o.isOdd = b3 at *
      cases b3 with
      | true =>
        go_wp2
        go_ret
        exact ⟨by rw [HF.out]; rfl, hx.trans hx2⟩
      | false =>
        (go_wp2_with fail; (with_reducible refine (H3 _).mono ?_); rintro e w' ⟨a, c, rfl, hnc, hcm, hr, hx3⟩)
        (go_wp2_with fail; (with_reducible refine (H5 _ _ _ hr hnc hcm).mono ?_); rintro e w' ⟨rfl, hx4⟩)
        go_wp2
        go_ret
        exact ⟨by rw [HF.out]; rfl, ((hx.trans hx2).trans hx3).trans hx4⟩

/-- What Check answers. -/
def Ob.checked (o : Ob) : Int := if o.formed = true then (if 60 < o.nodes ∨ 12 < o.depth then 5 else 0) else 2

set_option maxRecDepth 100000 in
set_option maxHeartbeats 800000 in
theorem ocheck_calls (o : Ob) (w : World) (h : o.wf) (hn : o.nodes < 2 ^ 62) : Calls Try.prog 47 #[o.val] w fun e w' => e = .returned (.int .i64 o.checked) ∧ Ext w w' := by
  have H1 := oform_calls _ o w (Nat.lt_succ_self _) h
  have H2 := fun w' => osize_calls _ o w' (Nat.lt_succ_self _) h hn
  have HC := Lib.hid (show o.checked = if o.formed = true then (if 60 < o.nodes ∨ 12 < o.depth then 5 else 0) else 2 from rfl)
  have hd := o.depth_le
  generalize o.val = v at *
  generalize o.checked = x at *
  generalize o.nodes = n at *
  generalize o.depth = d at *
  generalize o.formed = b at *
  cases b with
  | false =>
    go_enter Try.func47, Try.ntmps47
    (go_wp2_with fail; (with_reducible refine (H1).mono ?_); rintro e w' ⟨rfl, hx⟩)
    go_wp2
    go_ret
    exact ⟨by rw [HC.out]; rfl, hx⟩
  | true =>
    go_enter Try.func47, Try.ntmps47
    (go_wp2_with fail; (with_reducible refine (H1).mono ?_); rintro e w' ⟨rfl, hx⟩)
    (go_wp2_with fail; (with_reducible refine (H2 _).mono ?_); rintro e w' ⟨rfl, hx2⟩)
    clear H1 H2
    by_cases h1 : 60 < n
    · go_wp2
      go_ret
      exact ⟨by rw [HC.out]; simp [h1], hx.trans hx2⟩
    · by_cases h2 : 12 < d
      · go_wp2
        go_ret
        exact ⟨by rw [HC.out]; simp [h2], hx.trans hx2⟩
      · go_wp2
        go_ret
        exact ⟨by rw [HC.out]; simp [h1, h2], hx.trans hx2⟩

end Go.Proofs.Ytgjjngkmbplijaa
