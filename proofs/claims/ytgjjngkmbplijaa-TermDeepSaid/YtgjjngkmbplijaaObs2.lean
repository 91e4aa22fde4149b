/- Package obs: leaf, none, Size. -/
import Derived.Test.YtgjjngkmbplijaaObs
import Derived.Test.YtgjjngkmbplijaaStrs
namespace Go.Proofs.Ytgjjngkmbplijaa
open Go.RowKit
set_option linter.unusedSimpArgs false
set_option linter.unusedVariables false

def Ob.isLeaf : Ob → Bool
  | .const _ | .fix _ => true
  | _ => false
def Ob.leafOk : Ob → Bool
  | .const n => Vd n
  | .fix s => isName s
  | _ => false
def Ob.isOdd : Ob → Bool
  | .odd _ => true
  | _ => false
/-- Two truths come back; nothing that was there has turned. -/
def RetBB (w : World) (a b : Bool) (e : Ending) (w' : World) : Prop := e = .returned (.tuple #[.bool a, .bool b]) ∧ Ext w w'
/-- Two numbers come back. -/
def RetII (w : World) (a b : Int) (e : Ending) (w' : World) : Prop := e = .returned (.tuple #[.int .i64 a, .int .i64 b]) ∧ Ext w w'

set_option maxRecDepth 100000 in
set_option maxHeartbeats 400000 in
theorem leaf_calls (o : Ob) (w : World) (h : o.wf) : Calls Try.prog 128 #[o.val] w fun e w' => RetBB w o.isLeaf o.leafOk e w' := by
  cases o with
  | const n =>
    simp only [Ob.val, Ob.isLeaf, Ob.leafOk]
    go_enter Try.func128, Try.ntmps128
    (go_wp2_with fail; (with_reducible refine (valid_calls _ _).mono ?_); rintro e w' ⟨rfl, rfl⟩)
    go_wp2
    go_ret2
    exact ⟨rfl, (Ext.refl w).alloc _⟩
  | fix s =>
    simp only [Ob.val, Ob.isLeaf, Ob.leafOk]
    go_enter Try.func128, Try.ntmps128
    (go_wp2_with fail; (with_reducible refine (name_ext _ _).mono ?_); rintro e w' ⟨rfl, hx⟩)
    go_wp2
    go_ret2
    exact ⟨rfl, (((Ext.refl w).alloc _).alloc _).trans hx⟩
  | odd v =>
    rcases h with rfl | ⟨t, x, rfl, h1, h2, h3, h4, h5, h6⟩
    · simp only [Ob.val, Ob.isLeaf, Ob.leafOk]
      go_enter Try.func128, Try.ntmps128
      go_wp2
      go_ret2
      exact ⟨rfl, ((Ext.refl w).alloc _).alloc _⟩
    · simp only [Ob.val, Ob.isLeaf, Ob.leafOk]
      go_enter Try.func128, Try.ntmps128
      go_wp2
      go_ret2
      exact ⟨rfl, ((Ext.refl w).alloc _).alloc _⟩
  | _ =>
    simp only [Ob.val, Ob.isLeaf, Ob.leafOk]
    go_enter Try.func128, Try.ntmps128
    go_wp2
    go_ret2
    exact ⟨rfl, ((Ext.refl w).alloc _).alloc _⟩

theorem Ob.odd_iff (o : Ob) : o.isOdd = (!o.isLeaf && decide (o.kids.length = 0)) := by
  cases o <;> simp [Ob.isOdd, Ob.isLeaf, Ob.kids]

theorem nat0 (n : Nat) : ((n : Int) == 0) = decide (n = 0) := by rw [Bool.eq_iff_iff]; simp

set_option maxRecDepth 100000 in
set_option maxHeartbeats 400000 in
theorem none_calls (o : Ob) (w : World) (h : o.wf) : Calls Try.prog 98 #[o.val] w fun e w' => RetB w o.isOdd e w' := by
  have HO := Lib.hid (Ob.odd_iff o)
  have H1 := leaf_calls o w h
  have H2 := fun w' => kids_calls o w' h
  generalize o.isOdd = q at *
  generalize o.isLeaf = q1 at *
  generalize o.leafOk = q2 at *
  generalize obVals o.kids = xs at *
  generalize o.kids.length = n at *
  generalize o.val = v at *
  clear h
  go_enter Try.func98, Try.ntmps98
  (go_wp2_with fail; (with_reducible refine (H1).mono ?_); rintro e w' ⟨rfl, hx⟩)
  clear H1
  cases q1 with
  | true =>
    go_wp2
    go_ret
    exact ⟨by rw [HO.out]; rfl, hx⟩
  | false =>
    (go_wp2_with fail; (with_reducible refine (H2 _).mono ?_); rintro e w' ⟨a, c, rfl, hn, hc, hr, hx2⟩)
    clear H2
    go_wp2
    go_ret
    exact ⟨by rw [HO.out, nat0]; rfl, hx.trans hx2⟩

def Ob.nodes : Ob → Nat
  | .const _ | .fix _ => 1
  | .add l r => l.nodes + r.nodes + 1
  | .neg o => o.nodes + 1
  | .mul l r => l.nodes + r.nodes + 1
  | .max l r => l.nodes + r.nodes + 1
  | .odd _ => 0
def Ob.depth : Ob → Nat
  | .const _ | .fix _ => 1
  | .add l r => Max.max l.depth r.depth + 1
  | .neg o => o.depth + 1
  | .mul l r => Max.max l.depth r.depth + 1
  | .max l r => Max.max l.depth r.depth + 1
  | .odd _ => 0
def sumN (l : List Ob) : Nat := (l.map Ob.nodes).sum
def maxD (l : List Ob) : Nat := l.foldl (fun a o => Max.max a o.depth) 0
theorem sumN_snoc (l : List Ob) (o : Ob) : sumN (l ++ [o]) = sumN l + o.nodes := by simp [sumN]
theorem maxD_snoc (l : List Ob) (o : Ob) : maxD (l ++ [o]) = Max.max (maxD l) o.depth := by simp [maxD]
theorem Ob.nodes_eq {o : Ob} (h : o.isOdd = false) : o.nodes = sumN o.kids + 1 := by
  cases o <;> simp [Ob.isOdd] at h <;> simp [Ob.nodes, sumN, Ob.kids] <;> omega
theorem Ob.depth_eq {o : Ob} (h : o.isOdd = false) : o.depth = maxD o.kids + 1 := by
  cases o <;> simp [Ob.isOdd] at h <;> simp [Ob.depth, maxD, Ob.kids]
theorem Ob.depth_le (o : Ob) : o.depth ≤ o.nodes := by
  induction o <;> simp only [Ob.depth, Ob.nodes] <;> omega
theorem sumN_take (l : List Ob) (i : Nat) : sumN (l.take i) ≤ sumN l := by
  have := congrArg sumN (List.take_append_drop i l)
  simp only [sumN, List.map_append, List.sum_append] at *
  omega
theorem sumN_mem {l : List Ob} {k : Ob} (h : k ∈ l) : k.nodes ≤ sumN l := by
  induction l with
  | nil => cases h
  | cons o t ih =>
    simp only [sumN, List.map_cons, List.sum_cons]
    rcases List.mem_cons.1 h with rfl | h
    · omega
    · have := ih h
      simp only [sumN] at this
      omega
theorem maxD_le (l : List Ob) : maxD l ≤ sumN l := by
  suffices ∀ (l : List Ob) (a : Nat), l.foldl (fun a o => Max.max a o.depth) a ≤ a + sumN l by simpa [maxD] using this l 0
  intro l
  induction l with
  | nil => intro a; simp [sumN]
  | cons o t ih =>
    intro a
    have h1 := ih (Max.max a o.depth)
    have h2 := o.depth_le
    simp only [sumN, List.map_cons, List.sum_cons, List.foldl_cons] at *
    omega
theorem kids_at {o : Ob} {i : Nat} (h : i < o.kids.length) : ∃ k, o.kids[i]? = some k ∧ k ∈ o.kids ∧ o.kids.take (i + 1) = o.kids.take i ++ [k] ∧ (obVals o.kids)[i]? = some k.val := by
  have h1 : o.kids[i]? = some o.kids[i] := List.getElem?_eq_getElem h
  refine ⟨o.kids[i], h1, List.getElem_mem h, ?_, by simp [obVals, h1]⟩
  rw [List.take_add_one, h1]
  rfl

structure SizeAt (ks : List Ob) (i : Nat) (n d : Int) : Prop where
  n : n = (sumN (ks.take i) : Int)
  d : d = (maxD (ks.take i) : Int)

set_option maxRecDepth 100000 in
set_option maxHeartbeats 800000 in
theorem osize_calls (k : Nat) : ∀ (o : Ob) (w : World), SizeOf.sizeOf o < k → o.wf → o.nodes < 2 ^ 62 → Calls Try.prog 46 #[o.val] w fun e w' => RetII w o.nodes o.depth e w' := by
  induction k with
  | zero => intro o w h; omega
  | succ k ih =>
    intro o w hk hwf hn
    have H1 := none_calls o w hwf
    have H2 := fun w' => kids_calls o w' hwf
    cases hodd : o.isOdd with
    | true =>
      obtain ⟨v, rfl⟩ : ∃ v, o = .odd v := by cases o <;> simp [Ob.isOdd] at hodd; exact ⟨_, rfl⟩
      rw [hodd] at H1
      clear hodd hk hn H2
      simp only [Ob.nodes, Ob.depth]
      generalize (Ob.odd v).val = v at *
      go_enter Try.func46, Try.ntmps46
      (go_wp2_with fail; (with_reducible refine (H1).mono ?_); rintro e w' ⟨rfl, hx⟩)
      go_wp2
      go_ret2
      exact ⟨rfl, hx⟩
    | false =>
      rw [hodd] at H1
      have hN := Ob.nodes_eq hodd
      have hD := Ob.depth_eq hodd
      rw [hN] at hn
      have HE := Lib.hid (And.intro hN hD)
      have HK := fun (i : Nat) (h : i < o.kids.length) => kids_at h
      have HR : ∀ (k' : Ob) (w' : World), k' ∈ o.kids → Calls Try.prog 46 #[k'.val] w' fun e w'' => RetII w' k'.nodes k'.depth e w'' := fun k' w' hm => ih k' w' (by have := Ob.kids_size hm; omega) (Ob.kids_wf hwf hm) (by
        have h1 := sumN_mem hm
        omega)
      have HT := Lib.hid (fun i => sumN_take o.kids i)
      have HM := Lib.hid (maxD_le o.kids)
      have HL := Lib.hid hn
      clear hN hD ih hk hn
      generalize Ob.val o = v at *
      go_enter Try.func46, Try.ntmps46
      (go_wp2_with fail; (with_reducible refine (H1).mono ?_); rintro e w' ⟨rfl, hx1⟩)
      clear H1
      (go_wp2_with fail; (with_reducible refine (H2 _).mono ?_); rintro e w' ⟨a, c, rfl, hnc, hcm, hr, hx2⟩)
      clear H2
      have hx3 := hx1.trans hx2
      unfold maxLen at hcm
      go_wp2_with fail
      go_loopw [13, 2, 3] (fun i n d wr => ∃ j : Nat, j ≤ o.kids.length ∧ i = .int .i64 j ∧ n = .int .i64 (sumN (o.kids.take j)) ∧ d = .int .i64 (maxD (o.kids.take j)) ∧ Ext w wr ∧ Rd wr 1 a o.kids.length (obVals o.kids)) (fun i _ _ _ => o.kids.length - (intOf i).toNat)
      case atStart => exact ⟨0, by omega, rfl, rfl, rfl, hx3, hr⟩
      case round =>
        obtain ⟨j, hj, rfl, rfl, rfl, hx, hr⟩ := hrel
        by_cases hlt : j < o.kids.length
        · obtain ⟨k', e1, hm, htk, hv⟩ := HK j hlt
          obtain ⟨ad, u, rfl, hu, hc⟩ := hr.at1 hlt
          obtain rfl : k'.val = u := by rw [hv] at hu; injection hu
          have HRk := fun w' => HR k' w' hm
          have hS : sumN (o.kids.take (j + 1)) = sumN (o.kids.take j) + k'.nodes := by rw [htk, sumN_snoc]
          have hM : maxD (o.kids.take (j + 1)) = Max.max (maxD (o.kids.take j)) k'.depth := by rw [htk, maxD_snoc]
          have hb := HT.out (j + 1)
          have hl := HL.out
          rw [hS] at hb
          have hr0 := Lib.hid hr
          have hS0 := Lib.hid hS
          have hM0 := Lib.hid hM
          have hj0 := Lib.hid (show j + 1 ≤ o.kids.length from hlt)
          clear hr hv hu HK HR e1 htk hm hS hM HT
          generalize sumN (o.kids.take j) = s at *
          generalize maxD (o.kids.take j) = m at *
          generalize sumN o.kids = S at *
          generalize k'.nodes = n1 at *
          generalize k'.depth = d1 at *
          generalize k'.val = v1 at *
          (go_wp2_with fail; (with_reducible refine (HRk _).mono ?_); rintro e w' ⟨rfl, hx4⟩)
          clear HRk
          go_wp2_with fail
          go_roundw
          case rel => exact ⟨j + 1, hj0.out, by go_num, by rw [hS0.out]; go_num, by rw [hM0.out]; go_num, hx.trans hx4, hr0.out.ext hx4⟩
          case measure => simp [intOf]; omega
        · obtain rfl : j = o.kids.length := by omega
          rw [List.take_length]
          have h1 := HE.out
          have h2 := HL.out
          have h3 := HM.out
          have HE2 := HE
          generalize sumN o.kids = S at *
          generalize maxD o.kids = D at *
          clear HK HR h1
          go_wp2
          go_ret2
          exact ⟨by rw [HE.out.1, HE.out.2]; simp, hx⟩

end Go.Proofs.Ytgjjngkmbplijaa
