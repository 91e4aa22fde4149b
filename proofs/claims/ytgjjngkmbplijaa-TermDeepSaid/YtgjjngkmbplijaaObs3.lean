/- Package obs: form (by way of slices.ContainsFunc), Check. -/
import Derived.Test.YtgjjngkmbplijaaObs2
namespace Go.Proofs.Ytgjjngkmbplijaa
open Go.RowKit
set_option linter.unusedSimpArgs false
set_option linter.unusedVariables false

def Ob.formed : Ob → Bool
  | .const n => Vd n
  | .fix s => isName s
  | .add l r => l.formed && r.formed
  | .neg o => o.formed
  | .mul l r => l.formed && r.formed
  | .max l r => l.formed && r.formed
  | .odd _ => false
theorem Ob.formed_leaf {o : Ob} (h : o.isLeaf = true) : o.formed = o.leafOk := by
  cases o <;> simp [Ob.isLeaf] at h <;> rfl
theorem Ob.formed_kids {o : Ob} (h : o.isLeaf = false) : o.formed = (!o.isOdd && !(o.kids.any fun k => !k.formed)) := by
  cases o <;> simp [Ob.isLeaf] at h <;> simp [Ob.formed, Ob.isOdd, Ob.kids]

theorem obVals_at {ks : List Ob} {j : Nat} (h : j < ks.length) : ∃ k, ks[j]? = some k ∧ k ∈ ks ∧ (obVals ks)[j]? = some k.val := by
  have h1 : ks[j]? = some ks[j] := List.getElem?_eq_getElem h
  exact ⟨ks[j], h1, List.getElem_mem h, by simp [obVals, h1]⟩
set_option maxRecDepth 100000 in
set_option maxHeartbeats 800000 in
theorem oindex_calls (ks : List Ob) (p : Ob → Bool) (a : Option Addr) (c : Nat) (w : World) (hr : Rd w 1 a ks.length (obVals ks)) (hnc : ks.length ≤ c) (hcm : c ≤ maxLen)
    (HR : ∀ (k : Ob) (w' : World), k ∈ ks → Calls Try.prog 130 #[k.val] w' fun e w'' => RetB w' (p k) e w'') :
    Calls Try.prog 150 #[.slice a ks.length c, .func (.func 130) #[] #[]] w fun e w' => RetAny w (ks.any p) e w' := by
  unfold maxLen at hcm
  go_enter Try.func150, Try.ntmps150
  go_wp2_with fail
  go_loopw [8] (fun i wr => ∃ j : Nat, j ≤ ks.length ∧ i = .int .i64 j ∧ (ks.take j).any p = false ∧ Ext w wr ∧ Rd wr 1 a ks.length (obVals ks)) (fun i _ => ks.length - (intOf i).toNat)
  case atStart => exact ⟨0, by omega, rfl, rfl, Ext.refl w, hr⟩
  case round =>
    obtain ⟨j, hj, rfl, hno, hx, hr⟩ := hrel
    by_cases hlt : j < ks.length
    · obtain ⟨k, e1, hm, hv⟩ := obVals_at hlt
      obtain ⟨ad, u, rfl, hu, hc⟩ := hr.at1 hlt
      obtain rfl : k.val = u := by rw [hv] at hu; injection hu
      have H := fun w' => HR k w' hm
      have hs := any_take_succ (p := p) e1
      rw [hno] at hs
      have hr0 := Lib.hid hr
      have e0 := Lib.hid e1
      have hs0 := Lib.hid hs
      have hj0 := Lib.hid (show j + 1 ≤ ks.length from hlt)
      clear hr hv hu HR e1 hm hs hno
      generalize k.val = v at *
      cases hp : p k with
      | true =>
        rw [hp] at H
        (go_wp2_with fail; (with_reducible refine (H _).mono ?_); rintro e w' ⟨rfl, hx4⟩)
        go_wp2
        go_ret
        exact ⟨_, rfl, by rw [any_hit e0.out hp]; simp, hx.trans hx4⟩
      | false =>
        rw [hp] at H
        (go_wp2_with fail; (with_reducible refine (H _).mono ?_); rintro e w' ⟨rfl, hx4⟩)
        go_wp2_with fail
        go_roundw
        case rel => exact ⟨j + 1, hj0.out, by go_num, by rw [hs0.out, hp]; rfl, hx.trans hx4, hr0.out.ext hx4⟩
        case measure => simp [intOf]; omega
    · obtain rfl : j = ks.length := by omega
      rw [List.take_length] at hno
      clear HR
      go_wp2
      go_ret
      exact ⟨_, rfl, by rw [hno]; rfl, hx⟩

set_option maxRecDepth 100000 in
set_option maxHeartbeats 800000 in
theorem ocontains_calls (ks : List Ob) (p : Ob → Bool) (a : Option Addr) (c : Nat) (w : World) (hr : Rd w 1 a ks.length (obVals ks)) (hnc : ks.length ≤ c) (hcm : c ≤ maxLen)
    (HR : ∀ (k : Ob) (w' : World), k ∈ ks → Calls Try.prog 130 #[k.val] w' fun e w'' => RetB w' (p k) e w'') :
    Calls Try.prog 129 #[.slice a ks.length c, .func (.func 130) #[] #[]] w fun e w' => RetB w (ks.any p) e w' := by
  have H := fun w' (h : Ext w w') => oindex_calls ks p a c w' (hr.ext h) hnc hcm HR
  generalize ks.any p = b at *
  clear HR
  go_enter Try.func129, Try.ntmps129
  (go_wp2_with fail; (with_reducible refine (H _ (Ext.refl w)).mono ?_); rintro e w' ⟨r, rfl, rfl, hx⟩)
  go_wp2
  go_ret
  exact ⟨rfl, hx⟩

set_option maxRecDepth 100000 in
set_option maxHeartbeats 800000 in
theorem oform_calls (k : Nat) : ∀ (o : Ob) (w : World), SizeOf.sizeOf o < k → o.wf → Calls Try.prog 99 #[o.val] w fun e w' => RetB w o.formed e w' := by
  induction k with
  | zero => intro o w h; omega
  | succ k ih =>
    intro o w hk hwf
    have H1 := leaf_calls o w hwf
    cases hl : o.isLeaf with
    | true =>
      rw [hl, ← Ob.formed_leaf hl] at H1
      generalize o.val = v at *
      generalize o.formed = b at *
      clear ih
      go_enter Try.func99, Try.ntmps99
      (go_wp2_with fail; (with_reducible refine (H1).mono ?_); rintro e w' ⟨rfl, hx⟩)
      go_wp2
      go_ret
      exact ⟨rfl, hx⟩
    | false =>
      rw [hl] at H1
      have H2 := fun w' => none_calls o w' hwf
      have H3 := fun w' => kids_calls o w' hwf
      have H4 : ∀ (k' : Ob) (w' : World), k' ∈ o.kids → Calls Try.prog 130 #[k'.val] w' fun e w'' => RetB w' (!k'.formed) e w'' := fun k' w' hm => by
        have h := fun w'' => ih k' w'' (by have := Ob.kids_size hm; omega) (Ob.kids_wf hwf hm)
        generalize k'.val = v at *
        generalize k'.formed = b at *
        clear ih H1 H2 H3
        go_enter Try.func130, Try.ntmps130
        (go_wp2_with fail; (with_reducible refine (h _).mono ?_); rintro e w' ⟨rfl, hx⟩)
        go_wp2
        go_ret
        exact ⟨rfl, hx⟩
      have H5 := fun (w' : World) (a : Option Addr) (c : Nat) (hr : Rd w' 1 a o.kids.length (obVals o.kids)) (h1 : o.kids.length ≤ c) (h2 : c ≤ maxLen) => ocontains_calls o.kids (fun k => !k.formed) a c w' hr h1 h2 H4
      have HF := Lib.hid (Ob.formed_kids hl)
      clear H4 ih hk hwf hl
      generalize o.val = v at *
      generalize o.formed = b at *
      generalize (o.kids.any fun k => !k.formed) = b1 at *
      generalize o.leafOk = b2 at *
      generalize obVals o.kids = xs at *
      generalize o.kids.length = n at *
      go_enter Try.func99, Try.ntmps99
      (go_wp2_with fail; (with_reducible refine (H1).mono ?_); rintro e w' ⟨rfl, hx⟩)
      (go_wp2_with fail; (with_reducible refine (H2 _).mono ?_); rintro e w' ⟨rfl, hx2⟩)
      generalize o.isOdd = b3 at *
      cases b3 with
      | true =>
        go_wp2
        go_ret
        exact ⟨by rw [HF.out]; rfl, hx.trans hx2⟩
      | false =>
        (go_wp2_with fail; (with_reducible refine (H3 _).mono ?_); rintro e w' ⟨a, c, rfl, hnc, hcm, hr, hx3⟩)
        (go_wp2_with fail; (with_reducible refine (H5 _ _ _ hr hnc hcm).mono ?_); rintro e w' ⟨rfl, hx4⟩)
        go_wp2
        go_ret
        exact ⟨by rw [HF.out]; rfl, ((hx.trans hx2).trans hx3).trans hx4⟩

/-- What Check answers. -/
def Ob.checked (o : Ob) : Int := if o.formed = true then (if 60 < o.nodes ∨ 12 < o.depth then 5 else 0) else 2

set_option maxRecDepth 100000 in
set_option maxHeartbeats 800000 in
theorem ocheck_calls (o : Ob) (w : World) (h : o.wf) (hn : o.nodes < 2 ^ 62) : Calls Try.prog 47 #[o.val] w fun e w' => e = .returned (.int .i64 o.checked) ∧ Ext w w' := by
  have H1 := oform_calls _ o w (Nat.lt_succ_self _) h
  have H2 := fun w' => osize_calls _ o w' (Nat.lt_succ_self _) h hn
  have HC := Lib.hid (show o.checked = if o.formed = true then (if 60 < o.nodes ∨ 12 < o.depth then 5 else 0) else 2 from rfl)
  have hd := o.depth_le
  generalize o.val = v at *
  generalize o.checked = x at *
  generalize o.nodes = n at *
  generalize o.depth = d at *
  generalize o.formed = b at *
  cases b with
  | false =>
    go_enter Try.func47, Try.ntmps47
    (go_wp2_with fail; (with_reducible refine (H1).mono ?_); rintro e w' ⟨rfl, hx⟩)
    go_wp2
    go_ret
    exact ⟨by rw [HC.out]; rfl, hx⟩
  | true =>
    go_enter Try.func47, Try.ntmps47
    (go_wp2_with fail; (with_reducible refine (H1).mono ?_); rintro e w' ⟨rfl, hx⟩)
    (go_wp2_with fail; (with_reducible refine (H2 _).mono ?_); rintro e w' ⟨rfl, hx2⟩)
    clear H1 H2
    by_cases h1 : 60 < n
    · go_wp2
      go_ret
      exact ⟨by rw [HC.out]; simp [h1], hx.trans hx2⟩
    · by_cases h2 : 12 < d
      · go_wp2
        go_ret
        exact ⟨by rw [HC.out]; simp [h2], hx.trans hx2⟩
      · go_wp2
        go_ret
        exact ⟨by rw [HC.out]; simp [h1, h2], hx.trans hx2⟩

end Go.Proofs.Ytgjjngkmbplijaa
