/- Texts put together: Term2, Term3, Term4. -/
import Derived.Test.YtgjjngkmbplijaaYTerm1
import Derived.Test.YtgjjngkmbplijaaZWo
/- Package term: Size, form (by way of slices.ContainsFunc). -/
namespace Go.Proofs.Ytgjjngkmbplijaa
open Go.RowKit
set_option linter.unusedSimpArgs false
set_option linter.unusedVariables false

def Te.nodes : Te → Nat
  | .zero | .one _ => 1
  | .give t => t.nodes + 1
  | .and l r => l.nodes + r.nodes + 1
  | .or _ l r => l.nodes + r.nodes + 1
  | .scale o t => o.nodes + t.nodes + 1
  | .whn _ t => t.nodes + 1
  | .cond o l r => o.nodes + (l.nodes + r.nodes) + 1
  | .odd _ => 0
def Te.depth : Te → Nat
  | .zero | .one _ => 1
  | .give t => t.depth + 1
  | .and l r => Max.max l.depth r.depth + 1
  | .or _ l r => Max.max l.depth r.depth + 1
  | .scale o t => Max.max o.depth t.depth + 1
  | .whn _ t => t.depth + 1
  | .cond o l r => Max.max (Max.max o.depth l.depth) r.depth + 1
  | .odd _ => 0
def Te.numN (t : Te) : Nat := match t.num with | some o => o.nodes | none => 0
def Te.numD (t : Te) : Nat := match t.num with | some o => o.depth | none => 0
def sumT (l : List Te) : Nat := (l.map Te.nodes).sum
def maxT (d : Nat) (l : List Te) : Nat := l.foldl (fun a o => Max.max a o.depth) d
theorem sumT_snoc (l : List Te) (o : Te) : sumT (l ++ [o]) = sumT l + o.nodes := by simp [sumT]
theorem maxT_snoc (d : Nat) (l : List Te) (o : Te) : maxT d (l ++ [o]) = Max.max (maxT d l) o.depth := by simp [maxT]
theorem Te.nodes_eq {t : Te} (h : t.kind ≠ 0) : t.nodes = t.numN + sumT t.kids + 1 := by
  cases t <;> simp [Te.kind] at h <;> simp [Te.nodes, sumT, Te.kids, Te.numN, Te.num] <;> omega
theorem Te.depth_eq {t : Te} (h : t.kind ≠ 0) : t.depth = maxT t.numD t.kids + 1 := by
  cases t <;> simp [Te.kind] at h <;> simp [Te.depth, maxT, Te.kids, Te.numD, Te.num]
theorem Te.depth_le (t : Te) : t.depth ≤ t.nodes := by
  induction t with
  | scale o t ih => have := o.depth_le; simp only [Te.depth, Te.nodes]; omega
  | cond o l r ihl ihr => have := o.depth_le; simp only [Te.depth, Te.nodes]; omega
  | _ => simp only [Te.depth, Te.nodes] <;> omega
theorem sumT_take (l : List Te) (i : Nat) : sumT (l.take i) ≤ sumT l := by
  have := congrArg sumT (List.take_append_drop i l)
  simp only [sumT, List.map_append, List.sum_append] at *
  omega
theorem sumT_mem {l : List Te} {k : Te} (h : k ∈ l) : k.nodes ≤ sumT l := by
  induction l with
  | nil => cases h
  | cons o t ih =>
    simp only [sumT, List.map_cons, List.sum_cons]
    rcases List.mem_cons.1 h with rfl | h
    · omega
    · have := ih h
      simp only [sumT] at this
      omega
theorem maxT_le (d : Nat) (l : List Te) : maxT d l ≤ d + sumT l := by
  induction l generalizing d with
  | nil => simp [sumT, maxT]
  | cons o t ih =>
    have h1 := ih (Max.max d o.depth)
    have h2 := o.depth_le
    simp only [sumT, maxT, List.map_cons, List.sum_cons, List.foldl_cons] at *
    omega
theorem Te.numD_le (t : Te) : t.numD ≤ t.numN := by
  unfold Te.numD Te.numN
  cases t.num with
  | none => exact Nat.le_refl _
  | some o => exact o.depth_le
theorem Te.numN_le (t : Te) : t.numN ≤ t.nodes := by
  cases t <;> simp [Te.numN, Te.num, Te.nodes] <;> omega
theorem Te.sumT_le (t : Te) : sumT t.kids ≤ t.nodes := by
  cases t <;> simp [Te.kids, sumT, Te.nodes] <;> omega
theorem tkids_at {o : Te} {i : Nat} (h : i < o.kids.length) : ∃ k, o.kids[i]? = some k ∧ k ∈ o.kids ∧ o.kids.take (i + 1) = o.kids.take i ++ [k] ∧ (teVals o.kids)[i]? = some k.val := by
  have h1 : o.kids[i]? = some o.kids[i] := List.getElem?_eq_getElem h
  refine ⟨o.kids[i], h1, List.getElem_mem h, ?_, by simp [teVals, h1]⟩
  rw [List.take_add_one, h1]
  rfl
theorem Te.ob_size (t : Te) (o : Ob) (h : t.num = some o) : o.nodes ≤ t.nodes := by
  have := t.numN_le
  simp only [Te.numN, h] at this
  exact this

set_option maxRecDepth 100000 in
set_option maxHeartbeats 800000 in
theorem tsize_calls (k : Nat) : ∀ (t : Te) (w : World), SizeOf.sizeOf t < k → t.wf → t.nodes < 2 ^ 61 → Calls Try.prog 74 #[t.val] w fun e w' => RetII w t.nodes t.depth e w' := by
  induction k with
  | zero => intro o w h; omega
  | succ k ih =>
    intro t w hk hwf hn
    have H0 := tkind_calls t w hwf
    by_cases hodd : t.kind = 0
    · obtain ⟨v, rfl⟩ : ∃ v, t = .odd v := by cases t <;> simp [Te.kind] at hodd; exact ⟨_, rfl⟩
      clear hk hn
      simp only [Te.nodes, Te.depth]
      rw [hodd] at H0
      generalize (Te.odd v).val = v at *
      clear hodd
      go_enter Try.func74, Try.ntmps74
      (go_wp2_with fail; (with_reducible refine (H0).mono ?_); rintro e w' ⟨rfl, rfl⟩)
      go_wp2
      go_ret2
      exact ⟨rfl, Ext.refl _⟩
    · have hN := Te.nodes_eq hodd
      have hD := Te.depth_eq hodd
      have hnn := t.numD_le
      have HE := Lib.hid (And.intro hN hD)
      have HK := fun (i : Nat) (h : i < t.kids.length) => tkids_at h
      have HR : ∀ (k' : Te) (w' : World), k' ∈ t.kids → Calls Try.prog 74 #[k'.val] w' fun e w'' => RetII w' k'.nodes k'.depth e w'' := fun k' w' hm => ih k' w' (by have := Te.kids_size hm; omega) (Te.kids_wf hwf hm) (by
        have h1 := sumT_mem hm
        have h2 := t.sumT_le
        omega)
      have H1 := fun w' => tnum_calls t w' hwf
      have H2 := fun w' => tkids_calls t w' hwf
      have HO := fun (o : Ob) (w' : World) (ho : t.num = some o) => osize_calls _ o w' (Nat.lt_succ_self _) (Te.num_wf hwf ho) (by have := t.ob_size o ho; omega)
      have HT := Lib.hid (fun i => sumT_take t.kids i)
      have HM := Lib.hid (maxT_le t.numD t.kids)
      rw [hN] at hn
      have HL := Lib.hid hn
      have hk0 : ((t.kind : Int) == 0) = false := by simp; omega
      clear hN hD ih hk hn hodd
      have hnum : (t.num = none ∧ t.numV = .nilIface ∧ t.numN = 0 ∧ t.numD = 0) ∨ ∃ o, t.num = some o ∧ t.numV = o.val ∧ t.numN = o.nodes ∧ t.numD = o.depth := by
        unfold Te.numV Te.numN Te.numD
        cases t.num with
        | none => exact .inl ⟨rfl, rfl, rfl, rfl⟩
        | some o => exact .inr ⟨o, rfl, rfl, rfl, rfl⟩
      rcases hnum with ⟨e1, e2, e3, e4⟩ | ⟨o, e1, e2, e3, e4⟩
      · rw [e1, e2] at H1
        have HB := Lib.hid (show t.numN + sumT t.kids + 1 < 2 ^ 61 from HL.out)
        have HBD := Lib.hid hnn
        rw [e3] at HE HB HBD
        rw [e4] at HE HM HBD
        clear e1 e2 e3 e4 HL hnn hwf HO
        generalize t.val = v at *
        generalize t.kind = kd at *
        go_enter Try.func74, Try.ntmps74
        (go_wp2_with fail; (with_reducible refine (H0).mono ?_); rintro e w' ⟨rfl, rfl⟩)
        (go_wp2_with fail; (with_reducible refine (H1 _).mono ?_); rintro e w' ⟨rfl, hx1⟩)
        clear H0 H1
        (go_wp2_with fail; (with_reducible refine (H2 _).mono ?_); rintro e w' ⟨a, c, rfl, hnc, hcm, hr, hx2⟩)
        clear H2
        unfold maxLen at hcm
        have hx3 : Ext w w' := ((by repeat' (first | (with_reducible exact Ext.refl _) | (with_reducible assumption) | (with_reducible refine Ext.alloc ?_ _) | (with_reducible refine Ext.drew ?_) | (with_reducible refine Ext.drewN ?_ _) | (with_reducible refine Ext.setCell ?_ (by first | exact Nat.le_refl _ | (simp; done) | (simp; omega) | omega) _) | (with_reducible refine Ext.trans ?_ (by assumption)))))
        go_wp2_with fail
        go_loopw [27, 2, 3] (fun i n d wr => ∃ j : Nat, j ≤ t.kids.length ∧ i = .int .i64 j ∧ n = .int .i64 ((0 + sumT (t.kids.take j) : Nat) : Int) ∧ d = .int .i64 ((maxT 0 (t.kids.take j) : Nat) : Int) ∧ Ext w wr ∧ Rd wr 1 a t.kids.length (teVals t.kids)) (fun i _ _ _ => t.kids.length - (intOf i).toNat)
        case atStart => exact ⟨0, by omega, rfl, by simp [sumT], by simp [maxT], hx3, hr⟩
        case round =>
          obtain ⟨j, hj, rfl, rfl, rfl, hx, hr⟩ := hrel
          by_cases hlt : j < t.kids.length
          · obtain ⟨k', e1, hm, htk, hv⟩ := HK j hlt
            obtain ⟨ad, u, rfl, hu, hc⟩ := hr.at1 hlt
            obtain rfl : k'.val = u := by rw [hv] at hu; injection hu
            have HRk := fun w' => HR k' w' hm
            have hS : sumT (t.kids.take (j + 1)) = sumT (t.kids.take j) + k'.nodes := by rw [htk, sumT_snoc]
            have hM : maxT 0 (t.kids.take (j + 1)) = Max.max (maxT 0 (t.kids.take j)) k'.depth := by rw [htk, maxT_snoc]
            have hb := HT.out (j + 1)
            have hl := HB.out
            have hdl := k'.depth_le
            have hml : maxT 0 (t.kids.take j) ≤ 0 + sumT (t.kids.take j) := by have h1 := maxT_le 0 (t.kids.take j); have h2 := HBD.out; omega
            rw [hS] at hb
            have hr0 := Lib.hid hr
            have hS0 := Lib.hid hS
            have hM0 := Lib.hid hM
            have hj0 := Lib.hid (show j + 1 ≤ t.kids.length from hlt)
            clear hr hv hu HK HR e1 htk hm hS hM HT
            generalize sumT (t.kids.take j) = s at *
            generalize maxT 0 (t.kids.take j) = m at *
            generalize sumT t.kids = S at *
            generalize k'.nodes = n1 at *
            generalize k'.depth = d1 at *
            generalize k'.val = v1 at *
            (go_wp2_with fail; (with_reducible refine (HRk _).mono ?_); rintro e w' ⟨rfl, hx4⟩)
            clear HRk
            go_wp2_with fail
            go_roundw
            case rel => exact ⟨j + 1, hj0.out, by go_num, by rw [hS0.out]; go_num, by rw [hM0.out]; go_num, hx.trans hx4, hr0.out.ext hx4⟩
            case measure => simp [intOf]; omega
          · obtain rfl : j = t.kids.length := by omega
            rw [List.take_length]
            have h2 := HB.out
            have h3 := HM.out
            have h4 := HBD.out
            generalize sumT t.kids = S at *
            generalize maxT 0 t.kids = D at *
            clear HK HR
            go_wp2
            go_ret2
            exact ⟨by rw [HE.out.1, HE.out.2]; simp, hx⟩
      · rw [e1, e2] at H1
        have HO := fun w' => HO o w' e1
        have HB := Lib.hid (show t.numN + sumT t.kids + 1 < 2 ^ 61 from HL.out)
        have HBD := Lib.hid hnn
        rw [e3] at HE HB HBD
        rw [e4] at HE HM HBD
        clear e1 e2 e3 e4 HL hnn hwf
        generalize o.val = ov at *
        generalize o.nodes = on at *
        generalize o.depth = od at *
        generalize t.val = v at *
        generalize t.kind = kd at *
        go_enter Try.func74, Try.ntmps74
        (go_wp2_with fail; (with_reducible refine (H0).mono ?_); rintro e w' ⟨rfl, rfl⟩)
        (go_wp2_with fail; (with_reducible refine (H1 _).mono ?_); rintro e w' ⟨rfl, hx1⟩)
        (go_wp2_with fail; (with_reducible refine (HO _).mono ?_); rintro e w' ⟨rfl, hx0⟩)
        clear H0 H1
        (go_wp2_with fail; (with_reducible refine (H2 _).mono ?_); rintro e w' ⟨a, c, rfl, hnc, hcm, hr, hx2⟩)
        clear H2
        unfold maxLen at hcm
        have hx3 : Ext w w' := ((by repeat' (first | (with_reducible exact Ext.refl _) | (with_reducible assumption) | (with_reducible refine Ext.alloc ?_ _) | (with_reducible refine Ext.drew ?_) | (with_reducible refine Ext.drewN ?_ _) | (with_reducible refine Ext.setCell ?_ (by first | exact Nat.le_refl _ | (simp; done) | (simp; omega) | omega) _) | (with_reducible refine Ext.trans ?_ (by assumption)))))
        go_wp2_with fail
        go_loopw [27, 2, 3] (fun i n d wr => ∃ j : Nat, j ≤ t.kids.length ∧ i = .int .i64 j ∧ n = .int .i64 ((on + sumT (t.kids.take j) : Nat) : Int) ∧ d = .int .i64 ((maxT od (t.kids.take j) : Nat) : Int) ∧ Ext w wr ∧ Rd wr 1 a t.kids.length (teVals t.kids)) (fun i _ _ _ => t.kids.length - (intOf i).toNat)
        case atStart => exact ⟨0, by omega, rfl, by simp [sumT], by simp [maxT], hx3, hr⟩
        case round =>
          obtain ⟨j, hj, rfl, rfl, rfl, hx, hr⟩ := hrel
          by_cases hlt : j < t.kids.length
          · obtain ⟨k', e1, hm, htk, hv⟩ := HK j hlt
            obtain ⟨ad, u, rfl, hu, hc⟩ := hr.at1 hlt
            obtain rfl : k'.val = u := by rw [hv] at hu; injection hu
            have HRk := fun w' => HR k' w' hm
            have hS : sumT (t.kids.take (j + 1)) = sumT (t.kids.take j) + k'.nodes := by rw [htk, sumT_snoc]
            have hM : maxT od (t.kids.take (j + 1)) = Max.max (maxT od (t.kids.take j)) k'.depth := by rw [htk, maxT_snoc]
            have hb := HT.out (j + 1)
            have hl := HB.out
            have hdl := k'.depth_le
            have hml : maxT od (t.kids.take j) ≤ on + sumT (t.kids.take j) := by have h1 := maxT_le od (t.kids.take j); have h2 := HBD.out; omega
            rw [hS] at hb
            have hr0 := Lib.hid hr
            have hS0 := Lib.hid hS
            have hM0 := Lib.hid hM
            have hj0 := Lib.hid (show j + 1 ≤ t.kids.length from hlt)
            clear hr hv hu HK HR e1 htk hm hS hM HT
            generalize sumT (t.kids.take j) = s at *
            generalize maxT od (t.kids.take j) = m at *
            generalize sumT t.kids = S at *
            generalize k'.nodes = n1 at *
            generalize k'.depth = d1 at *
            generalize k'.val = v1 at *
            (go_wp2_with fail; (with_reducible refine (HRk _).mono ?_); rintro e w' ⟨rfl, hx4⟩)
            clear HRk
            go_wp2_with fail
            go_roundw
            case rel => exact ⟨j + 1, hj0.out, by go_num, by rw [hS0.out]; go_num, by rw [hM0.out]; go_num, hx.trans hx4, hr0.out.ext hx4⟩
            case measure => simp [intOf]; omega
          · obtain rfl : j = t.kids.length := by omega
            rw [List.take_length]
            have h2 := HB.out
            have h3 := HM.out
            have h4 := HBD.out
            generalize sumT t.kids = S at *
            generalize maxT od t.kids = D at *
            clear HK HR
            go_wp2
            go_ret2
            exact ⟨by rw [HE.out.1, HE.out.2]; simp, hx⟩

end Go.Proofs.Ytgjjngkmbplijaa

/- Package term: form (by way of slices.ContainsFunc), Labels. -/
namespace Go.Proofs.Ytgjjngkmbplijaa
open Go.RowKit
set_option linter.unusedSimpArgs false
set_option linter.unusedVariables false

def Te.formed : Te → Bool
  | .zero => true
  | .one s => isName s
  | .give t => t.formed
  | .and l r => l.formed && r.formed
  | .or s l r => isName s && (l.formed && r.formed)
  | .scale o t => o.formed && t.formed
  | .whn d t => dayB d && t.formed
  | .cond o l r => o.formed && (l.formed && r.formed)
  | .odd _ => false
def Te.named : Te → Bool
  | .one _ => true
  | .or _ _ _ => true
  | _ => false
def Te.numOk (t : Te) : Bool := match t.num with | some o => o.formed | none => true
theorem Te.formed_eq (t : Te) : t.formed = (decide (t.kind ≠ 0) && (!t.named || isName t.ownS) && dayB t.ownD && t.numOk && !(t.kids.any fun k => !k.formed)) := by
  have h0 : dayB 0 = true := by decide
  cases t <;> simp [Te.formed, Te.kind, Te.named, Te.ownS, Te.ownD, Te.numOk, Te.num, Te.kids, h0]
theorem Te.named_kind (t : Te) : t.named = (t.kind == 2 || t.kind == 5) := by cases t <;> rfl
theorem checked_two (o : Ob) : (o.checked == 2) = !o.formed := by
  unfold Ob.checked
  cases o.formed with
  | true => split <;> (try split) <;> simp_all
  | false => simp

theorem teVals_at {ks : List Te} {j : Nat} (h : j < ks.length) : ∃ k, ks[j]? = some k ∧ k ∈ ks ∧ (teVals ks)[j]? = some k.val := by
  have h1 : ks[j]? = some ks[j] := List.getElem?_eq_getElem h
  exact ⟨ks[j], h1, List.getElem_mem h, by simp [teVals, h1]⟩
set_option maxRecDepth 100000 in
set_option maxHeartbeats 800000 in
theorem tindex_calls (ks : List Te) (p : Te → Bool) (a : Option Addr) (c : Nat) (w : World) (hr : Rd w 1 a ks.length (teVals ks)) (hnc : ks.length ≤ c) (hcm : c ≤ maxLen)
    (HR : ∀ (k : Te) (w' : World), k ∈ ks → Calls Try.prog 142 #[k.val] w' fun e w'' => RetB w' (p k) e w'') :
    Calls Try.prog 152 #[.slice a ks.length c, .func (.func 142) #[] #[]] w fun e w' => RetAny w (ks.any p) e w' := by
  unfold maxLen at hcm
  go_enter Try.func152, Try.ntmps152
  go_wp2_with fail
  go_loopw [8] (fun i wr => ∃ j : Nat, j ≤ ks.length ∧ i = .int .i64 j ∧ (ks.take j).any p = false ∧ Ext w wr ∧ Rd wr 1 a ks.length (teVals ks)) (fun i _ => ks.length - (intOf i).toNat)
  case atStart => exact ⟨0, by omega, rfl, rfl, Ext.refl w, hr⟩
  case round =>
    obtain ⟨j, hj, rfl, hno, hx, hr⟩ := hrel
    by_cases hlt : j < ks.length
    · obtain ⟨k, e1, hm, hv⟩ := teVals_at hlt
      obtain ⟨ad, u, rfl, hu, hc⟩ := hr.at1 hlt
      obtain rfl : k.val = u := by rw [hv] at hu; injection hu
      have H := fun w' => HR k w' hm
      have hs := any_take_succ (p := p) e1
      rw [hno] at hs
      have hr0 := Lib.hid hr
      have e0 := Lib.hid e1
      have hs0 := Lib.hid hs
      have hj0 := Lib.hid (show j + 1 ≤ ks.length from hlt)
      clear hr hv hu HR e1 hm hs hno
      generalize k.val = v at *
      cases hp : p k with
      | true =>
        rw [hp] at H
        (go_wp2_with fail; (with_reducible refine (H _).mono ?_); rintro e w' ⟨rfl, hx4⟩)
        go_wp2
        go_ret
        exact ⟨_, rfl, by rw [any_hit e0.out hp]; simp, hx.trans hx4⟩
      | false =>
        rw [hp] at H
        (go_wp2_with fail; (with_reducible refine (H _).mono ?_); rintro e w' ⟨rfl, hx4⟩)
        go_wp2_with fail
        go_roundw
        case rel => exact ⟨j + 1, hj0.out, by go_num, by rw [hs0.out, hp]; rfl, hx.trans hx4, hr0.out.ext hx4⟩
        case measure => simp [intOf]; omega
    · obtain rfl : j = ks.length := by omega
      rw [List.take_length] at hno
      clear HR
      go_wp2
      go_ret
      exact ⟨_, rfl, by rw [hno]; rfl, hx⟩

set_option maxRecDepth 100000 in
set_option maxHeartbeats 800000 in
theorem tcontains_calls (ks : List Te) (p : Te → Bool) (a : Option Addr) (c : Nat) (w : World) (hr : Rd w 1 a ks.length (teVals ks)) (hnc : ks.length ≤ c) (hcm : c ≤ maxLen)
    (HR : ∀ (k : Te) (w' : World), k ∈ ks → Calls Try.prog 142 #[k.val] w' fun e w'' => RetB w' (p k) e w'') :
    Calls Try.prog 141 #[.slice a ks.length c, .func (.func 142) #[] #[]] w fun e w' => RetB w (ks.any p) e w' := by
  have H := fun w' (h : Ext w w') => tindex_calls ks p a c w' (hr.ext h) hnc hcm HR
  generalize ks.any p = b at *
  clear HR
  go_enter Try.func141, Try.ntmps141
  (go_wp2_with fail; (with_reducible refine (H _ (Ext.refl w)).mono ?_); rintro e w' ⟨r, rfl, rfl, hx⟩)
  go_wp2
  go_ret
  exact ⟨rfl, hx⟩

theorem kindOne (w : World) : Calls Try.prog 115 #[.iface 96 (.agg #[.string ⟨#[]⟩])] w fun e w' => e = .returned (.int .i64 2) ∧ w = w' :=
  tkind_calls (.one ⟨#[]⟩) w (by show (⟨#[]⟩ : ByteArray).size ≤ 1000; decide)
theorem kindOr (w : World) : Calls Try.prog 115 #[.iface 104 (.agg #[.string ⟨#[]⟩, .nilIface, .nilIface])] w fun e w' => e = .returned (.int .i64 5) ∧ w = w' :=
  tkind_calls (.or ⟨#[]⟩ (.odd .nilIface) (.odd .nilIface)) w ⟨by decide, .inl rfl, .inl rfl⟩

set_option maxRecDepth 100000 in
set_option maxHeartbeats 1600000 in
theorem tform_calls (k : Nat) : ∀ (t : Te) (w : World), SizeOf.sizeOf t < k → t.wf → t.nodes < 2 ^ 61 → Calls Try.prog 110 #[t.val] w fun e w' => RetB w t.formed e w' := by
  induction k with
  | zero => intro o w h; omega
  | succ k ih =>
    intro t w hk hwf hn
    have HE := Lib.hid (Te.formed_eq t)
    have HNK := Lib.hid (Te.named_kind t)
    have K1 := fun w' => town_calls t w' hwf
    have K2 := fun w' => tkind_calls t w' hwf
    have K3 := fun w' => tnum_calls t w' hwf
    have K4 := fun w' => tkids_calls t w' hwf
    have K0 := fun w' => name_ext t.ownS w'
    have H4 : ∀ (k' : Te) (w' : World), k' ∈ t.kids → Calls Try.prog 142 #[k'.val] w' fun e w'' => RetB w' (!k'.formed) e w'' := fun k' w' hm => by
      have h := fun w'' => ih k' w'' (by have := Te.kids_size hm; omega) (Te.kids_wf hwf hm) (by
        have h1 := sumT_mem hm
        have h2 := t.sumT_le
        omega)
      generalize k'.val = v at *
      generalize k'.formed = b at *
      clear ih K1 K2 K3 K4 K0
      go_enter Try.func142, Try.ntmps142
      (go_wp2_with fail; (with_reducible refine (h _).mono ?_); rintro e w' ⟨rfl, hx⟩)
      go_wp2
      go_ret
      exact ⟨rfl, hx⟩
    have H5 := fun (w' : World) (a : Option Addr) (c : Nat) (hr : Rd w' 1 a t.kids.length (teVals t.kids)) (h1 : t.kids.length ≤ c) (h2 : c ≤ maxLen) => tcontains_calls t.kids (fun k => !k.formed) a c w' hr h1 h2 H4
    have HO := fun (o : Ob) (w' : World) (ho : t.num = some o) => ocheck_calls o w' (Te.num_wf hwf ho) (by have := t.ob_size o ho; omega)
    have hkd : t.kind ≤ 8 := by cases t <;> simp [Te.kind]
    have hnum : (t.num = none ∧ t.numV = .nilIface ∧ t.numOk = true) ∨ ∃ o, t.num = some o ∧ t.numV = o.val ∧ t.numOk = o.formed := by
      unfold Te.numV Te.numOk
      cases t.num with
      | none => exact .inl ⟨rfl, rfl, rfl⟩
      | some o => exact .inr ⟨o, rfl, rfl, rfl⟩
    clear H4 ih hk hwf hn
    generalize t.val = v at *
    generalize t.formed = b at *
    generalize (t.kids.any fun k => !k.formed) = b1 at *
    generalize teVals t.kids = xs at *
    generalize t.kids.length = n at *
    generalize t.ownS = s at *
    generalize t.ownD = d at *
    generalize t.named = nm at *
    generalize t.kind = kd at *
    generalize t.numOk = ok at *
    generalize t.numV = nv at *
    generalize t.num = ob at *
    generalize isName s = sn at *
    by_cases h0 : kd = 0
    · subst h0
      go_enter Try.func110, Try.ntmps110
      (go_wp2_with fail; (with_reducible refine (K1 _).mono ?_); rintro e w' ⟨rfl, hx1⟩)
      (go_wp2_with fail; (with_reducible refine (K2 _).mono ?_); rintro e w' ⟨rfl, rfl⟩)
      (go_wp2_with fail; (with_reducible refine (kindOne _).mono ?_); rintro e w' ⟨rfl, rfl⟩)
      (go_wp2_with fail; (with_reducible refine (K2 _).mono ?_); rintro e w' ⟨rfl, rfl⟩)
      (go_wp2_with fail; (with_reducible refine (kindOr _).mono ?_); rintro e w' ⟨rfl, rfl⟩)
      (go_wp2_with fail; (with_reducible refine (K2 _).mono ?_); rintro e w' ⟨rfl, rfl⟩)
      go_wp2
      go_ret
      exact ⟨by rw [HE.out]; rfl, (by repeat' (first | (with_reducible exact Ext.refl _) | (with_reducible assumption) | (with_reducible refine Ext.alloc ?_ _) | (with_reducible refine Ext.drew ?_) | (with_reducible refine Ext.drewN ?_ _) | (with_reducible refine Ext.setCell ?_ (by first | exact Nat.le_refl _ | (simp; done) | (simp; omega) | omega) _) | (with_reducible refine Ext.trans ?_ (by assumption))))⟩
    · have hk0 : ((kd : Int) == 0) = false := by simp; omega
      have hcase : kd = 2 ∨ kd = 5 ∨ (((kd : Int) == 2) = false ∧ ((kd : Int) == 5) = false ∧ (kd == 2 || kd == 5) = false) := by
        by_cases h2 : kd = 2
        · exact .inl h2
        · by_cases h5 : kd = 5
          · exact .inr (.inl h5)
          · refine .inr (.inr ⟨by simp; omega, by simp; omega, ?_⟩)
            rw [show (kd == 2) = false by simp [h2], show (kd == 5) = false by simp [h5]]; rfl
      have HF := Lib.hid hnum
      have HO0 := Lib.hid HO
      clear hnum HO
      rcases hcase with rfl | rfl | ⟨g2, g5, g6⟩
      · obtain rfl : nm = true := by rw [HNK.out]; rfl
        clear h0 hk0 hkd HNK
        cases sn with
        | false =>
          go_enter Try.func110, Try.ntmps110
          (go_wp2_with fail; (with_reducible refine (K1 _).mono ?_); rintro e w' ⟨rfl, hx1⟩)
          (go_wp2_with fail; (with_reducible refine (K2 _).mono ?_); rintro e w' ⟨rfl, rfl⟩)
          (go_wp2_with fail; (with_reducible refine (kindOne _).mono ?_); rintro e w' ⟨rfl, rfl⟩)
          (go_wp2_with fail; (with_reducible refine (K2 _).mono ?_); rintro e w' ⟨rfl, rfl⟩)
          (go_wp2_with fail; (with_reducible refine (K0 _).mono ?_); rintro e w' ⟨rfl, hx2⟩)
          go_wp2
          go_ret
          exact ⟨by rw [HE.out]; simp, (by repeat' (first | (with_reducible exact Ext.refl _) | (with_reducible assumption) | (with_reducible refine Ext.alloc ?_ _) | (with_reducible refine Ext.drew ?_) | (with_reducible refine Ext.drewN ?_ _) | (with_reducible refine Ext.setCell ?_ (by first | exact Nat.le_refl _ | (simp; done) | (simp; omega) | omega) _) | (with_reducible refine Ext.trans ?_ (by assumption))))⟩
        | true =>
          go_enter Try.func110, Try.ntmps110
          (go_wp2_with fail; (with_reducible refine (K1 _).mono ?_); rintro e w' ⟨rfl, hx1⟩)
          (go_wp2_with fail; (with_reducible refine (K2 _).mono ?_); rintro e w' ⟨rfl, rfl⟩)
          (go_wp2_with fail; (with_reducible refine (kindOne _).mono ?_); rintro e w' ⟨rfl, rfl⟩)
          (go_wp2_with fail; (with_reducible refine (K2 _).mono ?_); rintro e w' ⟨rfl, rfl⟩)
          (go_wp2_with fail; (with_reducible refine (K0 _).mono ?_); rintro e w' ⟨rfl, hx2⟩)
          have hxx : Ext w w' := ((by repeat' (first | (with_reducible exact Ext.refl _) | (with_reducible assumption) | (with_reducible refine Ext.alloc ?_ _) | (with_reducible refine Ext.drew ?_) | (with_reducible refine Ext.drewN ?_ _) | (with_reducible refine Ext.setCell ?_ (by first | exact Nat.le_refl _ | (simp; done) | (simp; omega) | omega) _) | (with_reducible refine Ext.trans ?_ (by assumption)))))
          by_cases d1 : 0 ≤ d
          · by_cases d2 : d ≤ 10000
            · have hdb := Lib.hid (show dayB d = true from (dayB_iff d).2 ⟨d1, d2⟩)
              rw [hdb.out] at HE
              have d3 := Lib.hid (And.intro d1 d2)
              rcases HF.out with ⟨rfl, rfl, rfl⟩ | ⟨o, rfl, rfl, rfl⟩
              · (go_wp2_with fail; (with_reducible refine (K3 _).mono ?_); rintro e w' ⟨rfl, hx3⟩)
                (go_wp2_with fail; (with_reducible refine (K4 _).mono ?_); rintro e w' ⟨a, c, rfl, hnc, hcm, hr, hx4⟩)
                (go_wp2_with fail; (with_reducible refine (H5 _ _ _ hr hnc hcm).mono ?_); rintro e w' ⟨rfl, hx5⟩)
                go_wp2
                go_ret
                exact ⟨by rw [HE.out]; simp, (by repeat' (first | (with_reducible exact Ext.refl _) | (with_reducible assumption) | (with_reducible refine Ext.alloc ?_ _) | (with_reducible refine Ext.drew ?_) | (with_reducible refine Ext.drewN ?_ _) | (with_reducible refine Ext.setCell ?_ (by first | exact Nat.le_refl _ | (simp; done) | (simp; omega) | omega) _) | (with_reducible refine Ext.trans ?_ (by assumption))))⟩
              · have HO1 := fun w' => HO0.out o w' rfl
                have h2 := checked_two o
                generalize o.val = ov at *
                generalize o.checked = ck at *
                cases hof : o.formed with
                | true =>
                  rw [hof] at h2 HE
                  (go_wp2_with fail; (with_reducible refine (K3 _).mono ?_); rintro e w' ⟨rfl, hx3⟩)
                  (go_wp2_with fail; (with_reducible refine (HO1 _).mono ?_); rintro e w' ⟨rfl, hx4⟩)
                  (go_wp2_with fail; (with_reducible refine (K4 _).mono ?_); rintro e w' ⟨a, c, rfl, hnc, hcm, hr, hx5⟩)
                  (go_wp2_with fail; (with_reducible refine (H5 _ _ _ hr hnc hcm).mono ?_); rintro e w' ⟨rfl, hx6⟩)
                  go_wp2
                  go_ret
                  exact ⟨by rw [HE.out]; simp, (by repeat' (first | (with_reducible exact Ext.refl _) | (with_reducible assumption) | (with_reducible refine Ext.alloc ?_ _) | (with_reducible refine Ext.drew ?_) | (with_reducible refine Ext.drewN ?_ _) | (with_reducible refine Ext.setCell ?_ (by first | exact Nat.le_refl _ | (simp; done) | (simp; omega) | omega) _) | (with_reducible refine Ext.trans ?_ (by assumption))))⟩
                | false =>
                  rw [hof] at h2 HE
                  (go_wp2_with fail; (with_reducible refine (K3 _).mono ?_); rintro e w' ⟨rfl, hx3⟩)
                  (go_wp2_with fail; (with_reducible refine (HO1 _).mono ?_); rintro e w' ⟨rfl, hx4⟩)
                  go_wp2
                  go_ret
                  exact ⟨by rw [HE.out]; simp, (by repeat' (first | (with_reducible exact Ext.refl _) | (with_reducible assumption) | (with_reducible refine Ext.alloc ?_ _) | (with_reducible refine Ext.drew ?_) | (with_reducible refine Ext.drewN ?_ _) | (with_reducible refine Ext.setCell ?_ (by first | exact Nat.le_refl _ | (simp; done) | (simp; omega) | omega) _) | (with_reducible refine Ext.trans ?_ (by assumption))))⟩
            · have hdb := Lib.hid (show dayB d = false from bool_no (dayB_iff d) (by omega))
              rw [hdb.out] at HE
              go_wp2
              go_ret
              exact ⟨by rw [HE.out]; simp, (by repeat' (first | (with_reducible exact Ext.refl _) | (with_reducible assumption) | (with_reducible refine Ext.alloc ?_ _) | (with_reducible refine Ext.drew ?_) | (with_reducible refine Ext.drewN ?_ _) | (with_reducible refine Ext.setCell ?_ (by first | exact Nat.le_refl _ | (simp; done) | (simp; omega) | omega) _) | (with_reducible refine Ext.trans ?_ (by assumption))))⟩
          · have hdb := Lib.hid (show dayB d = false from bool_no (dayB_iff d) (by omega))
            rw [hdb.out] at HE
            go_wp2
            go_ret
            exact ⟨by rw [HE.out]; simp, (by repeat' (first | (with_reducible exact Ext.refl _) | (with_reducible assumption) | (with_reducible refine Ext.alloc ?_ _) | (with_reducible refine Ext.drew ?_) | (with_reducible refine Ext.drewN ?_ _) | (with_reducible refine Ext.setCell ?_ (by first | exact Nat.le_refl _ | (simp; done) | (simp; omega) | omega) _) | (with_reducible refine Ext.trans ?_ (by assumption))))⟩
      · obtain rfl : nm = true := by rw [HNK.out]; rfl
        clear h0 hk0 hkd HNK
        cases sn with
        | false =>
          go_enter Try.func110, Try.ntmps110
          (go_wp2_with fail; (with_reducible refine (K1 _).mono ?_); rintro e w' ⟨rfl, hx1⟩)
          (go_wp2_with fail; (with_reducible refine (K2 _).mono ?_); rintro e w' ⟨rfl, rfl⟩)
          (go_wp2_with fail; (with_reducible refine (kindOne _).mono ?_); rintro e w' ⟨rfl, rfl⟩)
          (go_wp2_with fail; (with_reducible refine (K2 _).mono ?_); rintro e w' ⟨rfl, rfl⟩)
          (go_wp2_with fail; (with_reducible refine (kindOr _).mono ?_); rintro e w' ⟨rfl, rfl⟩)
          (go_wp2_with fail; (with_reducible refine (K2 _).mono ?_); rintro e w' ⟨rfl, rfl⟩)
          (go_wp2_with fail; (with_reducible refine (K0 _).mono ?_); rintro e w' ⟨rfl, hx2⟩)
          go_wp2
          go_ret
          exact ⟨by rw [HE.out]; simp, (by repeat' (first | (with_reducible exact Ext.refl _) | (with_reducible assumption) | (with_reducible refine Ext.alloc ?_ _) | (with_reducible refine Ext.drew ?_) | (with_reducible refine Ext.drewN ?_ _) | (with_reducible refine Ext.setCell ?_ (by first | exact Nat.le_refl _ | (simp; done) | (simp; omega) | omega) _) | (with_reducible refine Ext.trans ?_ (by assumption))))⟩
        | true =>
          go_enter Try.func110, Try.ntmps110
          (go_wp2_with fail; (with_reducible refine (K1 _).mono ?_); rintro e w' ⟨rfl, hx1⟩)
          (go_wp2_with fail; (with_reducible refine (K2 _).mono ?_); rintro e w' ⟨rfl, rfl⟩)
          (go_wp2_with fail; (with_reducible refine (kindOne _).mono ?_); rintro e w' ⟨rfl, rfl⟩)
          (go_wp2_with fail; (with_reducible refine (K2 _).mono ?_); rintro e w' ⟨rfl, rfl⟩)
          (go_wp2_with fail; (with_reducible refine (kindOr _).mono ?_); rintro e w' ⟨rfl, rfl⟩)
          (go_wp2_with fail; (with_reducible refine (K2 _).mono ?_); rintro e w' ⟨rfl, rfl⟩)
          (go_wp2_with fail; (with_reducible refine (K0 _).mono ?_); rintro e w' ⟨rfl, hx2⟩)
          have hxx : Ext w w' := ((by repeat' (first | (with_reducible exact Ext.refl _) | (with_reducible assumption) | (with_reducible refine Ext.alloc ?_ _) | (with_reducible refine Ext.drew ?_) | (with_reducible refine Ext.drewN ?_ _) | (with_reducible refine Ext.setCell ?_ (by first | exact Nat.le_refl _ | (simp; done) | (simp; omega) | omega) _) | (with_reducible refine Ext.trans ?_ (by assumption)))))
          by_cases d1 : 0 ≤ d
          · by_cases d2 : d ≤ 10000
            · have hdb := Lib.hid (show dayB d = true from (dayB_iff d).2 ⟨d1, d2⟩)
              rw [hdb.out] at HE
              have d3 := Lib.hid (And.intro d1 d2)
              rcases HF.out with ⟨rfl, rfl, rfl⟩ | ⟨o, rfl, rfl, rfl⟩
              · (go_wp2_with fail; (with_reducible refine (K3 _).mono ?_); rintro e w' ⟨rfl, hx3⟩)
                (go_wp2_with fail; (with_reducible refine (K4 _).mono ?_); rintro e w' ⟨a, c, rfl, hnc, hcm, hr, hx4⟩)
                (go_wp2_with fail; (with_reducible refine (H5 _ _ _ hr hnc hcm).mono ?_); rintro e w' ⟨rfl, hx5⟩)
                go_wp2
                go_ret
                exact ⟨by rw [HE.out]; simp, (by repeat' (first | (with_reducible exact Ext.refl _) | (with_reducible assumption) | (with_reducible refine Ext.alloc ?_ _) | (with_reducible refine Ext.drew ?_) | (with_reducible refine Ext.drewN ?_ _) | (with_reducible refine Ext.setCell ?_ (by first | exact Nat.le_refl _ | (simp; done) | (simp; omega) | omega) _) | (with_reducible refine Ext.trans ?_ (by assumption))))⟩
              · have HO1 := fun w' => HO0.out o w' rfl
                have h2 := checked_two o
                generalize o.val = ov at *
                generalize o.checked = ck at *
                cases hof : o.formed with
                | true =>
                  rw [hof] at h2 HE
                  (go_wp2_with fail; (with_reducible refine (K3 _).mono ?_); rintro e w' ⟨rfl, hx3⟩)
                  (go_wp2_with fail; (with_reducible refine (HO1 _).mono ?_); rintro e w' ⟨rfl, hx4⟩)
                  (go_wp2_with fail; (with_reducible refine (K4 _).mono ?_); rintro e w' ⟨a, c, rfl, hnc, hcm, hr, hx5⟩)
                  (go_wp2_with fail; (with_reducible refine (H5 _ _ _ hr hnc hcm).mono ?_); rintro e w' ⟨rfl, hx6⟩)
                  go_wp2
                  go_ret
                  exact ⟨by rw [HE.out]; simp, (by repeat' (first | (with_reducible exact Ext.refl _) | (with_reducible assumption) | (with_reducible refine Ext.alloc ?_ _) | (with_reducible refine Ext.drew ?_) | (with_reducible refine Ext.drewN ?_ _) | (with_reducible refine Ext.setCell ?_ (by first | exact Nat.le_refl _ | (simp; done) | (simp; omega) | omega) _) | (with_reducible refine Ext.trans ?_ (by assumption))))⟩
                | false =>
                  rw [hof] at h2 HE
                  (go_wp2_with fail; (with_reducible refine (K3 _).mono ?_); rintro e w' ⟨rfl, hx3⟩)
                  (go_wp2_with fail; (with_reducible refine (HO1 _).mono ?_); rintro e w' ⟨rfl, hx4⟩)
                  go_wp2
                  go_ret
                  exact ⟨by rw [HE.out]; simp, (by repeat' (first | (with_reducible exact Ext.refl _) | (with_reducible assumption) | (with_reducible refine Ext.alloc ?_ _) | (with_reducible refine Ext.drew ?_) | (with_reducible refine Ext.drewN ?_ _) | (with_reducible refine Ext.setCell ?_ (by first | exact Nat.le_refl _ | (simp; done) | (simp; omega) | omega) _) | (with_reducible refine Ext.trans ?_ (by assumption))))⟩
            · have hdb := Lib.hid (show dayB d = false from bool_no (dayB_iff d) (by omega))
              rw [hdb.out] at HE
              go_wp2
              go_ret
              exact ⟨by rw [HE.out]; simp, (by repeat' (first | (with_reducible exact Ext.refl _) | (with_reducible assumption) | (with_reducible refine Ext.alloc ?_ _) | (with_reducible refine Ext.drew ?_) | (with_reducible refine Ext.drewN ?_ _) | (with_reducible refine Ext.setCell ?_ (by first | exact Nat.le_refl _ | (simp; done) | (simp; omega) | omega) _) | (with_reducible refine Ext.trans ?_ (by assumption))))⟩
          · have hdb := Lib.hid (show dayB d = false from bool_no (dayB_iff d) (by omega))
            rw [hdb.out] at HE
            go_wp2
            go_ret
            exact ⟨by rw [HE.out]; simp, (by repeat' (first | (with_reducible exact Ext.refl _) | (with_reducible assumption) | (with_reducible refine Ext.alloc ?_ _) | (with_reducible refine Ext.drew ?_) | (with_reducible refine Ext.drewN ?_ _) | (with_reducible refine Ext.setCell ?_ (by first | exact Nat.le_refl _ | (simp; done) | (simp; omega) | omega) _) | (with_reducible refine Ext.trans ?_ (by assumption))))⟩
      · obtain rfl : nm = false := by rw [HNK.out]; exact g6
        have hk1 := Lib.hid (show decide (kd ≠ 0) = true by simpa using h0)
        rw [hk1.out] at HE
        clear h0 HNK g6
        go_enter Try.func110, Try.ntmps110
        (go_wp2_with fail; (with_reducible refine (K1 _).mono ?_); rintro e w' ⟨rfl, hx1⟩)
        (go_wp2_with fail; (with_reducible refine (K2 _).mono ?_); rintro e w' ⟨rfl, rfl⟩)
        (go_wp2_with fail; (with_reducible refine (kindOne _).mono ?_); rintro e w' ⟨rfl, rfl⟩)
        (go_wp2_with fail; (with_reducible refine (K2 _).mono ?_); rintro e w' ⟨rfl, rfl⟩)
        (go_wp2_with fail; (with_reducible refine (kindOr _).mono ?_); rintro e w' ⟨rfl, rfl⟩)
        (go_wp2_with fail; (with_reducible refine (K2 _).mono ?_); rintro e w' ⟨rfl, rfl⟩)
        have hxx : Ext w w' := ((by repeat' (first | (with_reducible exact Ext.refl _) | (with_reducible assumption) | (with_reducible refine Ext.alloc ?_ _) | (with_reducible refine Ext.drew ?_) | (with_reducible refine Ext.drewN ?_ _) | (with_reducible refine Ext.setCell ?_ (by first | exact Nat.le_refl _ | (simp; done) | (simp; omega) | omega) _) | (with_reducible refine Ext.trans ?_ (by assumption)))))
        by_cases d1 : 0 ≤ d
        · by_cases d2 : d ≤ 10000
          · have hdb := Lib.hid (show dayB d = true from (dayB_iff d).2 ⟨d1, d2⟩)
            rw [hdb.out] at HE
            have d3 := Lib.hid (And.intro d1 d2)
            rcases HF.out with ⟨rfl, rfl, rfl⟩ | ⟨o, rfl, rfl, rfl⟩
            · (go_wp2_with fail; (with_reducible refine (K3 _).mono ?_); rintro e w' ⟨rfl, hx3⟩)
              (go_wp2_with fail; (with_reducible refine (K4 _).mono ?_); rintro e w' ⟨a, c, rfl, hnc, hcm, hr, hx4⟩)
              (go_wp2_with fail; (with_reducible refine (H5 _ _ _ hr hnc hcm).mono ?_); rintro e w' ⟨rfl, hx5⟩)
              go_wp2
              go_ret
              exact ⟨by rw [HE.out]; simp, (by repeat' (first | (with_reducible exact Ext.refl _) | (with_reducible assumption) | (with_reducible refine Ext.alloc ?_ _) | (with_reducible refine Ext.drew ?_) | (with_reducible refine Ext.drewN ?_ _) | (with_reducible refine Ext.setCell ?_ (by first | exact Nat.le_refl _ | (simp; done) | (simp; omega) | omega) _) | (with_reducible refine Ext.trans ?_ (by assumption))))⟩
            · have HO1 := fun w' => HO0.out o w' rfl
              have h2 := checked_two o
              generalize o.val = ov at *
              generalize o.checked = ck at *
              cases hof : o.formed with
              | true =>
                rw [hof] at h2 HE
                (go_wp2_with fail; (with_reducible refine (K3 _).mono ?_); rintro e w' ⟨rfl, hx3⟩)
                (go_wp2_with fail; (with_reducible refine (HO1 _).mono ?_); rintro e w' ⟨rfl, hx4⟩)
                (go_wp2_with fail; (with_reducible refine (K4 _).mono ?_); rintro e w' ⟨a, c, rfl, hnc, hcm, hr, hx5⟩)
                (go_wp2_with fail; (with_reducible refine (H5 _ _ _ hr hnc hcm).mono ?_); rintro e w' ⟨rfl, hx6⟩)
                go_wp2
                go_ret
                exact ⟨by rw [HE.out]; simp, (by repeat' (first | (with_reducible exact Ext.refl _) | (with_reducible assumption) | (with_reducible refine Ext.alloc ?_ _) | (with_reducible refine Ext.drew ?_) | (with_reducible refine Ext.drewN ?_ _) | (with_reducible refine Ext.setCell ?_ (by first | exact Nat.le_refl _ | (simp; done) | (simp; omega) | omega) _) | (with_reducible refine Ext.trans ?_ (by assumption))))⟩
              | false =>
                rw [hof] at h2 HE
                (go_wp2_with fail; (with_reducible refine (K3 _).mono ?_); rintro e w' ⟨rfl, hx3⟩)
                (go_wp2_with fail; (with_reducible refine (HO1 _).mono ?_); rintro e w' ⟨rfl, hx4⟩)
                go_wp2
                go_ret
                exact ⟨by rw [HE.out]; simp, (by repeat' (first | (with_reducible exact Ext.refl _) | (with_reducible assumption) | (with_reducible refine Ext.alloc ?_ _) | (with_reducible refine Ext.drew ?_) | (with_reducible refine Ext.drewN ?_ _) | (with_reducible refine Ext.setCell ?_ (by first | exact Nat.le_refl _ | (simp; done) | (simp; omega) | omega) _) | (with_reducible refine Ext.trans ?_ (by assumption))))⟩
          · have hdb := Lib.hid (show dayB d = false from bool_no (dayB_iff d) (by omega))
            rw [hdb.out] at HE
            go_wp2
            go_ret
            exact ⟨by rw [HE.out]; simp, (by repeat' (first | (with_reducible exact Ext.refl _) | (with_reducible assumption) | (with_reducible refine Ext.alloc ?_ _) | (with_reducible refine Ext.drew ?_) | (with_reducible refine Ext.drewN ?_ _) | (with_reducible refine Ext.setCell ?_ (by first | exact Nat.le_refl _ | (simp; done) | (simp; omega) | omega) _) | (with_reducible refine Ext.trans ?_ (by assumption))))⟩
        · have hdb := Lib.hid (show dayB d = false from bool_no (dayB_iff d) (by omega))
          rw [hdb.out] at HE
          go_wp2
          go_ret
          exact ⟨by rw [HE.out]; simp, (by repeat' (first | (with_reducible exact Ext.refl _) | (with_reducible assumption) | (with_reducible refine Ext.alloc ?_ _) | (with_reducible refine Ext.drew ?_) | (with_reducible refine Ext.drewN ?_ _) | (with_reducible refine Ext.setCell ?_ (by first | exact Nat.le_refl _ | (simp; done) | (simp; omega) | omega) _) | (with_reducible refine Ext.trans ?_ (by assumption))))⟩

end Go.Proofs.Ytgjjngkmbplijaa

/- Package term: Labels, Check; the law's 'wakes'. -/
namespace Go.Proofs.Ytgjjngkmbplijaa
open Go.RowKit
set_option linter.unusedSimpArgs false
set_option linter.unusedVariables false

def Te.labels : Te → List ByteArray
  | .or s l r => [s] ++ (l.labels ++ r.labels)
  | .give t => t.labels
  | .and l r => l.labels ++ r.labels
  | .scale _ t => t.labels
  | .whn _ t => t.labels
  | .cond _ l r => l.labels ++ r.labels
  | _ => []
def labelsOf (l : List Te) : List ByteArray := l.flatMap Te.labels
def Te.ownL : Te → List ByteArray
  | .or s _ _ => [s]
  | _ => []
theorem Te.labels_eq (t : Te) : t.labels = t.ownL ++ labelsOf t.kids := by
  cases t <;> simp [Te.labels, Te.ownL, labelsOf, Te.kids]
theorem labelsOf_snoc (l : List Te) (k : Te) : labelsOf (l ++ [k]) = labelsOf l ++ k.labels := by simp [labelsOf]
theorem Te.labels_len (t : Te) : t.labels.length ≤ t.nodes := by
  induction t <;> simp only [Te.labels, Te.nodes, List.length_append, List.length_cons, List.length_nil] <;> omega
theorem labelsOf_len (l : List Te) : (labelsOf l).length ≤ sumT l := by
  induction l with
  | nil => simp [labelsOf]
  | cons k r ih => have := k.labels_len; simp only [labelsOf, sumT, List.flatMap_cons, List.length_append, List.map_cons, List.sum_cons] at *; omega
def Te.isOr : Te → Bool
  | .or _ _ _ => true
  | _ => false
theorem Te.form_noor {t : Te} (h : t.wf) (hf : t.isOr = false) : (t.val = .nilIface ∨ ∃ k x, t.val = .iface k x ∧ k ≠ 104) ∧ t.ownL = [] := by
  cases t with
  | odd v => rcases h with rfl | ⟨t, x, rfl, h1, h2, h3, h4, h5, _⟩
             · exact ⟨.inl rfl, rfl⟩
             · exact ⟨.inr ⟨t, x, rfl, h5⟩, rfl⟩
  | or s l r => simp [Te.isOr] at hf
  | _ => exact ⟨.inr ⟨_, _, rfl, by decide⟩, rfl⟩
theorem Te.form_or {t : Te} (h : t.wf) (hf : t.isOr = true) : ∃ s l r, t = .or s l r ∧ l.wf ∧ r.wf ∧ s.size ≤ 1000 := by
  cases t <;> simp [Te.isOr] at hf
  exact ⟨_, _, _, rfl, h.2.1, h.2.2, h.1⟩

theorem NRel.putAll {w wr wr' : World} {v kv : Value} {L N : List ByteArray} {e : TypeId} {nk : Nat} {xs : List Value} (h : NRel w wr v kv L e nk xs) {v1 : Value} (h1 : wr'.ownsRow w.heap.size 9 1 v1 (L.length + N.length) (strVals L ++ strVals N)) (hg : wr.grownBy wr' v.ownBlock) (hat : v1.ownBlock = v.ownBlock ∨ v1.ownBlock = some wr.heap.size) :
    NRel w wr' v1 kv (L ++ N) e nk xs := by
  refine ⟨by rw [strVals_app, List.length_append]; exact h1, h.kids.kept hg h.ne, ?_, h.ext.grown hg (fun k hk => (h.own.lt k hk).1)⟩
  rcases hat with h2 | h2 <;> rw [h2]
  · exact h.ne
  · cases hk : kv.ownBlock with
    | none => exact .inl rfl
    | some g => exact .inr (fun h3 => by injection h3 with h3; have := (h.kids.lt g hk).2; omega)

set_option maxRecDepth 100000 in
set_option maxHeartbeats 1600000 in
theorem tlabels_calls (k : Nat) : ∀ (t : Te) (w : World), SizeOf.sizeOf t < k → t.wf → t.nodes ≤ 2 ^ 32 → Calls Try.prog 75 #[t.val] w fun e w' => RetOwn w 9 1 t.labels.length (strVals t.labels) e w' := by
  induction k with
  | zero => intro o w h; omega
  | succ k ih =>
    intro t w hk hwf hn
    have H2 := fun w' => tkids_own t w' hwf
    have HN := Lib.hid (Te.labels_eq t)
    have HK := fun (i : Nat) (h : i < t.kids.length) => tkids_at (o := t) h
    have hsum : sumT t.kids ≤ 2 ^ 32 := Nat.le_trans t.sumT_le hn
    have HR : ∀ (k' : Te) (w' : World), k' ∈ t.kids → Calls Try.prog 75 #[k'.val] w' fun e w'' => RetOwn w' 9 1 k'.labels.length (strVals k'.labels) e w'' := fun k' w' hm => ih k' w' (by have := Te.kids_size hm; omega) (Te.kids_wf hwf hm) (by
      have h1 := sumT_mem hm
      omega)
    have HT := Lib.hid (fun i => Nat.le_trans (sumT_take t.kids i) hsum)
    have hol : t.ownL.length ≤ 1 := by cases t <;> simp [Te.ownL]
    cases hor : t.isOr with
    | true =>
      obtain ⟨s, l, r, e0, hl, hr, hs⟩ := Te.form_or hwf hor
      have hown : t.ownL = [s] := by rw [e0]; rfl
      have hval : t.val = .iface 104 (.agg #[.string s, l.val, r.val]) := by rw [e0]; rfl
      clear ih hk hn hwf hsum e0
      rw [hown] at HN
      rw [hval] at H2 ⊢
      clear hval
      generalize t.labels = NN at *
      have hf1 := Te.form hl
      have hf2 := Te.form hr
      generalize l.val = lv at *
      generalize r.val = rv at *
      rcases hf1 with rfl | ⟨t1, x1, rfl⟩ <;> rcases hf2 with rfl | ⟨t2, x2, rfl⟩
      all_goals
        go_enter Try.func75, Try.ntmps75
        go_wp2_with (at_builtin; (refine wpList_app elemStr rfl _ _ rfl w.heap.size (.slice none 0 0) 0 [] rfl (World.ownsRow_nil _ _ _ _) (some ⟨w.heap.size + 1, 0, none⟩) 1 1 [.string s] rfl (Rd.newAt (by simp) rfl rfl) (by simp [Value.oneCell']) (by unfold maxLen; omega) (by omega) (by simp +arith) ?_); intro v1 w1 hown1 hg1 hat1)
        have hE1 : Ext w w1 := ((((Ext.refl w).alloc _).alloc _)).grown hg1 (fun k hk => by simp [Value.ownBlock] at hk)
        simp only [Nat.zero_add, List.nil_append] at hown1
        obtain ⟨A6, C6, rfl, h6, h7⟩ := own_form hown1
        have hown6 := Lib.hid hown1
        clear hown1 hg1 hat1
        (go_wp2_with fail; (with_reducible refine (H2 _).mono ?_); rintro e w' ⟨kv, rfl, hko, hx⟩)
        clear H2
        obtain ⟨A, C, rfl, hnc, hcm⟩ := own_form hko
        have hrel0 := Lib.hid (show NRel w w' (.slice A6 1 C6) (.slice A t.kids.length C) [s] 97 t.kids.length (teVals t.kids) from
          ⟨hx.own hown6.out, own_mono hko hE1.le, (by
            cases hk2 : (Value.slice A t.kids.length C).ownBlock with
            | none => exact .inl rfl
            | some g =>
              refine .inr fun h3 => ?_
              have h1 := (hko.lt g hk2).1
              have h2 := (hown6.out.lt g h3.symm).2
              omega), hE1.trans hx⟩)
        clear hko hx hown6
        unfold maxLen at hcm
        go_wp2_with fail
        go_loopw [22, 3] (fun i out wr => ∃ (j : Nat) (A1 : Option Addr) (C1 : Nat) (L : List ByteArray), j ≤ t.kids.length ∧ i = .int .i64 j ∧ out = .slice A1 L.length C1 ∧ L = [s] ++ labelsOf (t.kids.take j) ∧ NRel w wr (.slice A1 L.length C1) (.slice A t.kids.length C) L 97 t.kids.length (teVals t.kids)) (fun i _ _ => t.kids.length - (intOf i).toNat)
        case atStart => exact ⟨0, _, _, [s], by omega, rfl, rfl, by simp [labelsOf], hrel0.out⟩
        case round =>
          obtain ⟨j, A1, C1, L, hj, rfl, rfl, hL, hrel⟩ := hrel
          clear hrel0
          by_cases hlt : j < t.kids.length
          · obtain ⟨k', e1, hm, htk, hv⟩ := HK j hlt
            obtain ⟨ad, u, rfl, hu, hc⟩ := (Rd.of_own hrel.kids).at1 hlt
            obtain rfl : k'.val = u := by rw [hv] at hu; injection hu
            have HRk := fun w' => HR k' w' hm
            have hb := HT.out (j + 1)
            have hS : [s] ++ labelsOf (t.kids.take (j + 1)) = L ++ k'.labels := by rw [htk, labelsOf_snoc, hL, List.append_assoc]
            have hS0 := Lib.hid hS
            have hj0 := Lib.hid (show j + 1 ≤ t.kids.length from hlt)
            have hb0 : L.length + k'.labels.length ≤ 2 ^ 33 := by
              have h1 := labelsOf_len (t.kids.take j)
              have h2 := k'.labels_len
              have h3 : L.length ≤ 1 + (labelsOf (t.kids.take j)).length := by rw [hL, List.length_append]; simp only [List.length_cons, List.length_nil]; omega
              rw [htk, sumT_snoc] at hb
              omega
            have hrel1 := Lib.hid hrel
            clear hv hu HK HR e1 htk hm hS HT hL hrel hb
            generalize k'.labels = N at *
            generalize k'.val = v1 at *
            (go_wp2_with fail; (with_reducible refine (HRk _).mono ?_); rintro e w' ⟨nv, rfl, hno, hx4⟩)
            clear HRk
            obtain ⟨A2, C2, rfl, hn1, hn2⟩ := own_form hno
            have hrel := hrel1.out.go hx4
            have hrd := Rd.of_own hno
            have h63 : L.length + N.length ≤ maxLen := by unfold maxLen; omega
            have hby : (L.length + N.length) * 16 ≤ 140737488355328 := by omega
            clear hno hn1 hn2
            go_wp2_with (at_builtin; refine wpList_app elemStr rfl _ _ rfl w.heap.size (.slice A1 L.length C1) L.length (strVals L) rfl hrel.own A2 N.length C2 (strVals N) rfl hrd (strVals_one N) h63 hby hrel.ext.le ?_; intro v1 w1 hown1 hg1 hat1)
            have hq := Lib.hid (hrel.putAll hown1 hg1 hat1)
            obtain ⟨A6, C6, rfl, h6, h7⟩ := own_form hown1
            have e7 := Lib.hid (show (L ++ N).length = L.length + N.length by simp)
            clear hown1 hg1 hat1 h63 hby hrd hrel
            go_wp2_with fail
            go_roundw
            case rel => exact ⟨j + 1, A6, C6, L ++ N, hj0.out, by go_num, by rw [e7.out], hS0.out.symm, by rw [e7.out]; exact hq.out⟩
            case measure => simp [intOf]; omega
          · obtain rfl : j = t.kids.length := by omega
            rw [List.take_length, ← HN.out] at hL
            subst hL
            clear HK HR
            go_wp2
            apply bodyPost_ret
            · exact results_tmp rfl _ _ _
            · rfl
            exact ⟨_, rfl, hrel.own, hrel.ext⟩
    | false =>
      obtain ⟨hform, hown⟩ := Te.form_noor hwf hor
      clear ih hk hn hwf hsum
      rw [hown] at HN
      generalize t.labels = NN at *
      generalize Te.val t = v at *
      rcases hform with rfl | ⟨ty, x, rfl, ht⟩
      all_goals
        go_enter Try.func75, Try.ntmps75
        (go_wp2_with fail; (with_reducible refine (H2 _).mono ?_); rintro e w' ⟨kv, rfl, hko, hx⟩)
        clear H2
        obtain ⟨A, C, rfl, hnc, hcm⟩ := own_form hko
        have hrel0 := Lib.hid (show NRel w w' (.slice none 0 0) (.slice A t.kids.length C) [] 97 t.kids.length (teVals t.kids) from
          ⟨World.ownsRow_nil _ _ _ _, own_mono hko (by simp +arith), (by cases A with | none => exact .inl rfl | some a => exact .inr (by simp [Value.ownBlock])), ((by repeat' (first | (with_reducible exact Ext.refl _) | (with_reducible assumption) | (with_reducible refine Ext.alloc ?_ _) | (with_reducible refine Ext.drew ?_) | (with_reducible refine Ext.drewN ?_ _) | (with_reducible refine Ext.setCell ?_ (by first | exact Nat.le_refl _ | (simp; done) | (simp; omega) | omega) _) | (with_reducible refine Ext.trans ?_ (by assumption)))))⟩)
        clear hko hx
        unfold maxLen at hcm
        go_wp2_with fail
        go_loopw [22, 3] (fun i out wr => ∃ (j : Nat) (A1 : Option Addr) (C1 : Nat) (L : List ByteArray), j ≤ t.kids.length ∧ i = .int .i64 j ∧ out = .slice A1 L.length C1 ∧ L = ([] : List ByteArray) ++ labelsOf (t.kids.take j) ∧ NRel w wr (.slice A1 L.length C1) (.slice A t.kids.length C) L 97 t.kids.length (teVals t.kids)) (fun i _ _ => t.kids.length - (intOf i).toNat)
        case atStart => exact ⟨0, _, _, ([] : List ByteArray), by omega, rfl, rfl, by simp [labelsOf], hrel0.out⟩
        case round =>
          obtain ⟨j, A1, C1, L, hj, rfl, rfl, hL, hrel⟩ := hrel
          clear hrel0
          by_cases hlt : j < t.kids.length
          · obtain ⟨k', e1, hm, htk, hv⟩ := HK j hlt
            obtain ⟨ad, u, rfl, hu, hc⟩ := (Rd.of_own hrel.kids).at1 hlt
            obtain rfl : k'.val = u := by rw [hv] at hu; injection hu
            have HRk := fun w' => HR k' w' hm
            have hb := HT.out (j + 1)
            have hS : ([] : List ByteArray) ++ labelsOf (t.kids.take (j + 1)) = L ++ k'.labels := by rw [htk, labelsOf_snoc, hL, List.append_assoc]
            have hS0 := Lib.hid hS
            have hj0 := Lib.hid (show j + 1 ≤ t.kids.length from hlt)
            have hb0 : L.length + k'.labels.length ≤ 2 ^ 33 := by
              have h1 := labelsOf_len (t.kids.take j)
              have h2 := k'.labels_len
              have h3 : L.length ≤ 1 + (labelsOf (t.kids.take j)).length := by rw [hL, List.length_append]; simp only [List.length_cons, List.length_nil]; omega
              rw [htk, sumT_snoc] at hb
              omega
            have hrel1 := Lib.hid hrel
            clear hv hu HK HR e1 htk hm hS HT hL hrel hb
            generalize k'.labels = N at *
            generalize k'.val = v1 at *
            (go_wp2_with fail; (with_reducible refine (HRk _).mono ?_); rintro e w' ⟨nv, rfl, hno, hx4⟩)
            clear HRk
            obtain ⟨A2, C2, rfl, hn1, hn2⟩ := own_form hno
            have hrel := hrel1.out.go hx4
            have hrd := Rd.of_own hno
            have h63 : L.length + N.length ≤ maxLen := by unfold maxLen; omega
            have hby : (L.length + N.length) * 16 ≤ 140737488355328 := by omega
            clear hno hn1 hn2
            go_wp2_with (at_builtin; refine wpList_app elemStr rfl _ _ rfl w.heap.size (.slice A1 L.length C1) L.length (strVals L) rfl hrel.own A2 N.length C2 (strVals N) rfl hrd (strVals_one N) h63 hby hrel.ext.le ?_; intro v1 w1 hown1 hg1 hat1)
            have hq := Lib.hid (hrel.putAll hown1 hg1 hat1)
            obtain ⟨A6, C6, rfl, h6, h7⟩ := own_form hown1
            have e7 := Lib.hid (show (L ++ N).length = L.length + N.length by simp)
            clear hown1 hg1 hat1 h63 hby hrd hrel
            go_wp2_with fail
            go_roundw
            case rel => exact ⟨j + 1, A6, C6, L ++ N, hj0.out, by go_num, by rw [e7.out], hS0.out.symm, by rw [e7.out]; exact hq.out⟩
            case measure => simp [intOf]; omega
          · obtain rfl : j = t.kids.length := by omega
            rw [List.take_length, ← HN.out] at hL
            subst hL
            clear HK HR
            go_wp2
            apply bodyPost_ret
            · exact results_tmp rfl _ _ _
            · rfl
            exact ⟨_, rfl, hrel.own, hrel.ext⟩

/-- Is one of them there twice? -/
def twice (l : List ByteArray) : Bool := (List.range l.length).any fun i => (l.take i).any fun x => (l[i]?.getD ⟨#[]⟩) == x
/-- What Check answers. -/
def Te.checked (t : Te) : Int := if t.formed = true then (if 60 < t.nodes ∨ 12 < t.depth then 5 else if twice t.labels = true then 4 else 0) else 2
theorem twice_hit {l : List ByteArray} {i : Nat} {s : ByteArray} (h : l[i]? = some s) (h2 : ((l.take i).any fun x => s == x) = true) : twice l = true := by
  unfold twice
  rw [List.any_eq_true]
  exact ⟨i, List.mem_range.2 (List.getElem?_eq_some_iff.1 h).1, by rw [h]; exact h2⟩
theorem twice_no {l : List ByteArray} (h : ∀ i s, l[i]? = some s → ((l.take i).any fun x => s == x) = false) : twice l = false := by
  unfold twice
  rw [List.any_eq_false]
  intro i hi
  have hl := List.mem_range.1 hi
  have e : l[i]? = some l[i] := List.getElem?_eq_getElem hl
  rw [e]
  have := h i _ e
  simp only [Option.getD_some]
  rw [this]
  decide
theorem Te.checked_no {t : Te} (h : t.formed = false) : t.checked = 2 := by unfold Te.checked; rw [h]; rfl
theorem Te.checked_lim {t : Te} (h : t.formed = true) (h2 : 60 < t.nodes ∨ 12 < t.depth) : t.checked = 5 := by unfold Te.checked; rw [if_pos h, if_pos h2]
theorem Te.checked_tw {t : Te} (h : t.formed = true) (h2 : t.nodes ≤ 60) (h3 : t.depth ≤ 12) (h4 : twice t.labels = true) : t.checked = 4 := by unfold Te.checked; rw [if_pos h, if_neg (by omega), if_pos h4]
theorem Te.checked_ok {t : Te} (h : t.formed = true) (h2 : t.nodes ≤ 60) (h3 : t.depth ≤ 12) (h4 : twice t.labels = false) : t.checked = 0 := by unfold Te.checked; rw [if_pos h, if_neg (by omega), if_neg (by rw [h4]; decide)]

set_option maxRecDepth 100000 in
set_option maxHeartbeats 1600000 in
theorem tcheck_calls (t : Te) (w : World) (h : t.wf) (hn : t.nodes ≤ 2 ^ 32) : Calls Try.prog 64 #[t.val] w fun e w' => e = .returned (.int .i64 t.checked) ∧ Ext w w' := by
  have H1 := tform_calls _ t w (Nat.lt_succ_self _) h (by omega)
  have H2 := fun w' => tsize_calls _ t w' (Nat.lt_succ_self _) h (by omega)
  have H3 := fun w' => tlabels_calls _ t w' (Nat.lt_succ_self _) h hn
  have hd := t.depth_le
  have hll := t.labels_len
  cases hb : t.formed with
  | false =>
    have C1 := Lib.hid (Te.checked_no hb)
    rw [hb] at H1
    generalize t.val = v at *
    generalize t.checked = x at *
    clear hb
    go_enter Try.func64, Try.ntmps64
    (go_wp2_with fail; (with_reducible refine (H1).mono ?_); rintro e w' ⟨rfl, hx⟩)
    go_wp2
    go_ret
    exact ⟨by rw [C1.out]; rfl, hx⟩
  | true =>
    have C2 := Lib.hid (fun h => Te.checked_lim hb h)
    have C3 := Lib.hid (fun h h2 h3 => Te.checked_tw hb h h2 h3)
    have C4 := Lib.hid (fun h h2 h3 => Te.checked_ok hb h h2 h3)
    rw [hb] at H1
    generalize t.val = v at *
    generalize t.checked = x at *
    generalize t.nodes = n at *
    generalize t.depth = d at *
    generalize t.labels = L at *
    clear hb
    go_enter Try.func64, Try.ntmps64
    (go_wp2_with fail; (with_reducible refine (H1).mono ?_); rintro e w' ⟨rfl, hx⟩)
    (go_wp2_with fail; (with_reducible refine (H2 _).mono ?_); rintro e w' ⟨rfl, hx2⟩)
    clear H1 H2
    by_cases h1 : 60 < n
    · go_wp2
      go_ret
      exact ⟨by rw [C2.out (.inl h1)]; rfl, hx.trans hx2⟩
    · by_cases h2 : 12 < d
      · go_wp2
        go_ret
        exact ⟨by rw [C2.out (.inr h2)]; rfl, hx.trans hx2⟩
      · (go_wp2_with fail; (with_reducible refine (H3 _).mono ?_); rintro e w' ⟨lv, rfl, hlo, hx3⟩)
        obtain ⟨A, C, rfl, hnc, hcm⟩ := own_form hlo
        have hrd := Rd.of_own hlo
        have hxx : Ext w w' := ((by repeat' (first | (with_reducible exact Ext.refl _) | (with_reducible assumption) | (with_reducible refine Ext.alloc ?_ _) | (with_reducible refine Ext.drew ?_) | (with_reducible refine Ext.drewN ?_ _) | (with_reducible refine Ext.setCell ?_ (by first | exact Nat.le_refl _ | (simp; done) | (simp; omega) | omega) _) | (with_reducible refine Ext.trans ?_ (by assumption)))))
        have hcm' : C ≤ maxLen := hcm
        unfold maxLen at hcm
        clear hlo
        go_wp2_with fail
        go_loopw [26] (fun i wr => ∃ j : Nat, j ≤ L.length ∧ i = .int .i64 j ∧ Ext w wr ∧ Rd wr 1 A L.length (strVals L) ∧ ∀ i s, i < j → L[i]? = some s → ((L.take i).any fun x => s == x) = false) (fun i _ => L.length - (intOf i).toNat)
        case atStart => exact ⟨0, by omega, rfl, hxx, hrd, fun i s h => by omega⟩
        case round =>
          obtain ⟨j, hj, rfl, hx, hr, hno⟩ := hrel
          by_cases hlt : j < L.length
          · obtain ⟨s, e1, hv⟩ := strVals_at hlt
            obtain ⟨ad, u, rfl, hu, hc⟩ := hr.at1 hlt
            obtain rfl : Value.string s = u := by rw [hv] at hu; injection hu
            have hlj : (L.take j).length = j := by rw [List.length_take]; omega
            have hrt := hr.take (k := j) (by omega)
            rw [show (strVals L).take (j * 1) = strVals (L.take j) by simp [strVals]] at hrt
            have HC := fun w' (h : Ext wr w') => scontains_calls (L.take j) s (some ad) C w' (by rw [hlj]; exact hrt.ext h) (by rw [hlj]; omega) hcm'
            rw [hlj] at HC
            have hr0 := Lib.hid hr
            have e0 := Lib.hid e1
            have hj0 := Lib.hid (show j + 1 ≤ L.length from hlt)
            have hno0 := Lib.hid hno
            clear hr hv hu e1 hrt hlj hno
            generalize hq : ((L.take j).any fun x => s == x) = q at *
            have hq0 := Lib.hid hq
            clear hq
            cases q with
            | true =>
              (go_wp2_with fail; (with_reducible refine (HC _ ((by repeat' (first | (with_reducible exact Ext.refl _) | (with_reducible assumption) | (with_reducible refine Ext.alloc ?_ _) | (with_reducible refine Ext.drew ?_) | (with_reducible refine Ext.drewN ?_ _) | (with_reducible refine Ext.setCell ?_ (by first | exact Nat.le_refl _ | (simp; done) | (simp; omega) | omega) _) | (with_reducible refine Ext.trans ?_ (by assumption)))))).mono ?_); rintro e w' ⟨rfl, hx5⟩)
              go_wp2
              go_ret
              exact ⟨by rw [C3.out (by omega) (by omega) (twice_hit e0.out hq0.out)]; rfl, (by repeat' (first | (with_reducible exact Ext.refl _) | (with_reducible assumption) | (with_reducible refine Ext.alloc ?_ _) | (with_reducible refine Ext.drew ?_) | (with_reducible refine Ext.drewN ?_ _) | (with_reducible refine Ext.setCell ?_ (by first | exact Nat.le_refl _ | (simp; done) | (simp; omega) | omega) _) | (with_reducible refine Ext.trans ?_ (by assumption))))⟩
            | false =>
              (go_wp2_with fail; (with_reducible refine (HC _ ((by repeat' (first | (with_reducible exact Ext.refl _) | (with_reducible assumption) | (with_reducible refine Ext.alloc ?_ _) | (with_reducible refine Ext.drew ?_) | (with_reducible refine Ext.drewN ?_ _) | (with_reducible refine Ext.setCell ?_ (by first | exact Nat.le_refl _ | (simp; done) | (simp; omega) | omega) _) | (with_reducible refine Ext.trans ?_ (by assumption)))))).mono ?_); rintro e w' ⟨rfl, hx5⟩)
              go_wp2_with fail
              go_roundw
              case rel => exact ⟨j + 1, hj0.out, by go_num, hx.trans hx5, hr0.out.ext hx5, fun i s' hi hs => by
                rcases Nat.lt_succ_iff_lt_or_eq.1 hi with h | h
                · exact hno0.out i s' h hs
                · subst h
                  rw [e0.out] at hs
                  injection hs with hs
                  subst hs
                  exact hq0.out⟩
              case measure => simp [intOf]; omega
          · obtain rfl : j = L.length := by omega
            have h4 := Lib.hid (twice_no (fun i s h => hno i s (List.getElem?_eq_some_iff.1 h).1 h))
            clear hno
            go_wp2
            go_ret
            exact ⟨by rw [C4.out (by omega) (by omega) h4.out]; rfl, hx⟩

set_option maxRecDepth 100000 in
set_option maxHeartbeats 400000 in
theorem wakes05_calls (w : World) : Calls Try.prog 65 #[] w fun e w' => e = .returned (.bool true) ∧ Ext w w' := by
  have H1 := fun w' => tsize_calls _ .zero w' (Nat.lt_succ_self _) trivial (by decide)
  have H2 := fun w' => tcheck_calls (.odd .nilIface) w' (.inl rfl) (by decide)
  have H3 := fun w' => tcheck_calls .zero w' trivial (by decide)
  rw [show Te.checked (.odd .nilIface) = 2 by decide] at H2
  rw [show Te.checked .zero = 0 by decide] at H3
  rw [show Te.nodes .zero = 1 from rfl, show Te.depth .zero = 1 from rfl] at H1
  simp only [Te.val] at H1 H2 H3
  go_enter Try.func65, Try.ntmps65
  (go_wp2_with fail; (with_reducible refine (H1 _).mono ?_); rintro e w' ⟨rfl, hx1⟩)
  (go_wp2_with fail; (with_reducible refine (H2 _).mono ?_); rintro e w' ⟨rfl, hx2⟩)
  (go_wp2_with fail; (with_reducible refine (H3 _).mono ?_); rintro e w' ⟨rfl, hx3⟩)
  go_wp2
  go_ret
  exact ⟨rfl, (by repeat' (first | (with_reducible exact Ext.refl _) | (with_reducible assumption) | (with_reducible refine Ext.alloc ?_ _) | (with_reducible refine Ext.drew ?_) | (with_reducible refine Ext.drewN ?_ _) | (with_reducible refine Ext.setCell ?_ (by first | exact Nat.le_refl _ | (simp; done) | (simp; omega) | omega) _) | (with_reducible refine Ext.trans ?_ (by assumption))))⟩

end Go.Proofs.Ytgjjngkmbplijaa
