/- Package term: Size, form (by way of slices.ContainsFunc). -/
import Derived.Test.YtgjjngkmbplijaaTerm1
namespace Go.Proofs.Ytgjjngkmbplijaa
open Go.RowKit
set_option linter.unusedSimpArgs false
set_option linter.unusedVariables false

def Te.nodes : Te → Nat
  | .zero | .one _ => 1
  | .give t => t.nodes + 1
  | .and l r => l.nodes + r.nodes + 1
  | .or _ l r => l.nodes + r.nodes + 1
  | .scale o t => o.nodes + t.nodes + 1
  | .whn _ t => t.nodes + 1
  | .cond o l r => o.nodes + (l.nodes + r.nodes) + 1
  | .odd _ => 0
def Te.depth : Te → Nat
  | .zero | .one _ => 1
  | .give t => t.depth + 1
  | .and l r => Max.max l.depth r.depth + 1
  | .or _ l r => Max.max l.depth r.depth + 1
  | .scale o t => Max.max o.depth t.depth + 1
  | .whn _ t => t.depth + 1
  | .cond o l r => Max.max (Max.max o.depth l.depth) r.depth + 1
  | .odd _ => 0
def Te.numN (t : Te) : Nat := match t.num with | some o => o.nodes | none => 0
def Te.numD (t : Te) : Nat := match t.num with | some o => o.depth | none => 0
def sumT (l : List Te) : Nat := (l.map Te.nodes).sum
def maxT (d : Nat) (l : List Te) : Nat := l.foldl (fun a o => Max.max a o.depth) d
theorem sumT_snoc (l : List Te) (o : Te) : sumT (l ++ [o]) = sumT l + o.nodes := by simp [sumT]
theorem maxT_snoc (d : Nat) (l : List Te) (o : Te) : maxT d (l ++ [o]) = Max.max (maxT d l) o.depth := by simp [maxT]
theorem Te.nodes_eq {t : Te} (h : t.kind ≠ 0) : t.nodes = t.numN + sumT t.kids + 1 := by
  cases t <;> simp [Te.kind] at h <;> simp [Te.nodes, sumT, Te.kids, Te.numN, Te.num] <;> omega
theorem Te.depth_eq {t : Te} (h : t.kind ≠ 0) : t.depth = maxT t.numD t.kids + 1 := by
  cases t <;> simp [Te.kind] at h <;> simp [Te.depth, maxT, Te.kids, Te.numD, Te.num]
theorem Te.depth_le (t : Te) : t.depth ≤ t.nodes := by
  induction t with
  | scale o t ih => have := o.depth_le; simp only [Te.depth, Te.nodes]; omega
  | cond o l r ihl ihr => have := o.depth_le; simp only [Te.depth, Te.nodes]; omega
  | _ => simp only [Te.depth, Te.nodes] <;> omega
theorem sumT_take (l : List Te) (i : Nat) : sumT (l.take i) ≤ sumT l := by
  have := congrArg sumT (List.take_append_drop i l)
  simp only [sumT, List.map_append, List.sum_append] at *
  omega
theorem sumT_mem {l : List Te} {k : Te} (h : k ∈ l) : k.nodes ≤ sumT l := by
  induction l with
  | nil => cases h
  | cons o t ih =>
    simp only [sumT, List.map_cons, List.sum_cons]
    rcases List.mem_cons.1 h with rfl | h
    · omega
    · have := ih h
      simp only [sumT] at this
      omega
theorem maxT_le (d : Nat) (l : List Te) : maxT d l ≤ d + sumT l := by
  induction l generalizing d with
  | nil => simp [sumT, maxT]
  | cons o t ih =>
    have h1 := ih (Max.max d o.depth)
    have h2 := o.depth_le
    simp only [sumT, maxT, List.map_cons, List.sum_cons, List.foldl_cons] at *
    omega
theorem Te.numD_le (t : Te) : t.numD ≤ t.numN := by
  unfold Te.numD Te.numN
  cases t.num with
  | none => exact Nat.le_refl _
  | some o => exact o.depth_le
theorem Te.numN_le (t : Te) : t.numN ≤ t.nodes := by
  cases t <;> simp [Te.numN, Te.num, Te.nodes] <;> omega
theorem Te.sumT_le (t : Te) : sumT t.kids ≤ t.nodes := by
  cases t <;> simp [Te.kids, sumT, Te.nodes] <;> omega
theorem tkids_at {o : Te} {i : Nat} (h : i < o.kids.length) : ∃ k, o.kids[i]? = some k ∧ k ∈ o.kids ∧ o.kids.take (i + 1) = o.kids.take i ++ [k] ∧ (teVals o.kids)[i]? = some k.val := by
  have h1 : o.kids[i]? = some o.kids[i] := List.getElem?_eq_getElem h
  refine ⟨o.kids[i], h1, List.getElem_mem h, ?_, by simp [teVals, h1]⟩
  rw [List.take_add_one, h1]
  rfl
theorem Te.ob_size (t : Te) (o : Ob) (h : t.num = some o) : o.nodes ≤ t.nodes := by
  have := t.numN_le
  simp only [Te.numN, h] at this
  exact this

set_option maxRecDepth 100000 in
set_option maxHeartbeats 800000 in
theorem tsize_calls (k : Nat) : ∀ (t : Te) (w : World), SizeOf.sizeOf t < k → t.wf → t.nodes < 2 ^ 61 → Calls Try.prog 74 #[t.val] w fun e w' => RetII w t.nodes t.depth e w' := by
  induction k with
  | zero => intro o w h; omega
  | succ k ih =>
    intro t w hk hwf hn
    have H0 := tkind_calls t w hwf
    by_cases hodd : t.kind = 0
    · obtain ⟨v, rfl⟩ : ∃ v, t = .odd v := by cases t <;> simp [Te.kind] at hodd; exact ⟨_, rfl⟩
      clear hk hn
      simp only [Te.nodes, Te.depth]
      rw [hodd] at H0
      generalize (Te.odd v).val = v at *
      clear hodd
      go_enter Try.func74, Try.ntmps74
      (go_wp2_with fail; (with_reducible refine (H0).mono ?_); rintro e w' ⟨rfl, rfl⟩)
      go_wp2
      go_ret2
      exact ⟨rfl, Ext.refl _⟩
    · have hN := Te.nodes_eq hodd
      have hD := Te.depth_eq hodd
      have hnn := t.numD_le
      have HE := Lib.hid (And.intro hN hD)
      have HK := fun (i : Nat) (h : i < t.kids.length) => tkids_at h
      have HR : ∀ (k' : Te) (w' : World), k' ∈ t.kids → Calls Try.prog 74 #[k'.val] w' fun e w'' => RetII w' k'.nodes k'.depth e w'' := fun k' w' hm => ih k' w' (by have := Te.kids_size hm; omega) (Te.kids_wf hwf hm) (by
        have h1 := sumT_mem hm
        have h2 := t.sumT_le
        omega)
      have H1 := fun w' => tnum_calls t w' hwf
      have H2 := fun w' => tkids_calls t w' hwf
      have HO := fun (o : Ob) (w' : World) (ho : t.num = some o) => osize_calls _ o w' (Nat.lt_succ_self _) (Te.num_wf hwf ho) (by have := t.ob_size o ho; omega)
      have HT := Lib.hid (fun i => sumT_take t.kids i)
      have HM := Lib.hid (maxT_le t.numD t.kids)
      rw [hN] at hn
      have HL := Lib.hid hn
      have hk0 : ((t.kind : Int) == 0) = false := by simp; omega
      clear hN hD ih hk hn hodd
      have hnum : (t.num = none ∧ t.numV = .nilIface ∧ t.numN = 0 ∧ t.numD = 0) ∨ ∃ o, t.num = some o ∧ t.numV = o.val ∧ t.numN = o.nodes ∧ t.numD = o.depth := by
        unfold Te.numV Te.numN Te.numD
        cases t.num with
        | none => exact .inl ⟨rfl, rfl, rfl, rfl⟩
        | some o => exact .inr ⟨o, rfl, rfl, rfl, rfl⟩
      rcases hnum with ⟨e1, e2, e3, e4⟩ | ⟨o, e1, e2, e3, e4⟩
      · rw [e1, e2] at H1
        have HB := Lib.hid (show t.numN + sumT t.kids + 1 < 2 ^ 61 from HL.out)
        have HBD := Lib.hid hnn
        rw [e3] at HE HB HBD
        rw [e4] at HE HM HBD
        clear e1 e2 e3 e4 HL hnn hwf HO
        generalize t.val = v at *
        generalize t.kind = kd at *
        go_enter Try.func74, Try.ntmps74
        (go_wp2_with fail; (with_reducible refine (H0).mono ?_); rintro e w' ⟨rfl, rfl⟩)
        (go_wp2_with fail; (with_reducible refine (H1 _).mono ?_); rintro e w' ⟨rfl, hx1⟩)
        clear H0 H1
        (go_wp2_with fail; (with_reducible refine (H2 _).mono ?_); rintro e w' ⟨a, c, rfl, hnc, hcm, hr, hx2⟩)
        clear H2
        unfold maxLen at hcm
        have hx3 : Ext w w' := ((by repeat' (first | (with_reducible exact Ext.refl _) | (with_reducible assumption) | (with_reducible refine Ext.alloc ?_ _) | (with_reducible refine Ext.drew ?_) | (with_reducible refine Ext.drewN ?_ _) | (with_reducible refine Ext.setCell ?_ (by first | exact Nat.le_refl _ | (simp; done) | (simp; omega) | omega) _) | (with_reducible refine Ext.trans ?_ (by assumption)))))
        go_wp2_with fail
        go_loopw [27, 2, 3] (fun i n d wr => ∃ j : Nat, j ≤ t.kids.length ∧ i = .int .i64 j ∧ n = .int .i64 ((0 + sumT (t.kids.take j) : Nat) : Int) ∧ d = .int .i64 ((maxT 0 (t.kids.take j) : Nat) : Int) ∧ Ext w wr ∧ Rd wr 1 a t.kids.length (teVals t.kids)) (fun i _ _ _ => t.kids.length - (intOf i).toNat)
        case atStart => exact ⟨0, by omega, rfl, by simp [sumT], by simp [maxT], hx3, hr⟩
        case round =>
          obtain ⟨j, hj, rfl, rfl, rfl, hx, hr⟩ := hrel
          by_cases hlt : j < t.kids.length
          · obtain ⟨k', e1, hm, htk, hv⟩ := HK j hlt
            obtain ⟨ad, u, rfl, hu, hc⟩ := hr.at1 hlt
            obtain rfl : k'.val = u := by rw [hv] at hu; injection hu
            have HRk := fun w' => HR k' w' hm
            have hS : sumT (t.kids.take (j + 1)) = sumT (t.kids.take j) + k'.nodes := by rw [htk, sumT_snoc]
            have hM : maxT 0 (t.kids.take (j + 1)) = Max.max (maxT 0 (t.kids.take j)) k'.depth := by rw [htk, maxT_snoc]
            have hb := HT.out (j + 1)
            have hl := HB.out
            have hdl := k'.depth_le
            have hml : maxT 0 (t.kids.take j) ≤ 0 + sumT (t.kids.take j) := by have h1 := maxT_le 0 (t.kids.take j); have h2 := HBD.out; omega
            rw [hS] at hb
            have hr0 := Lib.hid hr
            have hS0 := Lib.hid hS
            have hM0 := Lib.hid hM
            have hj0 := Lib.hid (show j + 1 ≤ t.kids.length from hlt)
            clear hr hv hu HK HR e1 htk hm hS hM HT
            generalize sumT (t.kids.take j) = s at *
            generalize maxT 0 (t.kids.take j) = m at *
            generalize sumT t.kids = S at *
            generalize k'.nodes = n1 at *
            generalize k'.depth = d1 at *
            generalize k'.val = v1 at *
            (go_wp2_with fail; (with_reducible refine (HRk _).mono ?_); rintro e w' ⟨rfl, hx4⟩)
            clear HRk
            go_wp2_with fail
            go_roundw
            case rel => exact ⟨j + 1, hj0.out, by go_num, by rw [hS0.out]; go_num, by rw [hM0.out]; go_num, hx.trans hx4, hr0.out.ext hx4⟩
            case measure => simp [intOf]; omega
          · obtain rfl : j = t.kids.length := by omega
            rw [List.take_length]
            have h2 := HB.out
            have h3 := HM.out
            have h4 := HBD.out
            generalize sumT t.kids = S at *
            generalize maxT 0 t.kids = D at *
            clear HK HR
            go_wp2
            go_ret2
            exact ⟨by rw [HE.out.1, HE.out.2]; simp, hx⟩
      · rw [e1, e2] at H1
        have HO := fun w' => HO o w' e1
        have HB := Lib.hid (show t.numN + sumT t.kids + 1 < 2 ^ 61 from HL.out)
        have HBD := Lib.hid hnn
        rw [e3] at HE HB HBD
        rw [e4] at HE HM HBD
        clear e1 e2 e3 e4 HL hnn hwf
        generalize o.val = ov at *
        generalize o.nodes = on at *
        generalize o.depth = od at *
        generalize t.val = v at *
        generalize t.kind = kd at *
        go_enter Try.func74, Try.ntmps74
        (go_wp2_with fail; (with_reducible refine (H0).mono ?_); rintro e w' ⟨rfl, rfl⟩)
        (go_wp2_with fail; (with_reducible refine (H1 _).mono ?_); rintro e w' ⟨rfl, hx1⟩)
        (go_wp2_with fail; (with_reducible refine (HO _).mono ?_); rintro e w' ⟨rfl, hx0⟩)
        clear H0 H1
        (go_wp2_with fail; (with_reducible refine (H2 _).mono ?_); rintro e w' ⟨a, c, rfl, hnc, hcm, hr, hx2⟩)
        clear H2
        unfold maxLen at hcm
        have hx3 : Ext w w' := ((by repeat' (first | (with_reducible exact Ext.refl _) | (with_reducible assumption) | (with_reducible refine Ext.alloc ?_ _) | (with_reducible refine Ext.drew ?_) | (with_reducible refine Ext.drewN ?_ _) | (with_reducible refine Ext.setCell ?_ (by first | exact Nat.le_refl _ | (simp; done) | (simp; omega) | omega) _) | (with_reducible refine Ext.trans ?_ (by assumption)))))
        go_wp2_with fail
        go_loopw [27, 2, 3] (fun i n d wr => ∃ j : Nat, j ≤ t.kids.length ∧ i = .int .i64 j ∧ n = .int .i64 ((on + sumT (t.kids.take j) : Nat) : Int) ∧ d = .int .i64 ((maxT od (t.kids.take j) : Nat) : Int) ∧ Ext w wr ∧ Rd wr 1 a t.kids.length (teVals t.kids)) (fun i _ _ _ => t.kids.length - (intOf i).toNat)
        case atStart => exact ⟨0, by omega, rfl, by simp [sumT], by simp [maxT], hx3, hr⟩
        case round =>
          obtain ⟨j, hj, rfl, rfl, rfl, hx, hr⟩ := hrel
          by_cases hlt : j < t.kids.length
          · obtain ⟨k', e1, hm, htk, hv⟩ := HK j hlt
            obtain ⟨ad, u, rfl, hu, hc⟩ := hr.at1 hlt
            obtain rfl : k'.val = u := by rw [hv] at hu; injection hu
            have HRk := fun w' => HR k' w' hm
            have hS : sumT (t.kids.take (j + 1)) = sumT (t.kids.take j) + k'.nodes := by rw [htk, sumT_snoc]
            have hM : maxT od (t.kids.take (j + 1)) = Max.max (maxT od (t.kids.take j)) k'.depth := by rw [htk, maxT_snoc]
            have hb := HT.out (j + 1)
            have hl := HB.out
            have hdl := k'.depth_le
            have hml : maxT od (t.kids.take j) ≤ on + sumT (t.kids.take j) := by have h1 := maxT_le od (t.kids.take j); have h2 := HBD.out; omega
            rw [hS] at hb
            have hr0 := Lib.hid hr
            have hS0 := Lib.hid hS
            have hM0 := Lib.hid hM
            have hj0 := Lib.hid (show j + 1 ≤ t.kids.length from hlt)
            clear hr hv hu HK HR e1 htk hm hS hM HT
            generalize sumT (t.kids.take j) = s at *
            generalize maxT od (t.kids.take j) = m at *
            generalize sumT t.kids = S at *
            generalize k'.nodes = n1 at *
            generalize k'.depth = d1 at *
            generalize k'.val = v1 at *
            (go_wp2_with fail; (with_reducible refine (HRk _).mono ?_); rintro e w' ⟨rfl, hx4⟩)
            clear HRk
            go_wp2_with fail
            go_roundw
            case rel => exact ⟨j + 1, hj0.out, by go_num, by rw [hS0.out]; go_num, by rw [hM0.out]; go_num, hx.trans hx4, hr0.out.ext hx4⟩
            case measure => simp [intOf]; omega
          · obtain rfl : j = t.kids.length := by omega
            rw [List.take_length]
            have h2 := HB.out
            have h3 := HM.out
            have h4 := HBD.out
            generalize sumT t.kids = S at *
            generalize maxT od t.kids = D at *
            clear HK HR
            go_wp2
            go_ret2
            exact ⟨by rw [HE.out.1, HE.out.2]; simp, hx⟩

end Go.Proofs.Ytgjjngkmbplijaa
