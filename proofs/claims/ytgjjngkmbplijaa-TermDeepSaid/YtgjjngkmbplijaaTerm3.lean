/- Package term: form (by way of slices.ContainsFunc), Labels. -/
import Derived.Test.YtgjjngkmbplijaaTerm2
import Derived.Test.YtgjjngkmbplijaaWorld
namespace Go.Proofs.Ytgjjngkmbplijaa
open Go.RowKit
set_option linter.unusedSimpArgs false
set_option linter.unusedVariables false

def Te.formed : Te → Bool
  | .zero => true
  | .one s => isName s
  | .give t => t.formed
  | .and l r => l.formed && r.formed
  | .or s l r => isName s && (l.formed && r.formed)
  | .scale o t => o.formed && t.formed
  | .whn d t => dayB d && t.formed
  | .cond o l r => o.formed && (l.formed && r.formed)
  | .odd _ => false
def Te.named : Te → Bool
  | .one _ => true
  | .or _ _ _ => true
  | _ => false
def Te.numOk (t : Te) : Bool := match t.num with | some o => o.formed | none => true
theorem Te.formed_eq (t : Te) : t.formed = (decide (t.kind ≠ 0) && (!t.named || isName t.ownS) && dayB t.ownD && t.numOk && !(t.kids.any fun k => !k.formed)) := by
  have h0 : dayB 0 = true := by decide
  cases t <;> simp [Te.formed, Te.kind, Te.named, Te.ownS, Te.ownD, Te.numOk, Te.num, Te.kids, h0]
theorem Te.named_kind (t : Te) : t.named = (t.kind == 2 || t.kind == 5) := by cases t <;> rfl
theorem checked_two (o : Ob) : (o.checked == 2) = !o.formed := by
  unfold Ob.checked
  cases o.formed with
  | true => split <;> (try split) <;> simp_all
  | false => simp

theorem teVals_at {ks : List Te} {j : Nat} (h : j < ks.length) : ∃ k, ks[j]? = some k ∧ k ∈ ks ∧ (teVals ks)[j]? = some k.val := by
  have h1 : ks[j]? = some ks[j] := List.getElem?_eq_getElem h
  exact ⟨ks[j], h1, List.getElem_mem h, by simp [teVals, h1]⟩
set_option maxRecDepth 100000 in
set_option maxHeartbeats 800000 in
theorem tindex_calls (ks : List Te) (p : Te → Bool) (a : Option Addr) (c : Nat) (w : World) (hr : Rd w 1 a ks.length (teVals ks)) (hnc : ks.length ≤ c) (hcm : c ≤ maxLen)
    (HR : ∀ (k : Te) (w' : World), k ∈ ks → Calls Try.prog 142 #[k.val] w' fun e w'' => RetB w' (p k) e w'') :
    Calls Try.prog 152 #[.slice a ks.length c, .func (.func 142) #[] #[]] w fun e w' => RetAny w (ks.any p) e w' := by
  unfold maxLen at hcm
  go_enter Try.func152, Try.ntmps152
  go_wp2_with fail
  go_loopw [8] (fun i wr => ∃ j : Nat, j ≤ ks.length ∧ i = .int .i64 j ∧ (ks.take j).any p = false ∧ Ext w wr ∧ Rd wr 1 a ks.length (teVals ks)) (fun i _ => ks.length - (intOf i).toNat)
  case atStart => exact ⟨0, by omega, rfl, rfl, Ext.refl w, hr⟩
  case round =>
    obtain ⟨j, hj, rfl, hno, hx, hr⟩ := hrel
    by_cases hlt : j < ks.length
    · obtain ⟨k, e1, hm, hv⟩ := teVals_at hlt
      obtain ⟨ad, u, rfl, hu, hc⟩ := hr.at1 hlt
      obtain rfl : k.val = u := by rw [hv] at hu; injection hu
      have H := fun w' => HR k w' hm
      have hs := any_take_succ (p := p) e1
      rw [hno] at hs
      have hr0 := Lib.hid hr
      have e0 := Lib.hid e1
      have hs0 := Lib.hid hs
      have hj0 := Lib.hid (show j + 1 ≤ ks.length from hlt)
      clear hr hv hu HR e1 hm hs hno
      generalize k.val = v at *
      cases hp : p k with
      | true =>
        rw [hp] at H
        (go_wp2_with fail; (with_reducible refine (H _).mono ?_); rintro e w' ⟨rfl, hx4⟩)
        go_wp2
        go_ret
        exact ⟨_, rfl, by rw [any_hit e0.out hp]; simp, hx.trans hx4⟩
      | false =>
        rw [hp] at H
        (go_wp2_with fail; (with_reducible refine (H _).mono ?_); rintro e w' ⟨rfl, hx4⟩)
        go_wp2_with fail
        go_roundw
        case rel => exact ⟨j + 1, hj0.out, by go_num, by rw [hs0.out, hp]; rfl, hx.trans hx4, hr0.out.ext hx4⟩
        case measure => simp [intOf]; omega
    · obtain rfl : j = ks.length := by omega
      rw [List.take_length] at hno
      clear HR
      go_wp2
      go_ret
      exact ⟨_, rfl, by rw [hno]; rfl, hx⟩

set_option maxRecDepth 100000 in
set_option maxHeartbeats 800000 in
theorem tcontains_calls (ks : List Te) (p : Te → Bool) (a : Option Addr) (c : Nat) (w : World) (hr : Rd w 1 a ks.length (teVals ks)) (hnc : ks.length ≤ c) (hcm : c ≤ maxLen)
    (HR : ∀ (k : Te) (w' : World), k ∈ ks → Calls Try.prog 142 #[k.val] w' fun e w'' => RetB w' (p k) e w'') :
    Calls Try.prog 141 #[.slice a ks.length c, .func (.func 142) #[] #[]] w fun e w' => RetB w (ks.any p) e w' := by
  have H := fun w' (h : Ext w w') => tindex_calls ks p a c w' (hr.ext h) hnc hcm HR
  generalize ks.any p = b at *
  clear HR
  go_enter Try.func141, Try.ntmps141
  (go_wp2_with fail; (with_reducible refine (H _ (Ext.refl w)).mono ?_); rintro e w' ⟨r, rfl, rfl, hx⟩)
  go_wp2
  go_ret
  exact ⟨rfl, hx⟩

theorem kindOne (w : World) : Calls Try.prog 115 #[.iface 96 (.agg #[.string ⟨#[]⟩])] w fun e w' => e = .returned (.int .i64 2) ∧ w = w' :=
  tkind_calls (.one ⟨#[]⟩) w (by show (⟨#[]⟩ : ByteArray).size ≤ 1000; decide)
theorem kindOr (w : World) : Calls Try.prog 115 #[.iface 104 (.agg #[.string ⟨#[]⟩, .nilIface, .nilIface])] w fun e w' => e = .returned (.int .i64 5) ∧ w = w' :=
  tkind_calls (.or ⟨#[]⟩ (.odd .nilIface) (.odd .nilIface)) w ⟨by decide, .inl rfl, .inl rfl⟩

set_option maxRecDepth 100000 in
set_option maxHeartbeats 1600000 in
theorem tform_calls (k : Nat) : ∀ (t : Te) (w : World), SizeOf.sizeOf t < k → t.wf → t.nodes < 2 ^ 61 → Calls Try.prog 110 #[t.val] w fun e w' => RetB w t.formed e w' := by
  induction k with
  | zero => intro o w h; omega
  | succ k ih =>
    intro t w hk hwf hn
    have HE := Lib.hid (Te.formed_eq t)
    have HNK := Lib.hid (Te.named_kind t)
    have K1 := fun w' => town_calls t w' hwf
    have K2 := fun w' => tkind_calls t w' hwf
    have K3 := fun w' => tnum_calls t w' hwf
    have K4 := fun w' => tkids_calls t w' hwf
    have K0 := fun w' => name_ext t.ownS w'
    have H4 : ∀ (k' : Te) (w' : World), k' ∈ t.kids → Calls Try.prog 142 #[k'.val] w' fun e w'' => RetB w' (!k'.formed) e w'' := fun k' w' hm => by
      have h := fun w'' => ih k' w'' (by have := Te.kids_size hm; omega) (Te.kids_wf hwf hm) (by
        have h1 := sumT_mem hm
        have h2 := t.sumT_le
        omega)
      generalize k'.val = v at *
      generalize k'.formed = b at *
      clear ih K1 K2 K3 K4 K0
      go_enter Try.func142, Try.ntmps142
      (go_wp2_with fail; (with_reducible refine (h _).mono ?_); rintro e w' ⟨rfl, hx⟩)
      go_wp2
      go_ret
      exact ⟨rfl, hx⟩
    have H5 := fun (w' : World) (a : Option Addr) (c : Nat) (hr : Rd w' 1 a t.kids.length (teVals t.kids)) (h1 : t.kids.length ≤ c) (h2 : c ≤ maxLen) => tcontains_calls t.kids (fun k => !k.formed) a c w' hr h1 h2 H4
    have HO := fun (o : Ob) (w' : World) (ho : t.num = some o) => ocheck_calls o w' (Te.num_wf hwf ho) (by have := t.ob_size o ho; omega)
    have hkd : t.kind ≤ 8 := by cases t <;> simp [Te.kind]
    have hnum : (t.num = none ∧ t.numV = .nilIface ∧ t.numOk = true) ∨ ∃ o, t.num = some o ∧ t.numV = o.val ∧ t.numOk = o.formed := by
      unfold Te.numV Te.numOk
      cases t.num with
      | none => exact .inl ⟨rfl, rfl, rfl⟩
      | some o => exact .inr ⟨o, rfl, rfl, rfl⟩
    clear H4 ih hk hwf hn
    generalize t.val = v at *
    generalize t.formed = b at *
    generalize (t.kids.any fun k => !k.formed) = b1 at *
    generalize teVals t.kids = xs at *
    generalize t.kids.length = n at *
    generalize t.ownS = s at *
    generalize t.ownD = d at *
    generalize t.named = nm at *
    generalize t.kind = kd at *
    generalize t.numOk = ok at *
    generalize t.numV = nv at *
    generalize t.num = ob at *
    generalize isName s = sn at *
    by_cases h0 : kd = 0
    · subst h0
      go_enter Try.func110, Try.ntmps110
      (go_wp2_with fail; (with_reducible refine (K1 _).mono ?_); rintro e w' ⟨rfl, hx1⟩)
      (go_wp2_with fail; (with_reducible refine (K2 _).mono ?_); rintro e w' ⟨rfl, rfl⟩)
      (go_wp2_with fail; (with_reducible refine (kindOne _).mono ?_); rintro e w' ⟨rfl, rfl⟩)
      (go_wp2_with fail; (with_reducible refine (K2 _).mono ?_); rintro e w' ⟨rfl, rfl⟩)
      (go_wp2_with fail; (with_reducible refine (kindOr _).mono ?_); rintro e w' ⟨rfl, rfl⟩)
      (go_wp2_with fail; (with_reducible refine (K2 _).mono ?_); rintro e w' ⟨rfl, rfl⟩)
      go_wp2
      go_ret
      exact ⟨by rw [HE.out]; rfl, (by repeat' (first | (with_reducible exact Ext.refl _) | (with_reducible assumption) | (with_reducible refine Ext.alloc ?_ _) | (with_reducible refine Ext.drew ?_) | (with_reducible refine Ext.drewN ?_ _) | (with_reducible refine Ext.setCell ?_ (by first | exact Nat.le_refl _ | (simp; done) | (simp; omega) | omega) _) | (with_reducible refine Ext.trans ?_ (by assumption))))⟩
    · have hk0 : ((kd : Int) == 0) = false := by simp; omega
      have hcase : kd = 2 ∨ kd = 5 ∨ (((kd : Int) == 2) = false ∧ ((kd : Int) == 5) = false ∧ (kd == 2 || kd == 5) = false) := by
        by_cases h2 : kd = 2
        · exact .inl h2
        · by_cases h5 : kd = 5
          · exact .inr (.inl h5)
          · refine .inr (.inr ⟨by simp; omega, by simp; omega, ?_⟩)
            rw [show (kd == 2) = false by simp [h2], show (kd == 5) = false by simp [h5]]; rfl
      have HF := Lib.hid hnum
      have HO0 := Lib.hid HO
      clear hnum HO
      rcases hcase with rfl | rfl | ⟨g2, g5, g6⟩
      · obtain rfl : nm = true := by rw [HNK.out]; rfl
        clear h0 hk0 hkd HNK
        cases sn with
        | false =>
          go_enter Try.func110, Try.ntmps110
          (go_wp2_with fail; (with_reducible refine (K1 _).mono ?_); rintro e w' ⟨rfl, hx1⟩)
          (go_wp2_with fail; (with_reducible refine (K2 _).mono ?_); rintro e w' ⟨rfl, rfl⟩)
          (go_wp2_with fail; (with_reducible refine (kindOne _).mono ?_); rintro e w' ⟨rfl, rfl⟩)
          (go_wp2_with fail; (with_reducible refine (K2 _).mono ?_); rintro e w' ⟨rfl, rfl⟩)
          (go_wp2_with fail; (with_reducible refine (K0 _).mono ?_); rintro e w' ⟨rfl, hx2⟩)
          go_wp2
          go_ret
          exact ⟨by rw [HE.out]; simp, (by repeat' (first | (with_reducible exact Ext.refl _) | (with_reducible assumption) | (with_reducible refine Ext.alloc ?_ _) | (with_reducible refine Ext.drew ?_) | (with_reducible refine Ext.drewN ?_ _) | (with_reducible refine Ext.setCell ?_ (by first | exact Nat.le_refl _ | (simp; done) | (simp; omega) | omega) _) | (with_reducible refine Ext.trans ?_ (by assumption))))⟩
        | true =>
          go_enter Try.func110, Try.ntmps110
          (go_wp2_with fail; (with_reducible refine (K1 _).mono ?_); rintro e w' ⟨rfl, hx1⟩)
          (go_wp2_with fail; (with_reducible refine (K2 _).mono ?_); rintro e w' ⟨rfl, rfl⟩)
          (go_wp2_with fail; (with_reducible refine (kindOne _).mono ?_); rintro e w' ⟨rfl, rfl⟩)
          (go_wp2_with fail; (with_reducible refine (K2 _).mono ?_); rintro e w' ⟨rfl, rfl⟩)
          (go_wp2_with fail; (with_reducible refine (K0 _).mono ?_); rintro e w' ⟨rfl, hx2⟩)
          have hxx : Ext w w' := ((by repeat' (first | (with_reducible exact Ext.refl _) | (with_reducible assumption) | (with_reducible refine Ext.alloc ?_ _) | (with_reducible refine Ext.drew ?_) | (with_reducible refine Ext.drewN ?_ _) | (with_reducible refine Ext.setCell ?_ (by first | exact Nat.le_refl _ | (simp; done) | (simp; omega) | omega) _) | (with_reducible refine Ext.trans ?_ (by assumption)))))
          by_cases d1 : 0 ≤ d
          · by_cases d2 : d ≤ 10000
            · have hdb := Lib.hid (show dayB d = true from (dayB_iff d).2 ⟨d1, d2⟩)
              rw [hdb.out] at HE
              have d3 := Lib.hid (And.intro d1 d2)
              rcases HF.out with ⟨rfl, rfl, rfl⟩ | ⟨o, rfl, rfl, rfl⟩
              · (go_wp2_with fail; (with_reducible refine (K3 _).mono ?_); rintro e w' ⟨rfl, hx3⟩)
                (go_wp2_with fail; (with_reducible refine (K4 _).mono ?_); rintro e w' ⟨a, c, rfl, hnc, hcm, hr, hx4⟩)
                (go_wp2_with fail; (with_reducible refine (H5 _ _ _ hr hnc hcm).mono ?_); rintro e w' ⟨rfl, hx5⟩)
                go_wp2
                go_ret
                exact ⟨by rw [HE.out]; simp, (by repeat' (first | (with_reducible exact Ext.refl _) | (with_reducible assumption) | (with_reducible refine Ext.alloc ?_ _) | (with_reducible refine Ext.drew ?_) | (with_reducible refine Ext.drewN ?_ _) | (with_reducible refine Ext.setCell ?_ (by first | exact Nat.le_refl _ | (simp; done) | (simp; omega) | omega) _) | (with_reducible refine Ext.trans ?_ (by assumption))))⟩
              · have HO1 := fun w' => HO0.out o w' rfl
                have h2 := checked_two o
                generalize o.val = ov at *
                generalize o.checked = ck at *
                cases hof : o.formed with
                | true =>
                  rw [hof] at h2 HE
                  (go_wp2_with fail; (with_reducible refine (K3 _).mono ?_); rintro e w' ⟨rfl, hx3⟩)
                  (go_wp2_with fail; (with_reducible refine (HO1 _).mono ?_); rintro e w' ⟨rfl, hx4⟩)
                  (go_wp2_with fail; (with_reducible refine (K4 _).mono ?_); rintro e w' ⟨a, c, rfl, hnc, hcm, hr, hx5⟩)
                  (go_wp2_with fail; (with_reducible refine (H5 _ _ _ hr hnc hcm).mono ?_); rintro e w' ⟨rfl, hx6⟩)
                  go_wp2
                  go_ret
                  exact ⟨by rw [HE.out]; simp, (by repeat' (first | (with_reducible exact Ext.refl _) | (with_reducible assumption) | (with_reducible refine Ext.alloc ?_ _) | (with_reducible refine Ext.drew ?_) | (with_reducible refine Ext.drewN ?_ _) | (with_reducible refine Ext.setCell ?_ (by first | exact Nat.le_refl _ | (simp; done) | (simp; omega) | omega) _) | (with_reducible refine Ext.trans ?_ (by assumption))))⟩
                | false =>
                  rw [hof] at h2 HE
                  (go_wp2_with fail; (with_reducible refine (K3 _).mono ?_); rintro e w' ⟨rfl, hx3⟩)
                  (go_wp2_with fail; (with_reducible refine (HO1 _).mono ?_); rintro e w' ⟨rfl, hx4⟩)
                  go_wp2
                  go_ret
                  exact ⟨by rw [HE.out]; simp, (by repeat' (first | (with_reducible exact Ext.refl _) | (with_reducible assumption) | (with_reducible refine Ext.alloc ?_ _) | (with_reducible refine Ext.drew ?_) | (with_reducible refine Ext.drewN ?_ _) | (with_reducible refine Ext.setCell ?_ (by first | exact Nat.le_refl _ | (simp; done) | (simp; omega) | omega) _) | (with_reducible refine Ext.trans ?_ (by assumption))))⟩
            · have hdb := Lib.hid (show dayB d = false from bool_no (dayB_iff d) (by omega))
              rw [hdb.out] at HE
              go_wp2
              go_ret
              exact ⟨by rw [HE.out]; simp, (by repeat' (first | (with_reducible exact Ext.refl _) | (with_reducible assumption) | (with_reducible refine Ext.alloc ?_ _) | (with_reducible refine Ext.drew ?_) | (with_reducible refine Ext.drewN ?_ _) | (with_reducible refine Ext.setCell ?_ (by first | exact Nat.le_refl _ | (simp; done) | (simp; omega) | omega) _) | (with_reducible refine Ext.trans ?_ (by assumption))))⟩
          · have hdb := Lib.hid (show dayB d = false from bool_no (dayB_iff d) (by omega))
            rw [hdb.out] at HE
            go_wp2
            go_ret
            exact ⟨by rw [HE.out]; simp, (by repeat' (first | (with_reducible exact Ext.refl _) | (with_reducible assumption) | (with_reducible refine Ext.alloc ?_ _) | (with_reducible refine Ext.drew ?_) | (with_reducible refine Ext.drewN ?_ _) | (with_reducible refine Ext.setCell ?_ (by first | exact Nat.le_refl _ | (simp; done) | (simp; omega) | omega) _) | (with_reducible refine Ext.trans ?_ (by assumption))))⟩
      · obtain rfl : nm = true := by rw [HNK.out]; rfl
        clear h0 hk0 hkd HNK
        cases sn with
        | false =>
          go_enter Try.func110, Try.ntmps110
          (go_wp2_with fail; (with_reducible refine (K1 _).mono ?_); rintro e w' ⟨rfl, hx1⟩)
          (go_wp2_with fail; (with_reducible refine (K2 _).mono ?_); rintro e w' ⟨rfl, rfl⟩)
          (go_wp2_with fail; (with_reducible refine (kindOne _).mono ?_); rintro e w' ⟨rfl, rfl⟩)
          (go_wp2_with fail; (with_reducible refine (K2 _).mono ?_); rintro e w' ⟨rfl, rfl⟩)
          (go_wp2_with fail; (with_reducible refine (kindOr _).mono ?_); rintro e w' ⟨rfl, rfl⟩)
          (go_wp2_with fail; (with_reducible refine (K2 _).mono ?_); rintro e w' ⟨rfl, rfl⟩)
          (go_wp2_with fail; (with_reducible refine (K0 _).mono ?_); rintro e w' ⟨rfl, hx2⟩)
          go_wp2
          go_ret
          exact ⟨by rw [HE.out]; simp, (by repeat' (first | (with_reducible exact Ext.refl _) | (with_reducible assumption) | (with_reducible refine Ext.alloc ?_ _) | (with_reducible refine Ext.drew ?_) | (with_reducible refine Ext.drewN ?_ _) | (with_reducible refine Ext.setCell ?_ (by first | exact Nat.le_refl _ | (simp; done) | (simp; omega) | omega) _) | (with_reducible refine Ext.trans ?_ (by assumption))))⟩
        | true =>
          go_enter Try.func110, Try.ntmps110
          (go_wp2_with fail; (with_reducible refine (K1 _).mono ?_); rintro e w' ⟨rfl, hx1⟩)
          (go_wp2_with fail; (with_reducible refine (K2 _).mono ?_); rintro e w' ⟨rfl, rfl⟩)
          (go_wp2_with fail; (with_reducible refine (kindOne _).mono ?_); rintro e w' ⟨rfl, rfl⟩)
          (go_wp2_with fail; (with_reducible refine (K2 _).mono ?_); rintro e w' ⟨rfl, rfl⟩)
          (go_wp2_with fail; (with_reducible refine (kindOr _).mono ?_); rintro e w' ⟨rfl, rfl⟩)
          (go_wp2_with fail; (with_reducible refine (K2 _).mono ?_); rintro e w' ⟨rfl, rfl⟩)
          (go_wp2_with fail; (with_reducible refine (K0 _).mono ?_); rintro e w' ⟨rfl, hx2⟩)
          have hxx : Ext w w' := ((by repeat' (first | (with_reducible exact Ext.refl _) | (with_reducible assumption) | (with_reducible refine Ext.alloc ?_ _) | (with_reducible refine Ext.drew ?_) | (with_reducible refine Ext.drewN ?_ _) | (with_reducible refine Ext.setCell ?_ (by first | exact Nat.le_refl _ | (simp; done) | (simp; omega) | omega) _) | (with_reducible refine Ext.trans ?_ (by assumption)))))
          by_cases d1 : 0 ≤ d
          · by_cases d2 : d ≤ 10000
            · have hdb := Lib.hid (show dayB d = true from (dayB_iff d).2 ⟨d1, d2⟩)
              rw [hdb.out] at HE
              have d3 := Lib.hid (And.intro d1 d2)
              rcases HF.out with ⟨rfl, rfl, rfl⟩ | ⟨o, rfl, rfl, rfl⟩
              · (go_wp2_with fail; (with_reducible refine (K3 _).mono ?_); rintro e w' ⟨rfl, hx3⟩)
                (go_wp2_with fail; (with_reducible refine (K4 _).mono ?_); rintro e w' ⟨a, c, rfl, hnc, hcm, hr, hx4⟩)
                (go_wp2_with fail; (with_reducible refine (H5 _ _ _ hr hnc hcm).mono ?_); rintro e w' ⟨rfl, hx5⟩)
                go_wp2
                go_ret
                exact ⟨by rw [HE.out]; simp, (by repeat' (first | (with_reducible exact Ext.refl _) | (with_reducible assumption) | (with_reducible refine Ext.alloc ?_ _) | (with_reducible refine Ext.drew ?_) | (with_reducible refine Ext.drewN ?_ _) | (with_reducible refine Ext.setCell ?_ (by first | exact Nat.le_refl _ | (simp; done) | (simp; omega) | omega) _) | (with_reducible refine Ext.trans ?_ (by assumption))))⟩
              · have HO1 := fun w' => HO0.out o w' rfl
                have h2 := checked_two o
                generalize o.val = ov at *
                generalize o.checked = ck at *
                cases hof : o.formed with
                | true =>
                  rw [hof] at h2 HE
                  (go_wp2_with fail; (with_reducible refine (K3 _).mono ?_); rintro e w' ⟨rfl, hx3⟩)
                  (go_wp2_with fail; (with_reducible refine (HO1 _).mono ?_); rintro e w' ⟨rfl, hx4⟩)
                  (go_wp2_with fail; (with_reducible refine (K4 _).mono ?_); rintro e w' ⟨a, c, rfl, hnc, hcm, hr, hx5⟩)
                  (go_wp2_with fail; (with_reducible refine (H5 _ _ _ hr hnc hcm).mono ?_); rintro e w' ⟨rfl, hx6⟩)
                  go_wp2
                  go_ret
                  exact ⟨by rw [HE.out]; simp, (by repeat' (first | (with_reducible exact Ext.refl _) | (with_reducible assumption) | (with_reducible refine Ext.alloc ?_ _) | (with_reducible refine Ext.drew ?_) | (with_reducible refine Ext.drewN ?_ _) | (with_reducible refine Ext.setCell ?_ (by first | exact Nat.le_refl _ | (simp; done) | (simp; omega) | omega) _) | (with_reducible refine Ext.trans ?_ (by assumption))))⟩
                | false =>
                  rw [hof] at h2 HE
                  (go_wp2_with fail; (with_reducible refine (K3 _).mono ?_); rintro e w' ⟨rfl, hx3⟩)
                  (go_wp2_with fail; (with_reducible refine (HO1 _).mono ?_); rintro e w' ⟨rfl, hx4⟩)
                  go_wp2
                  go_ret
                  exact ⟨by rw [HE.out]; simp, (by repeat' (first | (with_reducible exact Ext.refl _) | (with_reducible assumption) | (with_reducible refine Ext.alloc ?_ _) | (with_reducible refine Ext.drew ?_) | (with_reducible refine Ext.drewN ?_ _) | (with_reducible refine Ext.setCell ?_ (by first | exact Nat.le_refl _ | (simp; done) | (simp; omega) | omega) _) | (with_reducible refine Ext.trans ?_ (by assumption))))⟩
            · have hdb := Lib.hid (show dayB d = false from bool_no (dayB_iff d) (by omega))
              rw [hdb.out] at HE
              go_wp2
              go_ret
              exact ⟨by rw [HE.out]; simp, (by repeat' (first | (with_reducible exact Ext.refl _) | (with_reducible assumption) | (with_reducible refine Ext.alloc ?_ _) | (with_reducible refine Ext.drew ?_) | (with_reducible refine Ext.drewN ?_ _) | (with_reducible refine Ext.setCell ?_ (by first | exact Nat.le_refl _ | (simp; done) | (simp; omega) | omega) _) | (with_reducible refine Ext.trans ?_ (by assumption))))⟩
          · have hdb := Lib.hid (show dayB d = false from bool_no (dayB_iff d) (by omega))
            rw [hdb.out] at HE
            go_wp2
            go_ret
            exact ⟨by rw [HE.out]; simp, (by repeat' (first | (with_reducible exact Ext.refl _) | (with_reducible assumption) | (with_reducible refine Ext.alloc ?_ _) | (with_reducible refine Ext.drew ?_) | (with_reducible refine Ext.drewN ?_ _) | (with_reducible refine Ext.setCell ?_ (by first | exact Nat.le_refl _ | (simp; done) | (simp; omega) | omega) _) | (with_reducible refine Ext.trans ?_ (by assumption))))⟩
      · obtain rfl : nm = false := by rw [HNK.out]; exact g6
        have hk1 := Lib.hid (show decide (kd ≠ 0) = true by simpa using h0)
        rw [hk1.out] at HE
        clear h0 HNK g6
        go_enter Try.func110, Try.ntmps110
        (go_wp2_with fail; (with_reducible refine (K1 _).mono ?_); rintro e w' ⟨rfl, hx1⟩)
        (go_wp2_with fail; (with_reducible refine (K2 _).mono ?_); rintro e w' ⟨rfl, rfl⟩)
        (go_wp2_with fail; (with_reducible refine (kindOne _).mono ?_); rintro e w' ⟨rfl, rfl⟩)
        (go_wp2_with fail; (with_reducible refine (K2 _).mono ?_); rintro e w' ⟨rfl, rfl⟩)
        (go_wp2_with fail; (with_reducible refine (kindOr _).mono ?_); rintro e w' ⟨rfl, rfl⟩)
        (go_wp2_with fail; (with_reducible refine (K2 _).mono ?_); rintro e w' ⟨rfl, rfl⟩)
        have hxx : Ext w w' := ((by repeat' (first | (with_reducible exact Ext.refl _) | (with_reducible assumption) | (with_reducible refine Ext.alloc ?_ _) | (with_reducible refine Ext.drew ?_) | (with_reducible refine Ext.drewN ?_ _) | (with_reducible refine Ext.setCell ?_ (by first | exact Nat.le_refl _ | (simp; done) | (simp; omega) | omega) _) | (with_reducible refine Ext.trans ?_ (by assumption)))))
        by_cases d1 : 0 ≤ d
        · by_cases d2 : d ≤ 10000
          · have hdb := Lib.hid (show dayB d = true from (dayB_iff d).2 ⟨d1, d2⟩)
            rw [hdb.out] at HE
            have d3 := Lib.hid (And.intro d1 d2)
            rcases HF.out with ⟨rfl, rfl, rfl⟩ | ⟨o, rfl, rfl, rfl⟩
            · (go_wp2_with fail; (with_reducible refine (K3 _).mono ?_); rintro e w' ⟨rfl, hx3⟩)
              (go_wp2_with fail; (with_reducible refine (K4 _).mono ?_); rintro e w' ⟨a, c, rfl, hnc, hcm, hr, hx4⟩)
              (go_wp2_with fail; (with_reducible refine (H5 _ _ _ hr hnc hcm).mono ?_); rintro e w' ⟨rfl, hx5⟩)
              go_wp2
              go_ret
              exact ⟨by rw [HE.out]; simp, (by repeat' (first | (with_reducible exact Ext.refl _) | (with_reducible assumption) | (with_reducible refine Ext.alloc ?_ _) | (with_reducible refine Ext.drew ?_) | (with_reducible refine Ext.drewN ?_ _) | (with_reducible refine Ext.setCell ?_ (by first | exact Nat.le_refl _ | (simp; done) | (simp; omega) | omega) _) | (with_reducible refine Ext.trans ?_ (by assumption))))⟩
            · have HO1 := fun w' => HO0.out o w' rfl
              have h2 := checked_two o
              generalize o.val = ov at *
              generalize o.checked = ck at *
              cases hof : o.formed with
              | true =>
                rw [hof] at h2 HE
                (go_wp2_with fail; (with_reducible refine (K3 _).mono ?_); rintro e w' ⟨rfl, hx3⟩)
                (go_wp2_with fail; (with_reducible refine (HO1 _).mono ?_); rintro e w' ⟨rfl, hx4⟩)
                (go_wp2_with fail; (with_reducible refine (K4 _).mono ?_); rintro e w' ⟨a, c, rfl, hnc, hcm, hr, hx5⟩)
                (go_wp2_with fail; (with_reducible refine (H5 _ _ _ hr hnc hcm).mono ?_); rintro e w' ⟨rfl, hx6⟩)
                go_wp2
                go_ret
                exact ⟨by rw [HE.out]; simp, (by repeat' (first | (with_reducible exact Ext.refl _) | (with_reducible assumption) | (with_reducible refine Ext.alloc ?_ _) | (with_reducible refine Ext.drew ?_) | (with_reducible refine Ext.drewN ?_ _) | (with_reducible refine Ext.setCell ?_ (by first | exact Nat.le_refl _ | (simp; done) | (simp; omega) | omega) _) | (with_reducible refine Ext.trans ?_ (by assumption))))⟩
              | false =>
                rw [hof] at h2 HE
                (go_wp2_with fail; (with_reducible refine (K3 _).mono ?_); rintro e w' ⟨rfl, hx3⟩)
                (go_wp2_with fail; (with_reducible refine (HO1 _).mono ?_); rintro e w' ⟨rfl, hx4⟩)
                go_wp2
                go_ret
                exact ⟨by rw [HE.out]; simp, (by repeat' (first | (with_reducible exact Ext.refl _) | (with_reducible assumption) | (with_reducible refine Ext.alloc ?_ _) | (with_reducible refine Ext.drew ?_) | (with_reducible refine Ext.drewN ?_ _) | (with_reducible refine Ext.setCell ?_ (by first | exact Nat.le_refl _ | (simp; done) | (simp; omega) | omega) _) | (with_reducible refine Ext.trans ?_ (by assumption))))⟩
          · have hdb := Lib.hid (show dayB d = false from bool_no (dayB_iff d) (by omega))
            rw [hdb.out] at HE
            go_wp2
            go_ret
            exact ⟨by rw [HE.out]; simp, (by repeat' (first | (with_reducible exact Ext.refl _) | (with_reducible assumption) | (with_reducible refine Ext.alloc ?_ _) | (with_reducible refine Ext.drew ?_) | (with_reducible refine Ext.drewN ?_ _) | (with_reducible refine Ext.setCell ?_ (by first | exact Nat.le_refl _ | (simp; done) | (simp; omega) | omega) _) | (with_reducible refine Ext.trans ?_ (by assumption))))⟩
        · have hdb := Lib.hid (show dayB d = false from bool_no (dayB_iff d) (by omega))
          rw [hdb.out] at HE
          go_wp2
          go_ret
          exact ⟨by rw [HE.out]; simp, (by repeat' (first | (with_reducible exact Ext.refl _) | (with_reducible assumption) | (with_reducible refine Ext.alloc ?_ _) | (with_reducible refine Ext.drew ?_) | (with_reducible refine Ext.drewN ?_ _) | (with_reducible refine Ext.setCell ?_ (by first | exact Nat.le_refl _ | (simp; done) | (simp; omega) | omega) _) | (with_reducible refine Ext.trans ?_ (by assumption))))⟩

end Go.Proofs.Ytgjjngkmbplijaa
