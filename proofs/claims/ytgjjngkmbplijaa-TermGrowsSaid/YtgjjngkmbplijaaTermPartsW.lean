/- The walk of the law TermParts. -/
import Derived.Test.YtgjjngkmbplijaaMTermE
import Derived.Test.YtgjjngkmbplijaaPlayTermD
import Derived.Test.YtgjjngkmbplijaaTerm5
namespace Go.Proofs.Ytgjjngkmbplijaa
open Go.RowKit
set_option linter.unusedSimpArgs false
set_option linter.unusedVariables false

theorem Te.form_clean {o : Te} (h : o.clean) : ∃ t x, o.val = .iface t x := by
  cases o with
  | odd v => exact h.elim
  | _ => exact ⟨_, _, rfl⟩
theorem Ob.form_clean' {o : Ob} (h : o.clean) : ∃ t x, o.val = .iface t x := by
  cases o with
  | odd v => exact h.elim
  | _ => exact ⟨_, _, rfl⟩
theorem maxT_mono (d : Nat) (l : List Te) : maxT 0 l ≤ maxT d l := by
  suffices ∀ (l : List Te) (a b : Nat), a ≤ b → l.foldl (fun a o => Max.max a o.depth) a ≤ l.foldl (fun a o => Max.max a o.depth) b from this l 0 d (Nat.zero_le _)
  intro l
  induction l with
  | nil => intro a b h; exact h
  | cons x r ih => intro a b h; exact ih _ _ (by simp only; omega)
/-- What the walk of TermParts takes of a contract. -/
structure PartsOf (x : Value) (nodes depth : Nat) (ownL labels : List ByteArray) (kids : List Te) : Prop where
  size : ∀ w, Calls Try.prog 74 #[x] w fun e w' => RetII w nodes depth e w'
  kd : ∀ w, Calls Try.prog 77 #[x] w (RetOwn w 97 1 kids.length (teVals kids))
  lab : ∀ w, Calls Try.prog 75 #[x] w fun e w' => RetOwn w 9 1 labels.length (strVals labels) e w'
  same : ∀ w, Calls Try.prog 78 #[x, x] w fun e w' => RetB w true e w'
  eqL : labels = ownL ++ labelsOf kids
  lt : sumT kids < nodes
  ltd : maxT 0 kids < depth
  bd : nodes ≤ 1000
  kwf : ∀ k ∈ kids, k.wf
  ol : ownL.length ≤ 1
theorem partsOf (t : Te) (hwf : t.wf) (hcl : t.clean) (hn : t.nodes ≤ 1000) : PartsOf t.val t.nodes t.depth t.ownL t.labels t.kids where
  size := fun w => tsize_calls _ t w (Nat.lt_succ_self _) hwf (by omega)
  kd := fun w => tkids_own t w hwf
  lab := fun w => tlabels_calls _ t w (Nat.lt_succ_self _) hwf (by omega)
  same := fun w => by have := tsame_calls _ t t w (Nat.lt_succ_self _) hwf hwf; rwa [t.same_refl hcl] at this
  eqL := Te.labels_eq t
  lt := by cases t with
    | odd v => exact hcl.elim
    | _ => rw [Te.nodes_eq (by simp [Te.kind])]; omega
  ltd := by
    have h := maxT_mono t.numD t.kids
    cases t with
    | odd v => exact hcl.elim
    | _ => rw [Te.depth_eq (by simp [Te.kind])]; omega
  bd := hn
  kwf := fun k hk => Te.kids_wf hwf hk
  ol := by cases t <;> simp [Te.ownL]

set_option maxRecDepth 100000 in
set_option maxHeartbeats 3200000 in
theorem termParts_gen (p : Pl) (w : World) (K : TypeId) (X : Value) (nodes depth : Nat) (labels : List ByteArray) (kids : List Te)
    (HC : ∀ W, Ext w W → Calls Try.prog 73 #[p.val] W fun e w' => RetH W (conT p) e w')
    (HTm : ∀ (h : HT) (q : Nat → Prop) (W : World), h.tr = conT p → h.In q W → Calls Try.prog 66 #[h.val] W fun e w' => RetV W (.iface K X) e w')
    (HP : PartsOf (.iface K X) nodes depth ([] : List ByteArray) labels kids) (n1 : K ≠ 104) (n2 : K ≠ 108) (n3 : K ≠ 110) (heq : nodes = sumT kids + 1 ∧ depth = maxT 0 kids + 1) : Calls Try.prog 22 #[p.val] w fun e w' => e = .returned (.bool true) ∧ Ext w w' := by
  have hlt := HP.lt
  have hltd := HP.ltd
  have hbd := HP.bd
  have H3 := HP.size
  have H4 := HP.kd
  have H5 := HP.lab
  have H6 := HP.same
  have HEq := Lib.hid HP.eqL
  have hmx := maxT_le 0 kids
  have hsum : sumT kids ≤ 1000 := by omega
  have HK := fun (i : Nat) (h : i < kids.length) => (show ∃ k, kids[i]? = some k ∧ k ∈ kids ∧ kids.take (i + 1) = kids.take i ++ [k] ∧ (teVals kids)[i]? = some k.val from ⟨kids[i], List.getElem?_eq_getElem h, List.getElem_mem h, by rw [List.take_add_one, List.getElem?_eq_getElem h]; rfl, by simp [teVals, List.getElem?_eq_getElem h]⟩)
  have HS := fun (k' : Te) (W : World) (hm : k' ∈ kids) => tsize_calls _ k' W (Nat.lt_succ_self _) (HP.kwf k' hm) (by have := sumT_mem hm; omega)
  have HM := fun (k' : Te) (W : World) (hm : k' ∈ kids) => tlabels_calls _ k' W (Nat.lt_succ_self _) (HP.kwf k' hm) (by have := sumT_mem hm; omega)
  have HTk := Lib.hid (fun i => Nat.le_trans (sumT_take kids i) hsum)
  have hod : depth ≤ 10 ^ 6 ∨ 10 ^ 6 < depth := by omega
  have HBl := Lib.hid (And.intro hsum hmx)
  have hnn : nodes = sumT kids + 1 ∧ depth = maxT 0 kids + 1 := heq
  clear HP hsum hmx
  generalize conT p = T at *
  unfold Pl.val at *
  go_enter Try.func22, Try.ntmps22
  (go_wp2_with fail; (with_reducible refine (HC _ ((by repeat' (first | (with_reducible exact Ext.refl _) | (with_reducible assumption) | (with_reducible refine Ext.alloc ?_ _) | (with_reducible refine Ext.drew ?_) | (with_reducible refine Ext.drewN ?_ _) | (with_reducible refine Ext.setCell ?_ (by first | exact Nat.le_refl _ | (simp; done) | (simp; omega) | omega) _) | (with_reducible refine Ext.trans ?_ (by assumption)))))).mono ?_); rintro e w' ⟨h5, rfl, ht5, hi5, hv5⟩)
  (go_wp2_with fail; (with_reducible refine (HTm _ _ _ ht5 hi5).mono ?_); rintro e w' ⟨rfl, hv6⟩)
  clear HC HTm ht5 hi5
  (go_wp2_with fail; (with_reducible refine (H3 _).mono ?_); rintro e w3 ⟨rfl, hv7⟩)
  have hx3 : Ext w w3 := ((by repeat' (first | (with_reducible exact Ext.refl _) | (with_reducible assumption) | (with_reducible refine Ext.alloc ?_ _) | (with_reducible refine Ext.drew ?_) | (with_reducible refine Ext.drewN ?_ _) | (with_reducible refine Ext.setCell ?_ (by first | exact Nat.le_refl _ | (simp; done) | (simp; omega) | omega) _) | (with_reducible refine Ext.trans ?_ (by assumption)))))
  clear H3 hv5 hv6 hv7
  (go_wp2_with fail; (with_reducible refine (H4 _).mono ?_); rintro e w' ⟨kv, rfl, hko, hx⟩)
  obtain ⟨A, C, rfl, hnc, hcm⟩ := own_form hko
  have hrel0 := Lib.hid (show NRel w w' (.slice none 0 0) (.slice A kids.length C) [] 97 kids.length (teVals kids) from
    ⟨World.ownsRow_nil _ _ _ _, own_mono hko (by have := hx3.le; simp; omega), (by cases A with | none => exact .inl rfl | some a => exact .inr (by simp [Value.ownBlock])), ((by repeat' (first | (with_reducible exact Ext.refl _) | (with_reducible assumption) | (with_reducible refine Ext.alloc ?_ _) | (with_reducible refine Ext.drew ?_) | (with_reducible refine Ext.drewN ?_ _) | (with_reducible refine Ext.setCell ?_ (by first | exact Nat.le_refl _ | (simp; done) | (simp; omega) | omega) _) | (with_reducible refine Ext.trans ?_ (by assumption)))))⟩)
  clear hko hx
  unfold maxLen at hcm
  go_wp2_with fail
  go_loopw [41, 8, 6, 7] (fun i out n d wr => ∃ (j : Nat) (A1 : Option Addr) (C1 : Nat) (L : List ByteArray), j ≤ kids.length ∧ i = .int .i64 j ∧ out = .slice A1 L.length C1 ∧ L = ([] : List ByteArray) ++ labelsOf (kids.take j) ∧ n = .int .i64 ((sumT (kids.take j) : Nat) : Int) ∧ d = .int .i64 ((maxT 0 (kids.take j) : Nat) : Int) ∧ NRel w wr (.slice A1 L.length C1) (.slice A kids.length C) L 97 kids.length (teVals kids)) (fun i _ _ _ _ => kids.length - (intOf i).toNat)
  case atStart => exact ⟨0, _, _, ([] : List ByteArray), by omega, rfl, rfl, by simp [labelsOf], by simp [sumT], by simp [maxT], hrel0.out⟩
  case round =>
    obtain ⟨j, A1, C1, L, hj, rfl, rfl, hL, rfl, rfl, hrel⟩ := hrel
    clear hrel0
    by_cases hlt2 : j < kids.length
    · obtain ⟨k', e1, hm, htk, hv⟩ := HK j hlt2
      obtain ⟨ad, u, rfl, hu, hc⟩ := (Rd.of_own hrel.kids).at1 hlt2
      obtain rfl : k'.val = u := by rw [hv] at hu; injection hu
      have HSk := fun W => HS k' W hm
      have HMk := fun W => HM k' W hm
      have hb := HTk.out (j + 1)
      have hS : sumT (kids.take (j + 1)) = sumT (kids.take j) + k'.nodes := by rw [htk, sumT_snoc]
      have hM : maxT 0 (kids.take (j + 1)) = Max.max (maxT 0 (kids.take j)) k'.depth := by rw [htk, maxT_snoc]
      have hdl := k'.depth_le
      have hml : maxT 0 (kids.take j) ≤ 0 + sumT (kids.take j) := maxT_le 0 (kids.take j)
      have hSl : ([] : List ByteArray) ++ labelsOf (kids.take (j + 1)) = L ++ k'.labels := by rw [htk, labelsOf_snoc, hL, List.append_assoc]
      have hb0 : L.length + k'.labels.length ≤ 2 ^ 33 := by
        have h1 := labelsOf_len (kids.take j)
        have h2 := k'.labels_len
        have h3 : L.length ≤ 1 + (labelsOf (kids.take j)).length := by rw [hL, List.length_append]; simp only [List.length_cons, List.length_nil]; omega
        rw [htk, sumT_snoc] at hb
        omega
      rw [hS] at hb
      have hS0 := Lib.hid hS
      have hM0 := Lib.hid hM
      have hSl0 := Lib.hid hSl
      have hj0 := Lib.hid (show j + 1 ≤ kids.length from hlt2)
      have hrel1 := Lib.hid hrel
      clear hv hu HK HS HM e1 htk hm hS hM hSl HTk hL hrel H4 H5 H6
      generalize sumT (kids.take j) = sj at *
      generalize maxT 0 (kids.take j) = mj at *
      generalize k'.nodes = n1 at *
      generalize k'.depth = d1 at *
      generalize k'.labels = N at *
      generalize k'.val = v1 at *
      obtain ⟨D, hM1, hmd⟩ : ∃ D, Hid (maxT 0 (kids.take (j + 1)) = D) ∧ ((mj < d1 ∧ d1 = D) ∨ (d1 ≤ mj ∧ mj = D)) := ⟨_, hM0, by omega⟩
      rcases hmd with ⟨hmd, rfl⟩ | ⟨hmd, rfl⟩ <;>
      ( (go_wp2_with fail; (with_reducible refine (HSk _).mono ?_); rintro e w' ⟨rfl, hx4⟩)
        (go_wp2_with fail; (with_reducible refine (HMk _).mono ?_); rintro e w' ⟨nv, rfl, hno, hx5⟩)
        clear HSk HMk
        obtain ⟨A2, C2, rfl, hn1, hn2⟩ := own_form hno
        have hrel := (hrel1.out.go hx4).go hx5
        have hrd := Rd.of_own hno
        have h63 : L.length + N.length ≤ maxLen := by unfold maxLen; omega
        have hby : (L.length + N.length) * 16 ≤ 140737488355328 := by omega
        clear hno hn1 hn2 hrel1
        go_wp2_with (at_builtin; refine wpList_app elemStr rfl _ _ rfl w.heap.size (.slice A1 L.length C1) L.length (strVals L) rfl hrel.own A2 N.length C2 (strVals N) rfl hrd (strVals_one N) h63 hby hrel.ext.le ?_; intro v1 w1 hown1 hg1 hat1)
        have hq := Lib.hid (hrel.putAll hown1 hg1 hat1)
        obtain ⟨A6, C6, rfl, h6, h7⟩ := own_form hown1
        have e7 := Lib.hid (show (L ++ N).length = L.length + N.length by simp)
        clear hown1 hg1 hat1 h63 hby hrd hrel
        go_wp2_with fail
        go_roundw
        case rel => exact ⟨j + 1, A6, C6, L ++ N, hj0.out, by go_num, by rw [e7.out], hSl0.out.symm, by rw [hS0.out]; go_num, by rw [hM1.out], by rw [e7.out]; exact hq.out⟩
        case measure => simp [intOf]; omega)
    · obtain rfl : j = kids.length := by omega
      rw [List.take_length] at hL ⊢
      rw [← HEq.out] at hL
      subst hL
      have hown := hrel.own
      have hxw := Lib.hid hrel.ext
      obtain ⟨hq0, hq1⟩ := HBl.out
      clear HK HS HM HTk hrel HBl
      generalize sumT kids = S at *
      generalize maxT 0 kids = D at *
      obtain ⟨rfl, rfl⟩ := hnn
      have t1 : (((S + 1 : Nat) : Int) != (S : Int) + 1) = false := by simp
      have t2 : (((D + 1 : Nat) : Int) != (D : Int) + 1) = false := by simp
      have t3 : decide ((S : Int) + 1 ≤ (S : Int)) = false := decide_eq_false (by omega)
      have t4 : decide ((D : Int) + 1 ≤ (D : Int)) = false := decide_eq_false (by omega)
      (go_wp2_with fail; (with_reducible refine (H5 _).mono ?_); rintro e w' ⟨lv, rfl, hlo, hx7⟩)
      obtain ⟨A8, C8, rfl, hn8, hc8⟩ := own_form hlo
      obtain ⟨A9, C9, e9, hn9, hc9⟩ := own_form hown
      injection e9 with e9 _ e10
      subst e9 e10
      have hr8 := Rd.of_own hlo
      have hr9 := (Rd.of_own hown).ext (((Ext.refl _).alloc _).alloc _ |>.trans hx7)
      have hkk := fun (W : World) (r1 : Rd W 1 A8 L.length (strVals L)) (r2 : Rd W 1 A1 L.length (strVals L)) => ksame_calls L L A8 C8 A1 C1 W r1 hn8 hc8 r2 hn9 hc9
      simp only [beq_self_eq_true] at hkk
      clear hown hlo
      (go_wp2_with fail; (with_reducible refine (hkk _ hr8 hr9).mono ?_); rintro e w' ⟨rfl, hx9⟩)
      clear hkk hr8 hr9
      (go_wp2_with fail; (with_reducible refine (H6 _).mono ?_); rintro e w' ⟨rfl, hx10⟩)
      (go_wp2_with fail; (with_reducible refine (wakes05_calls _).mono ?_); rintro e w' ⟨rfl, hx11⟩)
      go_wp2
      go_ret
      exact ⟨rfl, hxw.out.trans ((by repeat' (first | (with_reducible exact Ext.refl _) | (with_reducible assumption) | (with_reducible refine Ext.alloc ?_ _) | (with_reducible refine Ext.drew ?_) | (with_reducible refine Ext.drewN ?_ _) | (with_reducible refine Ext.setCell ?_ (by first | exact Nat.le_refl _ | (simp; done) | (simp; omega) | omega) _) | (with_reducible refine Ext.trans ?_ (by assumption)))))⟩

set_option maxRecDepth 100000 in
set_option maxHeartbeats 3200000 in
theorem termParts_or (p : Pl) (w : World) (s : ByteArray) (k1 k2 : TypeId) (x1 x2 : Value) (nodes depth : Nat) (labels : List ByteArray) (kids : List Te)
    (HC : ∀ W, Ext w W → Calls Try.prog 73 #[p.val] W fun e w' => RetH W (conT p) e w')
    (HTm : ∀ (h : HT) (q : Nat → Prop) (W : World), h.tr = conT p → h.In q W → Calls Try.prog 66 #[h.val] W fun e w' => RetV W (.iface 104 (.agg #[.string s, .iface k1 x1, .iface k2 x2])) e w')
    (HP : PartsOf (.iface 104 (.agg #[.string s, .iface k1 x1, .iface k2 x2])) nodes depth [s] labels kids) (heq : nodes = sumT kids + 1 ∧ depth = maxT 0 kids + 1) : Calls Try.prog 22 #[p.val] w fun e w' => e = .returned (.bool true) ∧ Ext w w' := by
  have hlt := HP.lt
  have hltd := HP.ltd
  have hbd := HP.bd
  have H3 := HP.size
  have H4 := HP.kd
  have H5 := HP.lab
  have H6 := HP.same
  have HEq := Lib.hid HP.eqL
  have hmx := maxT_le 0 kids
  have hsum : sumT kids ≤ 1000 := by omega
  have HK := fun (i : Nat) (h : i < kids.length) => (show ∃ k, kids[i]? = some k ∧ k ∈ kids ∧ kids.take (i + 1) = kids.take i ++ [k] ∧ (teVals kids)[i]? = some k.val from ⟨kids[i], List.getElem?_eq_getElem h, List.getElem_mem h, by rw [List.take_add_one, List.getElem?_eq_getElem h]; rfl, by simp [teVals, List.getElem?_eq_getElem h]⟩)
  have HS := fun (k' : Te) (W : World) (hm : k' ∈ kids) => tsize_calls _ k' W (Nat.lt_succ_self _) (HP.kwf k' hm) (by have := sumT_mem hm; omega)
  have HM := fun (k' : Te) (W : World) (hm : k' ∈ kids) => tlabels_calls _ k' W (Nat.lt_succ_self _) (HP.kwf k' hm) (by have := sumT_mem hm; omega)
  have HTk := Lib.hid (fun i => Nat.le_trans (sumT_take kids i) hsum)
  have hod : depth ≤ 10 ^ 6 ∨ 10 ^ 6 < depth := by omega
  have HBl := Lib.hid (And.intro hsum hmx)
  have hnn : nodes = sumT kids + 1 ∧ depth = maxT 0 kids + 1 := heq
  clear HP hsum hmx
  generalize conT p = T at *
  unfold Pl.val at *
  go_enter Try.func22, Try.ntmps22
  (go_wp2_with fail; (with_reducible refine (HC _ ((by repeat' (first | (with_reducible exact Ext.refl _) | (with_reducible assumption) | (with_reducible refine Ext.alloc ?_ _) | (with_reducible refine Ext.drew ?_) | (with_reducible refine Ext.drewN ?_ _) | (with_reducible refine Ext.setCell ?_ (by first | exact Nat.le_refl _ | (simp; done) | (simp; omega) | omega) _) | (with_reducible refine Ext.trans ?_ (by assumption)))))).mono ?_); rintro e w' ⟨h5, rfl, ht5, hi5, hv5⟩)
  (go_wp2_with fail; (with_reducible refine (HTm _ _ _ ht5 hi5).mono ?_); rintro e w' ⟨rfl, hv6⟩)
  clear HC HTm ht5 hi5
  (go_wp2_with fail; (with_reducible refine (H3 _).mono ?_); rintro e w3 ⟨rfl, hv7⟩)
  have hx3 : Ext w w3 := ((by repeat' (first | (with_reducible exact Ext.refl _) | (with_reducible assumption) | (with_reducible refine Ext.alloc ?_ _) | (with_reducible refine Ext.drew ?_) | (with_reducible refine Ext.drewN ?_ _) | (with_reducible refine Ext.setCell ?_ (by first | exact Nat.le_refl _ | (simp; done) | (simp; omega) | omega) _) | (with_reducible refine Ext.trans ?_ (by assumption)))))
  clear H3 hv5 hv6 hv7
  go_wp2_with (at_builtin; (refine wpList_app elemStr rfl _ _ rfl w.heap.size (.slice none 0 0) 0 [] rfl (World.ownsRow_nil _ _ _ _) (some ⟨w3.heap.size + 1, 0, none⟩) 1 1 [.string s] rfl (Rd.newAt (by simp) rfl rfl) (by simp [Value.oneCell']) (by unfold maxLen; omega) (by omega) (by have := hx3.le; simp; omega) ?_); intro v1 w1 hown1 hg1 hat1)
  have hE1 : Ext w w1 := ((hx3.alloc _).alloc _).grown hg1 (fun k hk => by simp [Value.ownBlock] at hk)
  simp only [Nat.zero_add, List.nil_append] at hown1
  obtain ⟨A6, C6, rfl, h6, h7⟩ := own_form hown1
  have hown6 := Lib.hid hown1
  clear hown1 hg1 hat1
  (go_wp2_with fail; (with_reducible refine (H4 _).mono ?_); rintro e w' ⟨kv, rfl, hko, hx⟩)
  obtain ⟨A, C, rfl, hnc, hcm⟩ := own_form hko
  have hrel0 := Lib.hid (show NRel w w' (.slice A6 1 C6) (.slice A kids.length C) [s] 97 kids.length (teVals kids) from
    ⟨hx.own hown6.out, own_mono hko hE1.le, (by
      cases hk2 : (Value.slice A kids.length C).ownBlock with
      | none => exact .inl rfl
      | some g =>
        refine .inr fun h3 => ?_
        have h1 := (hko.lt g hk2).1
        have h2 := (hown6.out.lt g h3.symm).2
        omega), hE1.trans hx⟩)
  clear hko hx hown6
  unfold maxLen at hcm
  go_wp2_with fail
  go_loopw [41, 8, 6, 7] (fun i out n d wr => ∃ (j : Nat) (A1 : Option Addr) (C1 : Nat) (L : List ByteArray), j ≤ kids.length ∧ i = .int .i64 j ∧ out = .slice A1 L.length C1 ∧ L = [s] ++ labelsOf (kids.take j) ∧ n = .int .i64 ((sumT (kids.take j) : Nat) : Int) ∧ d = .int .i64 ((maxT 0 (kids.take j) : Nat) : Int) ∧ NRel w wr (.slice A1 L.length C1) (.slice A kids.length C) L 97 kids.length (teVals kids)) (fun i _ _ _ _ => kids.length - (intOf i).toNat)
  case atStart => exact ⟨0, _, _, [s], by omega, rfl, rfl, by simp [labelsOf], by simp [sumT], by simp [maxT], hrel0.out⟩
  case round =>
    obtain ⟨j, A1, C1, L, hj, rfl, rfl, hL, rfl, rfl, hrel⟩ := hrel
    clear hrel0
    by_cases hlt2 : j < kids.length
    · obtain ⟨k', e1, hm, htk, hv⟩ := HK j hlt2
      obtain ⟨ad, u, rfl, hu, hc⟩ := (Rd.of_own hrel.kids).at1 hlt2
      obtain rfl : k'.val = u := by rw [hv] at hu; injection hu
      have HSk := fun W => HS k' W hm
      have HMk := fun W => HM k' W hm
      have hb := HTk.out (j + 1)
      have hS : sumT (kids.take (j + 1)) = sumT (kids.take j) + k'.nodes := by rw [htk, sumT_snoc]
      have hM : maxT 0 (kids.take (j + 1)) = Max.max (maxT 0 (kids.take j)) k'.depth := by rw [htk, maxT_snoc]
      have hdl := k'.depth_le
      have hml : maxT 0 (kids.take j) ≤ 0 + sumT (kids.take j) := maxT_le 0 (kids.take j)
      have hSl : [s] ++ labelsOf (kids.take (j + 1)) = L ++ k'.labels := by rw [htk, labelsOf_snoc, hL, List.append_assoc]
      have hb0 : L.length + k'.labels.length ≤ 2 ^ 33 := by
        have h1 := labelsOf_len (kids.take j)
        have h2 := k'.labels_len
        have h3 : L.length ≤ 1 + (labelsOf (kids.take j)).length := by rw [hL, List.length_append]; simp only [List.length_cons, List.length_nil]; omega
        rw [htk, sumT_snoc] at hb
        omega
      rw [hS] at hb
      have hS0 := Lib.hid hS
      have hM0 := Lib.hid hM
      have hSl0 := Lib.hid hSl
      have hj0 := Lib.hid (show j + 1 ≤ kids.length from hlt2)
      have hrel1 := Lib.hid hrel
      clear hv hu HK HS HM e1 htk hm hS hM hSl HTk hL hrel H4 H5 H6
      generalize sumT (kids.take j) = sj at *
      generalize maxT 0 (kids.take j) = mj at *
      generalize k'.nodes = n1 at *
      generalize k'.depth = d1 at *
      generalize k'.labels = N at *
      generalize k'.val = v1 at *
      obtain ⟨D, hM1, hmd⟩ : ∃ D, Hid (maxT 0 (kids.take (j + 1)) = D) ∧ ((mj < d1 ∧ d1 = D) ∨ (d1 ≤ mj ∧ mj = D)) := ⟨_, hM0, by omega⟩
      rcases hmd with ⟨hmd, rfl⟩ | ⟨hmd, rfl⟩ <;>
      ( (go_wp2_with fail; (with_reducible refine (HSk _).mono ?_); rintro e w' ⟨rfl, hx4⟩)
        (go_wp2_with fail; (with_reducible refine (HMk _).mono ?_); rintro e w' ⟨nv, rfl, hno, hx5⟩)
        clear HSk HMk
        obtain ⟨A2, C2, rfl, hn1, hn2⟩ := own_form hno
        have hrel := (hrel1.out.go hx4).go hx5
        have hrd := Rd.of_own hno
        have h63 : L.length + N.length ≤ maxLen := by unfold maxLen; omega
        have hby : (L.length + N.length) * 16 ≤ 140737488355328 := by omega
        clear hno hn1 hn2 hrel1
        go_wp2_with (at_builtin; refine wpList_app elemStr rfl _ _ rfl w.heap.size (.slice A1 L.length C1) L.length (strVals L) rfl hrel.own A2 N.length C2 (strVals N) rfl hrd (strVals_one N) h63 hby hrel.ext.le ?_; intro v1 w1 hown1 hg1 hat1)
        have hq := Lib.hid (hrel.putAll hown1 hg1 hat1)
        obtain ⟨A6, C6, rfl, h6, h7⟩ := own_form hown1
        have e7 := Lib.hid (show (L ++ N).length = L.length + N.length by simp)
        clear hown1 hg1 hat1 h63 hby hrd hrel
        go_wp2_with fail
        go_roundw
        case rel => exact ⟨j + 1, A6, C6, L ++ N, hj0.out, by go_num, by rw [e7.out], hSl0.out.symm, by rw [hS0.out]; go_num, by rw [hM1.out], by rw [e7.out]; exact hq.out⟩
        case measure => simp [intOf]; omega)
    · obtain rfl : j = kids.length := by omega
      rw [List.take_length] at hL ⊢
      rw [← HEq.out] at hL
      subst hL
      have hown := hrel.own
      have hxw := Lib.hid hrel.ext
      obtain ⟨hq0, hq1⟩ := HBl.out
      clear HK HS HM HTk hrel HBl
      generalize sumT kids = S at *
      generalize maxT 0 kids = D at *
      obtain ⟨rfl, rfl⟩ := hnn
      have t1 : (((S + 1 : Nat) : Int) != (S : Int) + 1) = false := by simp
      have t2 : (((D + 1 : Nat) : Int) != (D : Int) + 1) = false := by simp
      have t3 : decide ((S : Int) + 1 ≤ (S : Int)) = false := decide_eq_false (by omega)
      have t4 : decide ((D : Int) + 1 ≤ (D : Int)) = false := decide_eq_false (by omega)
      (go_wp2_with fail; (with_reducible refine (H5 _).mono ?_); rintro e w' ⟨lv, rfl, hlo, hx7⟩)
      obtain ⟨A8, C8, rfl, hn8, hc8⟩ := own_form hlo
      obtain ⟨A9, C9, e9, hn9, hc9⟩ := own_form hown
      injection e9 with e9 _ e10
      subst e9 e10
      have hr8 := Rd.of_own hlo
      have hr9 := (Rd.of_own hown).ext (((Ext.refl _).alloc _).alloc _ |>.trans hx7)
      have hkk := fun (W : World) (r1 : Rd W 1 A8 L.length (strVals L)) (r2 : Rd W 1 A1 L.length (strVals L)) => ksame_calls L L A8 C8 A1 C1 W r1 hn8 hc8 r2 hn9 hc9
      simp only [beq_self_eq_true] at hkk
      clear hown hlo
      (go_wp2_with fail; (with_reducible refine (hkk _ hr8 hr9).mono ?_); rintro e w' ⟨rfl, hx9⟩)
      clear hkk hr8 hr9
      (go_wp2_with fail; (with_reducible refine (H6 _).mono ?_); rintro e w' ⟨rfl, hx10⟩)
      (go_wp2_with fail; (with_reducible refine (wakes05_calls _).mono ?_); rintro e w' ⟨rfl, hx11⟩)
      go_wp2
      go_ret
      exact ⟨rfl, hxw.out.trans ((by repeat' (first | (with_reducible exact Ext.refl _) | (with_reducible assumption) | (with_reducible refine Ext.alloc ?_ _) | (with_reducible refine Ext.drew ?_) | (with_reducible refine Ext.drewN ?_ _) | (with_reducible refine Ext.setCell ?_ (by first | exact Nat.le_refl _ | (simp; done) | (simp; omega) | omega) _) | (with_reducible refine Ext.trans ?_ (by assumption)))))⟩

set_option maxRecDepth 100000 in
set_option maxHeartbeats 3200000 in
theorem termParts_scale (p : Pl) (w : World) (k1 k2 : TypeId) (x1 x2 : Value) (nodes depth : Nat) (labels : List ByteArray) (kids : List Te)
    (HC : ∀ W, Ext w W → Calls Try.prog 73 #[p.val] W fun e w' => RetH W (conT p) e w')
    (HTm : ∀ (h : HT) (q : Nat → Prop) (W : World), h.tr = conT p → h.In q W → Calls Try.prog 66 #[h.val] W fun e w' => RetV W (.iface 108 (.agg #[.iface k1 x1, .iface k2 x2])) e w')
    (HP : PartsOf (.iface 108 (.agg #[.iface k1 x1, .iface k2 x2])) nodes depth ([] : List ByteArray) labels kids) : Calls Try.prog 22 #[p.val] w fun e w' => e = .returned (.bool true) ∧ Ext w w' := by
  have hlt := HP.lt
  have hltd := HP.ltd
  have hbd := HP.bd
  have H3 := HP.size
  have H4 := HP.kd
  have H5 := HP.lab
  have H6 := HP.same
  have HEq := Lib.hid HP.eqL
  have hmx := maxT_le 0 kids
  have hsum : sumT kids ≤ 1000 := by omega
  have HK := fun (i : Nat) (h : i < kids.length) => (show ∃ k, kids[i]? = some k ∧ k ∈ kids ∧ kids.take (i + 1) = kids.take i ++ [k] ∧ (teVals kids)[i]? = some k.val from ⟨kids[i], List.getElem?_eq_getElem h, List.getElem_mem h, by rw [List.take_add_one, List.getElem?_eq_getElem h]; rfl, by simp [teVals, List.getElem?_eq_getElem h]⟩)
  have HS := fun (k' : Te) (W : World) (hm : k' ∈ kids) => tsize_calls _ k' W (Nat.lt_succ_self _) (HP.kwf k' hm) (by have := sumT_mem hm; omega)
  have HM := fun (k' : Te) (W : World) (hm : k' ∈ kids) => tlabels_calls _ k' W (Nat.lt_succ_self _) (HP.kwf k' hm) (by have := sumT_mem hm; omega)
  have HTk := Lib.hid (fun i => Nat.le_trans (sumT_take kids i) hsum)
  have hod : depth ≤ 10 ^ 6 ∨ 10 ^ 6 < depth := by omega
  have HBl := Lib.hid (And.intro hsum hmx)
  clear HP hsum hmx
  generalize conT p = T at *
  unfold Pl.val at *
  go_enter Try.func22, Try.ntmps22
  (go_wp2_with fail; (with_reducible refine (HC _ ((by repeat' (first | (with_reducible exact Ext.refl _) | (with_reducible assumption) | (with_reducible refine Ext.alloc ?_ _) | (with_reducible refine Ext.drew ?_) | (with_reducible refine Ext.drewN ?_ _) | (with_reducible refine Ext.setCell ?_ (by first | exact Nat.le_refl _ | (simp; done) | (simp; omega) | omega) _) | (with_reducible refine Ext.trans ?_ (by assumption)))))).mono ?_); rintro e w' ⟨h5, rfl, ht5, hi5, hv5⟩)
  (go_wp2_with fail; (with_reducible refine (HTm _ _ _ ht5 hi5).mono ?_); rintro e w' ⟨rfl, hv6⟩)
  clear HC HTm ht5 hi5
  (go_wp2_with fail; (with_reducible refine (H3 _).mono ?_); rintro e w3 ⟨rfl, hv7⟩)
  have hx3 : Ext w w3 := ((by repeat' (first | (with_reducible exact Ext.refl _) | (with_reducible assumption) | (with_reducible refine Ext.alloc ?_ _) | (with_reducible refine Ext.drew ?_) | (with_reducible refine Ext.drewN ?_ _) | (with_reducible refine Ext.setCell ?_ (by first | exact Nat.le_refl _ | (simp; done) | (simp; omega) | omega) _) | (with_reducible refine Ext.trans ?_ (by assumption)))))
  clear H3 hv5 hv6 hv7
  (go_wp2_with fail; (with_reducible refine (H4 _).mono ?_); rintro e w' ⟨kv, rfl, hko, hx⟩)
  obtain ⟨A, C, rfl, hnc, hcm⟩ := own_form hko
  have hrel0 := Lib.hid (show NRel w w' (.slice none 0 0) (.slice A kids.length C) [] 97 kids.length (teVals kids) from
    ⟨World.ownsRow_nil _ _ _ _, own_mono hko (by have := hx3.le; simp; omega), (by cases A with | none => exact .inl rfl | some a => exact .inr (by simp [Value.ownBlock])), ((by repeat' (first | (with_reducible exact Ext.refl _) | (with_reducible assumption) | (with_reducible refine Ext.alloc ?_ _) | (with_reducible refine Ext.drew ?_) | (with_reducible refine Ext.drewN ?_ _) | (with_reducible refine Ext.setCell ?_ (by first | exact Nat.le_refl _ | (simp; done) | (simp; omega) | omega) _) | (with_reducible refine Ext.trans ?_ (by assumption)))))⟩)
  clear hko hx
  unfold maxLen at hcm
  go_wp2_with fail
  go_loopw [41, 8, 6, 7] (fun i out n d wr => ∃ (j : Nat) (A1 : Option Addr) (C1 : Nat) (L : List ByteArray), j ≤ kids.length ∧ i = .int .i64 j ∧ out = .slice A1 L.length C1 ∧ L = ([] : List ByteArray) ++ labelsOf (kids.take j) ∧ n = .int .i64 ((sumT (kids.take j) : Nat) : Int) ∧ d = .int .i64 ((maxT 0 (kids.take j) : Nat) : Int) ∧ NRel w wr (.slice A1 L.length C1) (.slice A kids.length C) L 97 kids.length (teVals kids)) (fun i _ _ _ _ => kids.length - (intOf i).toNat)
  case atStart => exact ⟨0, _, _, ([] : List ByteArray), by omega, rfl, rfl, by simp [labelsOf], by simp [sumT], by simp [maxT], hrel0.out⟩
  case round =>
    obtain ⟨j, A1, C1, L, hj, rfl, rfl, hL, rfl, rfl, hrel⟩ := hrel
    clear hrel0
    by_cases hlt2 : j < kids.length
    · obtain ⟨k', e1, hm, htk, hv⟩ := HK j hlt2
      obtain ⟨ad, u, rfl, hu, hc⟩ := (Rd.of_own hrel.kids).at1 hlt2
      obtain rfl : k'.val = u := by rw [hv] at hu; injection hu
      have HSk := fun W => HS k' W hm
      have HMk := fun W => HM k' W hm
      have hb := HTk.out (j + 1)
      have hS : sumT (kids.take (j + 1)) = sumT (kids.take j) + k'.nodes := by rw [htk, sumT_snoc]
      have hM : maxT 0 (kids.take (j + 1)) = Max.max (maxT 0 (kids.take j)) k'.depth := by rw [htk, maxT_snoc]
      have hdl := k'.depth_le
      have hml : maxT 0 (kids.take j) ≤ 0 + sumT (kids.take j) := maxT_le 0 (kids.take j)
      have hSl : ([] : List ByteArray) ++ labelsOf (kids.take (j + 1)) = L ++ k'.labels := by rw [htk, labelsOf_snoc, hL, List.append_assoc]
      have hb0 : L.length + k'.labels.length ≤ 2 ^ 33 := by
        have h1 := labelsOf_len (kids.take j)
        have h2 := k'.labels_len
        have h3 : L.length ≤ 1 + (labelsOf (kids.take j)).length := by rw [hL, List.length_append]; simp only [List.length_cons, List.length_nil]; omega
        rw [htk, sumT_snoc] at hb
        omega
      rw [hS] at hb
      have hS0 := Lib.hid hS
      have hM0 := Lib.hid hM
      have hSl0 := Lib.hid hSl
      have hj0 := Lib.hid (show j + 1 ≤ kids.length from hlt2)
      have hrel1 := Lib.hid hrel
      clear hv hu HK HS HM e1 htk hm hS hM hSl HTk hL hrel H4 H5 H6
      generalize sumT (kids.take j) = sj at *
      generalize maxT 0 (kids.take j) = mj at *
      generalize k'.nodes = n1 at *
      generalize k'.depth = d1 at *
      generalize k'.labels = N at *
      generalize k'.val = v1 at *
      obtain ⟨D, hM1, hmd⟩ : ∃ D, Hid (maxT 0 (kids.take (j + 1)) = D) ∧ ((mj < d1 ∧ d1 = D) ∨ (d1 ≤ mj ∧ mj = D)) := ⟨_, hM0, by omega⟩
      rcases hmd with ⟨hmd, rfl⟩ | ⟨hmd, rfl⟩ <;>
      ( (go_wp2_with fail; (with_reducible refine (HSk _).mono ?_); rintro e w' ⟨rfl, hx4⟩)
        (go_wp2_with fail; (with_reducible refine (HMk _).mono ?_); rintro e w' ⟨nv, rfl, hno, hx5⟩)
        clear HSk HMk
        obtain ⟨A2, C2, rfl, hn1, hn2⟩ := own_form hno
        have hrel := (hrel1.out.go hx4).go hx5
        have hrd := Rd.of_own hno
        have h63 : L.length + N.length ≤ maxLen := by unfold maxLen; omega
        have hby : (L.length + N.length) * 16 ≤ 140737488355328 := by omega
        clear hno hn1 hn2 hrel1
        go_wp2_with (at_builtin; refine wpList_app elemStr rfl _ _ rfl w.heap.size (.slice A1 L.length C1) L.length (strVals L) rfl hrel.own A2 N.length C2 (strVals N) rfl hrd (strVals_one N) h63 hby hrel.ext.le ?_; intro v1 w1 hown1 hg1 hat1)
        have hq := Lib.hid (hrel.putAll hown1 hg1 hat1)
        obtain ⟨A6, C6, rfl, h6, h7⟩ := own_form hown1
        have e7 := Lib.hid (show (L ++ N).length = L.length + N.length by simp)
        clear hown1 hg1 hat1 h63 hby hrd hrel
        go_wp2_with fail
        go_roundw
        case rel => exact ⟨j + 1, A6, C6, L ++ N, hj0.out, by go_num, by rw [e7.out], hSl0.out.symm, by rw [hS0.out]; go_num, by rw [hM1.out], by rw [e7.out]; exact hq.out⟩
        case measure => simp [intOf]; omega)
    · obtain rfl : j = kids.length := by omega
      rw [List.take_length] at hL ⊢
      rw [← HEq.out] at hL
      subst hL
      have hown := hrel.own
      have hxw := Lib.hid hrel.ext
      obtain ⟨hq0, hq1⟩ := HBl.out
      clear HK HS HM HTk hrel HBl
      generalize sumT kids = S at *
      generalize maxT 0 kids = D at *
      have t3 : decide ((nodes : Int) ≤ (S : Int)) = false := decide_eq_false (by omega)
      have t4 : decide ((depth : Int) ≤ (D : Int)) = false := decide_eq_false (by omega)
      (go_wp2_with fail; (with_reducible refine (H5 _).mono ?_); rintro e w' ⟨lv, rfl, hlo, hx7⟩)
      obtain ⟨A8, C8, rfl, hn8, hc8⟩ := own_form hlo
      obtain ⟨A9, C9, e9, hn9, hc9⟩ := own_form hown
      injection e9 with e9 _ e10
      subst e9 e10
      have hr8 := Rd.of_own hlo
      have hr9 := (Rd.of_own hown).ext (((Ext.refl _).alloc _).alloc _ |>.trans hx7)
      have hkk := fun (W : World) (r1 : Rd W 1 A8 L.length (strVals L)) (r2 : Rd W 1 A1 L.length (strVals L)) => ksame_calls L L A8 C8 A1 C1 W r1 hn8 hc8 r2 hn9 hc9
      simp only [beq_self_eq_true] at hkk
      clear hown hlo
      (go_wp2_with fail; (with_reducible refine (hkk _ hr8 hr9).mono ?_); rintro e w' ⟨rfl, hx9⟩)
      clear hkk hr8 hr9
      (go_wp2_with fail; (with_reducible refine (H6 _).mono ?_); rintro e w' ⟨rfl, hx10⟩)
      (go_wp2_with fail; (with_reducible refine (wakes05_calls _).mono ?_); rintro e w' ⟨rfl, hx11⟩)
      go_wp2
      go_ret
      exact ⟨rfl, hxw.out.trans ((by repeat' (first | (with_reducible exact Ext.refl _) | (with_reducible assumption) | (with_reducible refine Ext.alloc ?_ _) | (with_reducible refine Ext.drew ?_) | (with_reducible refine Ext.drewN ?_ _) | (with_reducible refine Ext.setCell ?_ (by first | exact Nat.le_refl _ | (simp; done) | (simp; omega) | omega) _) | (with_reducible refine Ext.trans ?_ (by assumption)))))⟩

set_option maxRecDepth 100000 in
set_option maxHeartbeats 3200000 in
theorem termParts_cond (p : Pl) (w : World) (k1 k2 k3 : TypeId) (x1 x2 x3 : Value) (nodes depth : Nat) (labels : List ByteArray) (kids : List Te)
    (HC : ∀ W, Ext w W → Calls Try.prog 73 #[p.val] W fun e w' => RetH W (conT p) e w')
    (HTm : ∀ (h : HT) (q : Nat → Prop) (W : World), h.tr = conT p → h.In q W → Calls Try.prog 66 #[h.val] W fun e w' => RetV W (.iface 110 (.agg #[.iface k1 x1, .iface k2 x2, .iface k3 x3])) e w')
    (HP : PartsOf (.iface 110 (.agg #[.iface k1 x1, .iface k2 x2, .iface k3 x3])) nodes depth ([] : List ByteArray) labels kids) : Calls Try.prog 22 #[p.val] w fun e w' => e = .returned (.bool true) ∧ Ext w w' := by
  have hlt := HP.lt
  have hltd := HP.ltd
  have hbd := HP.bd
  have H3 := HP.size
  have H4 := HP.kd
  have H5 := HP.lab
  have H6 := HP.same
  have HEq := Lib.hid HP.eqL
  have hmx := maxT_le 0 kids
  have hsum : sumT kids ≤ 1000 := by omega
  have HK := fun (i : Nat) (h : i < kids.length) => (show ∃ k, kids[i]? = some k ∧ k ∈ kids ∧ kids.take (i + 1) = kids.take i ++ [k] ∧ (teVals kids)[i]? = some k.val from ⟨kids[i], List.getElem?_eq_getElem h, List.getElem_mem h, by rw [List.take_add_one, List.getElem?_eq_getElem h]; rfl, by simp [teVals, List.getElem?_eq_getElem h]⟩)
  have HS := fun (k' : Te) (W : World) (hm : k' ∈ kids) => tsize_calls _ k' W (Nat.lt_succ_self _) (HP.kwf k' hm) (by have := sumT_mem hm; omega)
  have HM := fun (k' : Te) (W : World) (hm : k' ∈ kids) => tlabels_calls _ k' W (Nat.lt_succ_self _) (HP.kwf k' hm) (by have := sumT_mem hm; omega)
  have HTk := Lib.hid (fun i => Nat.le_trans (sumT_take kids i) hsum)
  have hod : depth ≤ 10 ^ 6 ∨ 10 ^ 6 < depth := by omega
  have HBl := Lib.hid (And.intro hsum hmx)
  clear HP hsum hmx
  generalize conT p = T at *
  unfold Pl.val at *
  go_enter Try.func22, Try.ntmps22
  (go_wp2_with fail; (with_reducible refine (HC _ ((by repeat' (first | (with_reducible exact Ext.refl _) | (with_reducible assumption) | (with_reducible refine Ext.alloc ?_ _) | (with_reducible refine Ext.drew ?_) | (with_reducible refine Ext.drewN ?_ _) | (with_reducible refine Ext.setCell ?_ (by first | exact Nat.le_refl _ | (simp; done) | (simp; omega) | omega) _) | (with_reducible refine Ext.trans ?_ (by assumption)))))).mono ?_); rintro e w' ⟨h5, rfl, ht5, hi5, hv5⟩)
  (go_wp2_with fail; (with_reducible refine (HTm _ _ _ ht5 hi5).mono ?_); rintro e w' ⟨rfl, hv6⟩)
  clear HC HTm ht5 hi5
  (go_wp2_with fail; (with_reducible refine (H3 _).mono ?_); rintro e w3 ⟨rfl, hv7⟩)
  have hx3 : Ext w w3 := ((by repeat' (first | (with_reducible exact Ext.refl _) | (with_reducible assumption) | (with_reducible refine Ext.alloc ?_ _) | (with_reducible refine Ext.drew ?_) | (with_reducible refine Ext.drewN ?_ _) | (with_reducible refine Ext.setCell ?_ (by first | exact Nat.le_refl _ | (simp; done) | (simp; omega) | omega) _) | (with_reducible refine Ext.trans ?_ (by assumption)))))
  clear H3 hv5 hv6 hv7
  (go_wp2_with fail; (with_reducible refine (H4 _).mono ?_); rintro e w' ⟨kv, rfl, hko, hx⟩)
  obtain ⟨A, C, rfl, hnc, hcm⟩ := own_form hko
  have hrel0 := Lib.hid (show NRel w w' (.slice none 0 0) (.slice A kids.length C) [] 97 kids.length (teVals kids) from
    ⟨World.ownsRow_nil _ _ _ _, own_mono hko (by have := hx3.le; simp; omega), (by cases A with | none => exact .inl rfl | some a => exact .inr (by simp [Value.ownBlock])), ((by repeat' (first | (with_reducible exact Ext.refl _) | (with_reducible assumption) | (with_reducible refine Ext.alloc ?_ _) | (with_reducible refine Ext.drew ?_) | (with_reducible refine Ext.drewN ?_ _) | (with_reducible refine Ext.setCell ?_ (by first | exact Nat.le_refl _ | (simp; done) | (simp; omega) | omega) _) | (with_reducible refine Ext.trans ?_ (by assumption)))))⟩)
  clear hko hx
  unfold maxLen at hcm
  go_wp2_with fail
  go_loopw [41, 8, 6, 7] (fun i out n d wr => ∃ (j : Nat) (A1 : Option Addr) (C1 : Nat) (L : List ByteArray), j ≤ kids.length ∧ i = .int .i64 j ∧ out = .slice A1 L.length C1 ∧ L = ([] : List ByteArray) ++ labelsOf (kids.take j) ∧ n = .int .i64 ((sumT (kids.take j) : Nat) : Int) ∧ d = .int .i64 ((maxT 0 (kids.take j) : Nat) : Int) ∧ NRel w wr (.slice A1 L.length C1) (.slice A kids.length C) L 97 kids.length (teVals kids)) (fun i _ _ _ _ => kids.length - (intOf i).toNat)
  case atStart => exact ⟨0, _, _, ([] : List ByteArray), by omega, rfl, rfl, by simp [labelsOf], by simp [sumT], by simp [maxT], hrel0.out⟩
  case round =>
    obtain ⟨j, A1, C1, L, hj, rfl, rfl, hL, rfl, rfl, hrel⟩ := hrel
    clear hrel0
    by_cases hlt2 : j < kids.length
    · obtain ⟨k', e1, hm, htk, hv⟩ := HK j hlt2
      obtain ⟨ad, u, rfl, hu, hc⟩ := (Rd.of_own hrel.kids).at1 hlt2
      obtain rfl : k'.val = u := by rw [hv] at hu; injection hu
      have HSk := fun W => HS k' W hm
      have HMk := fun W => HM k' W hm
      have hb := HTk.out (j + 1)
      have hS : sumT (kids.take (j + 1)) = sumT (kids.take j) + k'.nodes := by rw [htk, sumT_snoc]
      have hM : maxT 0 (kids.take (j + 1)) = Max.max (maxT 0 (kids.take j)) k'.depth := by rw [htk, maxT_snoc]
      have hdl := k'.depth_le
      have hml : maxT 0 (kids.take j) ≤ 0 + sumT (kids.take j) := maxT_le 0 (kids.take j)
      have hSl : ([] : List ByteArray) ++ labelsOf (kids.take (j + 1)) = L ++ k'.labels := by rw [htk, labelsOf_snoc, hL, List.append_assoc]
      have hb0 : L.length + k'.labels.length ≤ 2 ^ 33 := by
        have h1 := labelsOf_len (kids.take j)
        have h2 := k'.labels_len
        have h3 : L.length ≤ 1 + (labelsOf (kids.take j)).length := by rw [hL, List.length_append]; simp only [List.length_cons, List.length_nil]; omega
        rw [htk, sumT_snoc] at hb
        omega
      rw [hS] at hb
      have hS0 := Lib.hid hS
      have hM0 := Lib.hid hM
      have hSl0 := Lib.hid hSl
      have hj0 := Lib.hid (show j + 1 ≤ kids.length from hlt2)
      have hrel1 := Lib.hid hrel
      clear hv hu HK HS HM e1 htk hm hS hM hSl HTk hL hrel H4 H5 H6
      generalize sumT (kids.take j) = sj at *
      generalize maxT 0 (kids.take j) = mj at *
      generalize k'.nodes = n1 at *
      generalize k'.depth = d1 at *
      generalize k'.labels = N at *
      generalize k'.val = v1 at *
      obtain ⟨D, hM1, hmd⟩ : ∃ D, Hid (maxT 0 (kids.take (j + 1)) = D) ∧ ((mj < d1 ∧ d1 = D) ∨ (d1 ≤ mj ∧ mj = D)) := ⟨_, hM0, by omega⟩
      rcases hmd with ⟨hmd, rfl⟩ | ⟨hmd, rfl⟩ <;>
      ( (go_wp2_with fail; (with_reducible refine (HSk _).mono ?_); rintro e w' ⟨rfl, hx4⟩)
        (go_wp2_with fail; (with_reducible refine (HMk _).mono ?_); rintro e w' ⟨nv, rfl, hno, hx5⟩)
        clear HSk HMk
        obtain ⟨A2, C2, rfl, hn1, hn2⟩ := own_form hno
        have hrel := (hrel1.out.go hx4).go hx5
        have hrd := Rd.of_own hno
        have h63 : L.length + N.length ≤ maxLen := by unfold maxLen; omega
        have hby : (L.length + N.length) * 16 ≤ 140737488355328 := by omega
        clear hno hn1 hn2 hrel1
        go_wp2_with (at_builtin; refine wpList_app elemStr rfl _ _ rfl w.heap.size (.slice A1 L.length C1) L.length (strVals L) rfl hrel.own A2 N.length C2 (strVals N) rfl hrd (strVals_one N) h63 hby hrel.ext.le ?_; intro v1 w1 hown1 hg1 hat1)
        have hq := Lib.hid (hrel.putAll hown1 hg1 hat1)
        obtain ⟨A6, C6, rfl, h6, h7⟩ := own_form hown1
        have e7 := Lib.hid (show (L ++ N).length = L.length + N.length by simp)
        clear hown1 hg1 hat1 h63 hby hrd hrel
        go_wp2_with fail
        go_roundw
        case rel => exact ⟨j + 1, A6, C6, L ++ N, hj0.out, by go_num, by rw [e7.out], hSl0.out.symm, by rw [hS0.out]; go_num, by rw [hM1.out], by rw [e7.out]; exact hq.out⟩
        case measure => simp [intOf]; omega)
    · obtain rfl : j = kids.length := by omega
      rw [List.take_length] at hL ⊢
      rw [← HEq.out] at hL
      subst hL
      have hown := hrel.own
      have hxw := Lib.hid hrel.ext
      obtain ⟨hq0, hq1⟩ := HBl.out
      clear HK HS HM HTk hrel HBl
      generalize sumT kids = S at *
      generalize maxT 0 kids = D at *
      have t3 : decide ((nodes : Int) ≤ (S : Int)) = false := decide_eq_false (by omega)
      have t4 : decide ((depth : Int) ≤ (D : Int)) = false := decide_eq_false (by omega)
      (go_wp2_with fail; (with_reducible refine (H5 _).mono ?_); rintro e w' ⟨lv, rfl, hlo, hx7⟩)
      obtain ⟨A8, C8, rfl, hn8, hc8⟩ := own_form hlo
      obtain ⟨A9, C9, e9, hn9, hc9⟩ := own_form hown
      injection e9 with e9 _ e10
      subst e9 e10
      have hr8 := Rd.of_own hlo
      have hr9 := (Rd.of_own hown).ext (((Ext.refl _).alloc _).alloc _ |>.trans hx7)
      have hkk := fun (W : World) (r1 : Rd W 1 A8 L.length (strVals L)) (r2 : Rd W 1 A1 L.length (strVals L)) => ksame_calls L L A8 C8 A1 C1 W r1 hn8 hc8 r2 hn9 hc9
      simp only [beq_self_eq_true] at hkk
      clear hown hlo
      (go_wp2_with fail; (with_reducible refine (hkk _ hr8 hr9).mono ?_); rintro e w' ⟨rfl, hx9⟩)
      clear hkk hr8 hr9
      (go_wp2_with fail; (with_reducible refine (H6 _).mono ?_); rintro e w' ⟨rfl, hx10⟩)
      (go_wp2_with fail; (with_reducible refine (wakes05_calls _).mono ?_); rintro e w' ⟨rfl, hx11⟩)
      go_wp2
      go_ret
      exact ⟨rfl, hxw.out.trans ((by repeat' (first | (with_reducible exact Ext.refl _) | (with_reducible assumption) | (with_reducible refine Ext.alloc ?_ _) | (with_reducible refine Ext.drew ?_) | (with_reducible refine Ext.drewN ?_ _) | (with_reducible refine Ext.setCell ?_ (by first | exact Nat.le_refl _ | (simp; done) | (simp; omega) | omega) _) | (with_reducible refine Ext.trans ?_ (by assumption)))))⟩

theorem termParts_walk (p : Pl) (w : World) (hp : p.In (· < w.heap.size) w) : Calls Try.prog 22 #[p.val] w fun e w' => e = .returned (.bool true) ∧ Ext w w' := by
  obtain ⟨t, ht⟩ := conT_ok p
  have hwf := ht.wf
  have hcl := ht.clean
  have HC := fun W (hW : Ext w W) => contract_calls p W ((hp.ext hW).weak (fun y hy => Nat.lt_of_lt_of_le hy hW.le))
  have HTm := fun (h : HT) (q : Nat → Prop) (W : World) (e : h.tr = conT p) (hin : h.In q W) => pterm_at ht.is hwf h q W e hin
  have hn := ht.nodes
  have HP := partsOf t hwf hcl (by omega)
  have heq : t.num = none → t.nodes = sumT t.kids + 1 ∧ t.depth = maxT 0 t.kids + 1 := fun h => by
    have hk : t.kind ≠ 0 := by cases t <;> first | exact hcl.elim | simp [Te.kind]
    have h1 := Te.nodes_eq hk
    have h2 := Te.depth_eq hk
    unfold Te.numN at h1
    unfold Te.numD at h2
    rw [h] at h1 h2
    simp only at h1 h2
    exact ⟨by omega, h2⟩
  clear ht
  cases t with
  | odd v => exact hcl.elim
  | zero => exact termParts_gen p w _ _ _ _ _ _ HC HTm HP (by decide) (by decide) (by decide) (heq rfl)
  | one s => exact termParts_gen p w _ _ _ _ _ _ HC HTm HP (by decide) (by decide) (by decide) (heq rfl)
  | give a => exact termParts_gen p w _ _ _ _ _ _ HC HTm HP (by decide) (by decide) (by decide) (heq rfl)
  | and a b => exact termParts_gen p w _ _ _ _ _ _ HC HTm HP (by decide) (by decide) (by decide) (heq rfl)
  | whn d a => exact termParts_gen p w _ _ _ _ _ _ HC HTm HP (by decide) (by decide) (by decide) (heq rfl)
  | or s a b =>
    obtain ⟨k1, x1, e1⟩ := a.form_clean hcl.1
    obtain ⟨k2, x2, e2⟩ := b.form_clean hcl.2
    have hv : (Te.or s a b).val = .iface 104 (.agg #[.string s, .iface k1 x1, .iface k2 x2]) := by simp only [Te.val, e1, e2]
    simp only [hv] at HTm HP
    exact termParts_or p w _ _ _ _ _ _ _ _ _ HC HTm HP (heq rfl)
  | scale o a =>
    obtain ⟨k1, x1, e1⟩ := o.form_clean' hcl.1
    obtain ⟨k2, x2, e2⟩ := a.form_clean hcl.2
    have hv : (Te.scale o a).val = .iface 108 (.agg #[.iface k1 x1, .iface k2 x2]) := by simp only [Te.val, e1, e2]
    simp only [hv] at HTm HP
    exact termParts_scale p w _ _ _ _ _ _ _ _ HC HTm HP
  | cond o a b =>
    obtain ⟨k1, x1, e1⟩ := o.form_clean' hcl.1
    obtain ⟨k2, x2, e2⟩ := a.form_clean hcl.2.1
    obtain ⟨k3, x3, e3⟩ := b.form_clean hcl.2.2
    have hv : (Te.cond o a b).val = .iface 110 (.agg #[.iface k1 x1, .iface k2 x2, .iface k3 x3]) := by simp only [Te.val, e1, e2, e3]
    simp only [hv] at HTm HP
    exact termParts_cond p w _ _ _ _ _ _ _ _ _ _ HC HTm HP
end Go.Proofs.Ytgjjngkmbplijaa
