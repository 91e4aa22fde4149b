/- Package term: Names. -/
import Derived.Test.YtgjjngkmbplijaaYTerm5

namespace Go.Proofs.Ytgjjngkmbplijaa
open Go.RowKit
set_option linter.unusedSimpArgs false
set_option linter.unusedVariables false

def Te.names : Te → List ByteArray
  | .give t => addAll [] t.names
  | .and l r => addAll (addAll [] l.names) r.names
  | .or _ l r => addAll (addAll [] l.names) r.names
  | .scale o t => addAll o.names t.names
  | .whn _ t => addAll [] t.names
  | .cond o l r => addAll (addAll o.names l.names) r.names
  | _ => []
def namesT (L0 : List ByteArray) (l : List Te) : List ByteArray := l.foldl (fun L k => addAll L k.names) L0
def Te.numNames (t : Te) : List ByteArray := match t.num with | some o => o.names | none => []
theorem Te.names_eq (t : Te) : t.names = namesT t.numNames t.kids := by
  cases t <;> simp [Te.names, namesT, Te.numNames, Te.num, Te.kids]
theorem Te.names_len (t : Te) : t.names.length ≤ t.nodes := by
  induction t with
  | zero => simp [Te.names]
  | one s => simp [Te.names]
  | odd v => simp [Te.names]
  | give t ih => have := addAll_len [] t.names; simp only [Te.names, Te.nodes, List.length_nil] at *; omega
  | whn d t ih => have := addAll_len [] t.names; simp only [Te.names, Te.nodes, List.length_nil] at *; omega
  | scale o t ih => have := addAll_len o.names t.names; have := o.names_len; simp only [Te.names, Te.nodes] at *; omega
  | cond o l r ihl ihr =>
    have h1 := addAll_len o.names l.names
    have h2 := addAll_len (addAll o.names l.names) r.names
    have := o.names_len
    simp only [Te.names, Te.nodes] at *
    omega
  | and l r ihl ihr =>
    have h1 := addAll_len [] l.names
    have h2 := addAll_len (addAll [] l.names) r.names
    simp only [Te.names, Te.nodes, List.length_nil] at *
    omega
  | or s l r ihl ihr =>
    have h1 := addAll_len [] l.names
    have h2 := addAll_len (addAll [] l.names) r.names
    simp only [Te.names, Te.nodes, List.length_nil] at *
    omega
theorem namesT_snoc (L0 : List ByteArray) (l : List Te) (k : Te) : namesT L0 (l ++ [k]) = addAll (namesT L0 l) k.names := by simp [namesT]
theorem namesT_len (L0 : List ByteArray) (l : List Te) : (namesT L0 l).length ≤ L0.length + sumT l := by
  induction l generalizing L0 with
  | nil => simp [sumT, namesT]
  | cons k t ih =>
    have h1 := ih (addAll L0 k.names)
    have h2 := addAll_len L0 k.names
    have h3 := k.names_len
    simp only [sumT, List.map_cons, List.sum_cons, namesT, List.foldl_cons] at *
    omega

set_option maxRecDepth 100000 in
set_option maxHeartbeats 1600000 in
theorem tnames_calls (k : Nat) : ∀ (t : Te) (w : World), SizeOf.sizeOf t < k → t.wf → t.nodes ≤ 2 ^ 31 → Calls Try.prog 76 #[t.val] w fun e w' => RetOwn w 9 1 t.names.length (strVals t.names) e w' := by
  induction k with
  | zero => intro o w h; omega
  | succ k ih =>
    intro t w hk hwf hn
    have H1 := fun w' => tnum_calls t w' hwf
    have H2 := fun w' => tkids_own t w' hwf
    have HN := Lib.hid (Te.names_eq t)
    have HK := fun (i : Nat) (h : i < t.kids.length) => tkids_at (o := t) h
    have hsum : sumT t.kids ≤ 2 ^ 31 := Nat.le_trans t.sumT_le hn
    have HR : ∀ (k' : Te) (w' : World), k' ∈ t.kids → Calls Try.prog 76 #[k'.val] w' fun e w'' => RetOwn w' 9 1 k'.names.length (strVals k'.names) e w'' := fun k' w' hm => ih k' w' (by have := Te.kids_size hm; omega) (Te.kids_wf hwf hm) (by
      have h1 := sumT_mem hm
      omega)
    have HO := fun (o : Ob) (w' : World) (ho : t.num = some o) => onames_calls _ o w' (Nat.lt_succ_self _) (Te.num_wf hwf ho) (by have := t.ob_size o ho; omega)
    have hL0 : t.numNames.length ≤ 2 ^ 31 := by
      unfold Te.numNames
      cases hno : t.num with
      | none => simp
      | some o => have h1 := o.names_len; have h2 := t.ob_size o hno; simp only; omega
    have HT := Lib.hid (fun i => Nat.le_trans (sumT_take t.kids i) hsum)
    have hnum : (t.num = none ∧ t.numV = .nilIface ∧ t.numNames = []) ∨ ∃ o, t.num = some o ∧ t.numV = o.val ∧ t.numNames = o.names := by
      unfold Te.numV Te.numNames
      cases t.num with
      | none => exact .inl ⟨rfl, rfl, rfl⟩
      | some o => exact .inr ⟨o, rfl, rfl, rfl⟩
    clear ih hk hn hwf hsum
    generalize t.names = NN at *
    rcases hnum with ⟨e1, e2, e3⟩ | ⟨o, e1, e2, e3⟩
    · rw [e1, e2] at H1
      rw [e3] at HN hL0
      obtain ⟨L0, hL00⟩ : ∃ L0 : List ByteArray, L0 = [] := ⟨[], rfl⟩
      have hL01 := Lib.hid hL00
      rw [← hL00] at HN hL0
      obtain ⟨A0, hA0⟩ : ∃ A0 : Option Addr, A0 = none := ⟨none, rfl⟩
      obtain ⟨C0, hC0⟩ : ∃ C0 : Nat, C0 = 0 := ⟨0, rfl⟩
      clear e1 e2 e3 HO hL00
      generalize Te.val t = v at *
      all_goals
        go_enter Try.func76, Try.ntmps76
        (go_wp2_with fail; (with_reducible refine (H1 _).mono ?_); rintro e w' ⟨rfl, hx1⟩)
        (go_wp2_with fail; (with_reducible refine (H2 _).mono ?_); rintro e w' ⟨kv, rfl, hko, hx⟩)
        clear H2 H1
        obtain ⟨A, C, rfl, hnc, hcm⟩ := own_form hko
        have hrel0 : NRel w w' (.slice A0 L0.length C0) (.slice A t.kids.length C) L0 97 t.kids.length (teVals t.kids) := by
          rw [hA0, hC0, hL01.out]
          exact ⟨World.ownsRow_nil _ _ _ _, own_mono hko (by have := hx1.le; simp at *; omega), (by cases A with | none => exact .inl rfl | some a => exact .inr (by simp [Value.ownBlock])), ((by repeat' (first | (with_reducible exact Ext.refl _) | (with_reducible assumption) | (with_reducible refine Ext.alloc ?_ _) | (with_reducible refine Ext.drew ?_) | (with_reducible refine Ext.drewN ?_ _) | (with_reducible refine Ext.setCell ?_ (by first | exact Nat.le_refl _ | (simp; done) | (simp; omega) | omega) _) | (with_reducible refine Ext.trans ?_ (by assumption)))))⟩
        clear hko hx hx1
        unfold maxLen at hcm
        have hval0 : (Value.slice none 0 0) = .slice A0 L0.length C0 := by rw [hA0, hC0, hL01.out]; rfl
        clear hA0 hC0
        go_wp2_with fail
        try rw [hval0]
        clear hval0
        go_loopw [21, 3] (fun i out wr => ∃ (j : Nat) (A1 : Option Addr) (C1 : Nat) (L : List ByteArray), j ≤ t.kids.length ∧ i = .int .i64 j ∧ out = .slice A1 L.length C1 ∧ L = namesT L0 (t.kids.take j) ∧ NRel w wr (.slice A1 L.length C1) (.slice A t.kids.length C) L 97 t.kids.length (teVals t.kids)) (fun i _ _ => t.kids.length - (intOf i).toNat)
        case atStart => exact ⟨0, A0, C0, L0, by omega, rfl, rfl, rfl, hrel0⟩
        case round =>
          obtain ⟨j, A1, C1, L, hj, rfl, rfl, hL, hrel⟩ := hrel
          clear hrel0
          by_cases hlt : j < t.kids.length
          · obtain ⟨k', e1, hm, htk, hv⟩ := HK j hlt
            obtain ⟨ad, u, rfl, hu, hc⟩ := (Rd.of_own hrel.kids).at1 hlt
            obtain rfl : k'.val = u := by rw [hv] at hu; injection hu
            have HRk := fun w' => HR k' w' hm
            have hb := HT.out (j + 1)
            have hS : namesT L0 (t.kids.take (j + 1)) = addAll L k'.names := by rw [htk, namesT_snoc, hL]
            have hS0 := Lib.hid hS
            have hj0 := Lib.hid (show j + 1 ≤ t.kids.length from hlt)
            have hb0 := Lib.hid (show L.length + k'.names.length ≤ 2 ^ 32 by
              have h1 := namesT_len L0 (t.kids.take j)
              have h2 := k'.names_len
              rw [← hL] at h1
              rw [htk, sumT_snoc] at hb
              omega)
            have hrel1 := Lib.hid hrel
            clear hv hu HK HR e1 htk hm hS HT hL hrel hb
            generalize k'.names = N at *
            generalize k'.val = v1 at *
            (go_wp2_with fail; (with_reducible refine (HRk _).mono ?_); rintro e w' ⟨nv, rfl, hno, hx4⟩)
            clear HRk
            obtain ⟨A2, C2, rfl, hn1, hn2⟩ := own_form hno
            unfold maxLen at hn2
            have hrel := hrel1.out.go hx4
            have hne : (Value.slice A2 N.length C2).ownBlock = none ∨ (Value.slice A2 N.length C2).ownBlock ≠ (Value.slice A1 L.length C1).ownBlock := by
              cases hk2 : (Value.slice A2 N.length C2).ownBlock with
              | none => exact .inl rfl
              | some g =>
                refine .inr fun h3 => ?_
                have h1 := (hno.lt g hk2).1
                have h2 := (hrel1.out.own.lt g h3.symm).2
                omega
            have hno' := own_mono hno (show w.heap.size ≤ _ from hrel1.out.ext.le)
            have hrel2 := Lib.hid (And.intro hrel (And.intro hno' hne))
            clear hrel hno hno' hne hrel1
            go_wp2_with fail
            go_loopw [28, 3] (fun i out wr => ∃ (m : Nat) (A1 : Option Addr) (C1 : Nat) (M : List ByteArray), m ≤ N.length ∧ i = .int .i64 m ∧ out = .slice A1 M.length C1 ∧ M = addAll L (N.take m) ∧ NRel w wr (.slice A1 M.length C1) (.slice (some ad) t.kids.length C) M 97 t.kids.length (teVals t.kids) ∧
              wr.ownsRow w.heap.size 9 1 (.slice A2 N.length C2) N.length (strVals N) ∧ ((Value.slice A2 N.length C2).ownBlock = none ∨ (Value.slice A2 N.length C2).ownBlock ≠ (Value.slice A1 M.length C1).ownBlock)) (fun i _ _ => N.length - (intOf i).toNat)
            case atStart => exact ⟨0, A1, C1, L, by omega, rfl, rfl, rfl, hrel2.out⟩
            case round =>
              obtain ⟨m, A3, C3, M, hm, rfl, rfl, hM, hrel, hno, hne⟩ := hrel
              by_cases hlt2 : m < N.length
              · obtain ⟨s, e1, hv⟩ := strVals_at hlt2
                obtain ⟨ad2, u, rfl, hu, hc2⟩ := (Rd.of_own hno).at1 hlt2
                obtain rfl : Value.string s = u := by rw [hv] at hu; injection hu
                have hS2 : addAll L (N.take (m + 1)) = addNew M s := by rw [addAll_take e1, hM]
                have hMl : M.length ≤ L.length + m := by have := addAll_len L (N.take m); rw [← hM, List.length_take] at this; omega
                obtain ⟨A4, C4, e4, hq1, hq2⟩ := own_form hrel.own
                injection e4 with e4 e5 e6
                subst e4 e6
                have hS2 := Lib.hid hS2
                have hm0 := Lib.hid (show m + 1 ≤ N.length from hlt2)
                have hml0 := Lib.hid (show M.length + 1 ≤ 2 ^ 32 by have := hb0.out; omega)
                have hrd := Rd.of_own hrel.own
                have hrel3 := Lib.hid (And.intro hrel (And.intro hno hne))
                clear hv hu e1 hM hMl hrel hno hne e5
                (go_wp2_with fail; (with_reducible refine (scontains_calls M s _ _ _ hrd hq1 hq2).mono ?_); rintro e w' ⟨rfl, hx5⟩)
                cases hb : (M.any fun x => s == x) with
                | true =>
                  have hadd : addNew M s = M := by unfold addNew; rw [if_pos hb]
                  have hadd := Lib.hid hadd
                  clear hb hrd
                  go_wp2_with fail
                  go_roundw
                  case rel => exact ⟨m + 1, A3, C3, M, hm0.out, by go_num, rfl, by rw [hS2.out, hadd.out], hrel3.out.1.go hx5, hx5.own hrel3.out.2.1, hrel3.out.2.2⟩
                  case measure => simp [intOf]; omega
                | false =>
                  have hadd : addNew M s = M ++ [s] := by unfold addNew; rw [if_neg (by rw [hb]; simp)]
                  have hadd := Lib.hid hadd
                  have hrel5 := hrel3.out.1.go hx5
                  have hno5 := hx5.own hrel3.out.2.1
                  have h63 : M.length + 1 ≤ maxLen := by have := hml0.out; unfold maxLen; omega
                  have hby : (M.length + 1) * 16 ≤ 140737488355328 := by have := hml0.out; omega
                  clear hb hrd
                  go_wp2_with (at_builtin; refine wpList_app elemStr rfl _ _ rfl w.heap.size (.slice A3 M.length C3) M.length (strVals M) rfl (hrel5.own.alloc _) _ 1 1 [.string s] rfl (Rd.new _ #[.string s] _ 1 1 rfl) (by simp [Value.oneCell']) h63 hby (by have := hrel5.ext.le; simp; omega) ?_; intro v1 w1 hown1 hg1 hat1)
                  have hq := Lib.hid ((hrel5.go ((Ext.refl _).alloc _)).put hown1 hg1 hat1)
                  have hno6 := Lib.hid ((hno5.alloc _).kept hg1 hrel3.out.2.2)
                  have hne6 := Lib.hid (own_ne (hno5.alloc _) hrel3.out.2.2 hat1)
                  obtain ⟨A6, C6, rfl, h6, h7⟩ := own_form hown1
                  have e7 := Lib.hid (show (M ++ [s]).length = M.length + 1 by simp)
                  clear hown1 hg1 hat1 hno5 hrel5 h63 hby
                  go_wp2_with fail
                  go_roundw
                  case rel => exact ⟨m + 1, A6, C6, M ++ [s], hm0.out, by go_num, by rw [e7.out], by rw [hS2.out, hadd.out], by rw [e7.out]; exact hq.out, hno6.out, by rw [e7.out]; exact hne6.out⟩
                  case measure => simp [intOf]; omega
              · obtain rfl : m = N.length := by omega
                rw [List.take_length] at hM
                go_wp2_with fail
                go_roundw
                case rel => exact ⟨j + 1, A3, C3, M, hj0.out, by go_num, rfl, by rw [hS0.out, hM], hrel⟩
                case measure => simp [intOf]; omega
          · obtain rfl : j = t.kids.length := by omega
            rw [List.take_length, ← HN.out] at hL
            subst hL
            clear HK HR
            go_wp2
            apply bodyPost_ret
            · exact results_tmp rfl _ _ _
            · rfl
            exact ⟨_, rfl, hrel.own, hrel.ext⟩
    · have HO := fun w' => HO o w' e1
      rw [e1, e2] at H1
      rw [e3] at HN hL0
      clear e1 e2 e3
      generalize o.names = L0 at *
      generalize o.val = ov at *
      generalize Te.val t = v at *
      all_goals
        go_enter Try.func76, Try.ntmps76
        (go_wp2_with fail; (with_reducible refine (H1 _).mono ?_); rintro e w' ⟨rfl, hx1⟩)
        (go_wp2_with fail; (with_reducible refine (HO _).mono ?_); rintro e w' ⟨v0, rfl, h0, hx0⟩)
        obtain ⟨A0, C0, rfl, _, _⟩ := own_form h0
        (go_wp2_with fail; (with_reducible refine (H2 _).mono ?_); rintro e w' ⟨kv, rfl, hko, hx⟩)
        clear H2 H1 HO
        obtain ⟨A, C, rfl, hnc, hcm⟩ := own_form hko
        have hrel0 : NRel w w' (.slice A0 L0.length C0) (.slice A t.kids.length C) L0 97 t.kids.length (teVals t.kids) :=
          ⟨hx.own (own_mono h0 (by have := hx1.le; simp at *; try omega)), own_mono hko (by have h1 := hx1.le; have h2 := hx0.le; simp at *; omega), (by
            cases hk2 : (Value.slice A t.kids.length C).ownBlock with
            | none => exact .inl rfl
            | some g =>
              refine .inr fun h3 => ?_
              have h1 := (hko.lt g hk2).1
              have h2 := (h0.lt g h3.symm).2
              omega), ((by repeat' (first | (with_reducible exact Ext.refl _) | (with_reducible assumption) | (with_reducible refine Ext.alloc ?_ _) | (with_reducible refine Ext.drew ?_) | (with_reducible refine Ext.drewN ?_ _) | (with_reducible refine Ext.setCell ?_ (by first | exact Nat.le_refl _ | (simp; done) | (simp; omega) | omega) _) | (with_reducible refine Ext.trans ?_ (by assumption)))))⟩
        clear hko hx hx1 hx0 h0
        unfold maxLen at hcm
        go_wp2_with fail
        go_loopw [21, 3] (fun i out wr => ∃ (j : Nat) (A1 : Option Addr) (C1 : Nat) (L : List ByteArray), j ≤ t.kids.length ∧ i = .int .i64 j ∧ out = .slice A1 L.length C1 ∧ L = namesT L0 (t.kids.take j) ∧ NRel w wr (.slice A1 L.length C1) (.slice A t.kids.length C) L 97 t.kids.length (teVals t.kids)) (fun i _ _ => t.kids.length - (intOf i).toNat)
        case atStart => exact ⟨0, A0, C0, L0, by omega, rfl, rfl, rfl, hrel0⟩
        case round =>
          obtain ⟨j, A1, C1, L, hj, rfl, rfl, hL, hrel⟩ := hrel
          clear hrel0
          by_cases hlt : j < t.kids.length
          · obtain ⟨k', e1, hm, htk, hv⟩ := HK j hlt
            obtain ⟨ad, u, rfl, hu, hc⟩ := (Rd.of_own hrel.kids).at1 hlt
            obtain rfl : k'.val = u := by rw [hv] at hu; injection hu
            have HRk := fun w' => HR k' w' hm
            have hb := HT.out (j + 1)
            have hS : namesT L0 (t.kids.take (j + 1)) = addAll L k'.names := by rw [htk, namesT_snoc, hL]
            have hS0 := Lib.hid hS
            have hj0 := Lib.hid (show j + 1 ≤ t.kids.length from hlt)
            have hb0 := Lib.hid (show L.length + k'.names.length ≤ 2 ^ 32 by
              have h1 := namesT_len L0 (t.kids.take j)
              have h2 := k'.names_len
              rw [← hL] at h1
              rw [htk, sumT_snoc] at hb
              omega)
            have hrel1 := Lib.hid hrel
            clear hv hu HK HR e1 htk hm hS HT hL hrel hb
            generalize k'.names = N at *
            generalize k'.val = v1 at *
            (go_wp2_with fail; (with_reducible refine (HRk _).mono ?_); rintro e w' ⟨nv, rfl, hno, hx4⟩)
            clear HRk
            obtain ⟨A2, C2, rfl, hn1, hn2⟩ := own_form hno
            unfold maxLen at hn2
            have hrel := hrel1.out.go hx4
            have hne : (Value.slice A2 N.length C2).ownBlock = none ∨ (Value.slice A2 N.length C2).ownBlock ≠ (Value.slice A1 L.length C1).ownBlock := by
              cases hk2 : (Value.slice A2 N.length C2).ownBlock with
              | none => exact .inl rfl
              | some g =>
                refine .inr fun h3 => ?_
                have h1 := (hno.lt g hk2).1
                have h2 := (hrel1.out.own.lt g h3.symm).2
                omega
            have hno' := own_mono hno (show w.heap.size ≤ _ from hrel1.out.ext.le)
            have hrel2 := Lib.hid (And.intro hrel (And.intro hno' hne))
            clear hrel hno hno' hne hrel1
            go_wp2_with fail
            go_loopw [28, 3] (fun i out wr => ∃ (m : Nat) (A1 : Option Addr) (C1 : Nat) (M : List ByteArray), m ≤ N.length ∧ i = .int .i64 m ∧ out = .slice A1 M.length C1 ∧ M = addAll L (N.take m) ∧ NRel w wr (.slice A1 M.length C1) (.slice (some ad) t.kids.length C) M 97 t.kids.length (teVals t.kids) ∧
              wr.ownsRow w.heap.size 9 1 (.slice A2 N.length C2) N.length (strVals N) ∧ ((Value.slice A2 N.length C2).ownBlock = none ∨ (Value.slice A2 N.length C2).ownBlock ≠ (Value.slice A1 M.length C1).ownBlock)) (fun i _ _ => N.length - (intOf i).toNat)
            case atStart => exact ⟨0, A1, C1, L, by omega, rfl, rfl, rfl, hrel2.out⟩
            case round =>
              obtain ⟨m, A3, C3, M, hm, rfl, rfl, hM, hrel, hno, hne⟩ := hrel
              by_cases hlt2 : m < N.length
              · obtain ⟨s, e1, hv⟩ := strVals_at hlt2
                obtain ⟨ad2, u, rfl, hu, hc2⟩ := (Rd.of_own hno).at1 hlt2
                obtain rfl : Value.string s = u := by rw [hv] at hu; injection hu
                have hS2 : addAll L (N.take (m + 1)) = addNew M s := by rw [addAll_take e1, hM]
                have hMl : M.length ≤ L.length + m := by have := addAll_len L (N.take m); rw [← hM, List.length_take] at this; omega
                obtain ⟨A4, C4, e4, hq1, hq2⟩ := own_form hrel.own
                injection e4 with e4 e5 e6
                subst e4 e6
                have hS2 := Lib.hid hS2
                have hm0 := Lib.hid (show m + 1 ≤ N.length from hlt2)
                have hml0 := Lib.hid (show M.length + 1 ≤ 2 ^ 32 by have := hb0.out; omega)
                have hrd := Rd.of_own hrel.own
                have hrel3 := Lib.hid (And.intro hrel (And.intro hno hne))
                clear hv hu e1 hM hMl hrel hno hne e5
                (go_wp2_with fail; (with_reducible refine (scontains_calls M s _ _ _ hrd hq1 hq2).mono ?_); rintro e w' ⟨rfl, hx5⟩)
                cases hb : (M.any fun x => s == x) with
                | true =>
                  have hadd : addNew M s = M := by unfold addNew; rw [if_pos hb]
                  have hadd := Lib.hid hadd
                  clear hb hrd
                  go_wp2_with fail
                  go_roundw
                  case rel => exact ⟨m + 1, A3, C3, M, hm0.out, by go_num, rfl, by rw [hS2.out, hadd.out], hrel3.out.1.go hx5, hx5.own hrel3.out.2.1, hrel3.out.2.2⟩
                  case measure => simp [intOf]; omega
                | false =>
                  have hadd : addNew M s = M ++ [s] := by unfold addNew; rw [if_neg (by rw [hb]; simp)]
                  have hadd := Lib.hid hadd
                  have hrel5 := hrel3.out.1.go hx5
                  have hno5 := hx5.own hrel3.out.2.1
                  have h63 : M.length + 1 ≤ maxLen := by have := hml0.out; unfold maxLen; omega
                  have hby : (M.length + 1) * 16 ≤ 140737488355328 := by have := hml0.out; omega
                  clear hb hrd
                  go_wp2_with (at_builtin; refine wpList_app elemStr rfl _ _ rfl w.heap.size (.slice A3 M.length C3) M.length (strVals M) rfl (hrel5.own.alloc _) _ 1 1 [.string s] rfl (Rd.new _ #[.string s] _ 1 1 rfl) (by simp [Value.oneCell']) h63 hby (by have := hrel5.ext.le; simp; omega) ?_; intro v1 w1 hown1 hg1 hat1)
                  have hq := Lib.hid ((hrel5.go ((Ext.refl _).alloc _)).put hown1 hg1 hat1)
                  have hno6 := Lib.hid ((hno5.alloc _).kept hg1 hrel3.out.2.2)
                  have hne6 := Lib.hid (own_ne (hno5.alloc _) hrel3.out.2.2 hat1)
                  obtain ⟨A6, C6, rfl, h6, h7⟩ := own_form hown1
                  have e7 := Lib.hid (show (M ++ [s]).length = M.length + 1 by simp)
                  clear hown1 hg1 hat1 hno5 hrel5 h63 hby
                  go_wp2_with fail
                  go_roundw
                  case rel => exact ⟨m + 1, A6, C6, M ++ [s], hm0.out, by go_num, by rw [e7.out], by rw [hS2.out, hadd.out], by rw [e7.out]; exact hq.out, hno6.out, by rw [e7.out]; exact hne6.out⟩
                  case measure => simp [intOf]; omega
              · obtain rfl : m = N.length := by omega
                rw [List.take_length] at hM
                go_wp2_with fail
                go_roundw
                case rel => exact ⟨j + 1, A3, C3, M, hj0.out, by go_num, rfl, by rw [hS0.out, hM], hrel⟩
                case measure => simp [intOf]; omega
          · obtain rfl : j = t.kids.length := by omega
            rw [List.take_length, ← HN.out] at hL
            subst hL
            clear HK HR
            go_wp2
            apply bodyPost_ret
            · exact results_tmp rfl _ _ _
            · rfl
            exact ⟨_, rfl, hrel.own, hrel.ext⟩

end Go.Proofs.Ytgjjngkmbplijaa
