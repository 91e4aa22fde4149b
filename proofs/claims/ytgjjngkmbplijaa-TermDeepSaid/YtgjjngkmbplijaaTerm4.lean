/- Package term: Labels, Check; the law's 'wakes'. -/
import Derived.Test.YtgjjngkmbplijaaTerm3
namespace Go.Proofs.Ytgjjngkmbplijaa
open Go.RowKit
set_option linter.unusedSimpArgs false
set_option linter.unusedVariables false

def Te.labels : Te → List ByteArray
  | .or s l r => [s] ++ (l.labels ++ r.labels)
  | .give t => t.labels
  | .and l r => l.labels ++ r.labels
  | .scale _ t => t.labels
  | .whn _ t => t.labels
  | .cond _ l r => l.labels ++ r.labels
  | _ => []
def labelsOf (l : List Te) : List ByteArray := l.flatMap Te.labels
def Te.ownL : Te → List ByteArray
  | .or s _ _ => [s]
  | _ => []
theorem Te.labels_eq (t : Te) : t.labels = t.ownL ++ labelsOf t.kids := by
  cases t <;> simp [Te.labels, Te.ownL, labelsOf, Te.kids]
theorem labelsOf_snoc (l : List Te) (k : Te) : labelsOf (l ++ [k]) = labelsOf l ++ k.labels := by simp [labelsOf]
theorem Te.labels_len (t : Te) : t.labels.length ≤ t.nodes := by
  induction t <;> simp only [Te.labels, Te.nodes, List.length_append, List.length_cons, List.length_nil] <;> omega
theorem labelsOf_len (l : List Te) : (labelsOf l).length ≤ sumT l := by
  induction l with
  | nil => simp [labelsOf]
  | cons k r ih => have := k.labels_len; simp only [labelsOf, sumT, List.flatMap_cons, List.length_append, List.map_cons, List.sum_cons] at *; omega
def Te.isOr : Te → Bool
  | .or _ _ _ => true
  | _ => false
theorem Te.form_noor {t : Te} (h : t.wf) (hf : t.isOr = false) : (t.val = .nilIface ∨ ∃ k x, t.val = .iface k x ∧ k ≠ 104) ∧ t.ownL = [] := by
  cases t with
  | odd v => rcases h with rfl | ⟨t, x, rfl, h1, h2, h3, h4, h5, _⟩
             · exact ⟨.inl rfl, rfl⟩
             · exact ⟨.inr ⟨t, x, rfl, h5⟩, rfl⟩
  | or s l r => simp [Te.isOr] at hf
  | _ => exact ⟨.inr ⟨_, _, rfl, by decide⟩, rfl⟩
theorem Te.form_or {t : Te} (h : t.wf) (hf : t.isOr = true) : ∃ s l r, t = .or s l r ∧ l.wf ∧ r.wf ∧ s.size ≤ 1000 := by
  cases t <;> simp [Te.isOr] at hf
  exact ⟨_, _, _, rfl, h.2.1, h.2.2, h.1⟩

theorem NRel.putAll {w wr wr' : World} {v kv : Value} {L N : List ByteArray} {e : TypeId} {nk : Nat} {xs : List Value} (h : NRel w wr v kv L e nk xs) {v1 : Value} (h1 : wr'.ownsRow w.heap.size 9 1 v1 (L.length + N.length) (strVals L ++ strVals N)) (hg : wr.grownBy wr' v.ownBlock) (hat : v1.ownBlock = v.ownBlock ∨ v1.ownBlock = some wr.heap.size) :
    NRel w wr' v1 kv (L ++ N) e nk xs := by
  refine ⟨by rw [strVals_app, List.length_append]; exact h1, h.kids.kept hg h.ne, ?_, h.ext.grown hg (fun k hk => (h.own.lt k hk).1)⟩
  rcases hat with h2 | h2 <;> rw [h2]
  · exact h.ne
  · cases hk : kv.ownBlock with
    | none => exact .inl rfl
    | some g => exact .inr (fun h3 => by injection h3 with h3; have := (h.kids.lt g hk).2; omega)

set_option maxRecDepth 100000 in
set_option maxHeartbeats 1600000 in
theorem tlabels_calls (k : Nat) : ∀ (t : Te) (w : World), SizeOf.sizeOf t < k → t.wf → t.nodes ≤ 2 ^ 32 → Calls Try.prog 75 #[t.val] w fun e w' => RetOwn w 9 1 t.labels.length (strVals t.labels) e w' := by
  induction k with
  | zero => intro o w h; omega
  | succ k ih =>
    intro t w hk hwf hn
    have H2 := fun w' => tkids_own t w' hwf
    have HN := Lib.hid (Te.labels_eq t)
    have HK := fun (i : Nat) (h : i < t.kids.length) => tkids_at (o := t) h
    have hsum : sumT t.kids ≤ 2 ^ 32 := Nat.le_trans t.sumT_le hn
    have HR : ∀ (k' : Te) (w' : World), k' ∈ t.kids → Calls Try.prog 75 #[k'.val] w' fun e w'' => RetOwn w' 9 1 k'.labels.length (strVals k'.labels) e w'' := fun k' w' hm => ih k' w' (by have := Te.kids_size hm; omega) (Te.kids_wf hwf hm) (by
      have h1 := sumT_mem hm
      omega)
    have HT := Lib.hid (fun i => Nat.le_trans (sumT_take t.kids i) hsum)
    have hol : t.ownL.length ≤ 1 := by cases t <;> simp [Te.ownL]
    cases hor : t.isOr with
    | true =>
      obtain ⟨s, l, r, e0, hl, hr, hs⟩ := Te.form_or hwf hor
      have hown : t.ownL = [s] := by rw [e0]; rfl
      have hval : t.val = .iface 104 (.agg #[.string s, l.val, r.val]) := by rw [e0]; rfl
      clear ih hk hn hwf hsum e0
      rw [hown] at HN
      rw [hval] at H2 ⊢
      clear hval
      generalize t.labels = NN at *
      have hf1 := Te.form hl
      have hf2 := Te.form hr
      generalize l.val = lv at *
      generalize r.val = rv at *
      rcases hf1 with rfl | ⟨t1, x1, rfl⟩ <;> rcases hf2 with rfl | ⟨t2, x2, rfl⟩
      all_goals
        go_enter Try.func75, Try.ntmps75
        go_wp2_with (at_builtin; (refine wpList_app elemStr rfl _ _ rfl w.heap.size (.slice none 0 0) 0 [] rfl (World.ownsRow_nil _ _ _ _) (some ⟨w.heap.size + 1, 0, none⟩) 1 1 [.string s] rfl (Rd.newAt (by simp) rfl rfl) (by simp [Value.oneCell']) (by unfold maxLen; omega) (by omega) (by simp +arith) ?_); intro v1 w1 hown1 hg1 hat1)
        have hE1 : Ext w w1 := ((((Ext.refl w).alloc _).alloc _)).grown hg1 (fun k hk => by simp [Value.ownBlock] at hk)
        simp only [Nat.zero_add, List.nil_append] at hown1
        obtain ⟨A6, C6, rfl, h6, h7⟩ := own_form hown1
        have hown6 := Lib.hid hown1
        clear hown1 hg1 hat1
        (go_wp2_with fail; (with_reducible refine (H2 _).mono ?_); rintro e w' ⟨kv, rfl, hko, hx⟩)
        clear H2
        obtain ⟨A, C, rfl, hnc, hcm⟩ := own_form hko
        have hrel0 := Lib.hid (show NRel w w' (.slice A6 1 C6) (.slice A t.kids.length C) [s] 97 t.kids.length (teVals t.kids) from
          ⟨hx.own hown6.out, own_mono hko hE1.le, (by
            cases hk2 : (Value.slice A t.kids.length C).ownBlock with
            | none => exact .inl rfl
            | some g =>
              refine .inr fun h3 => ?_
              have h1 := (hko.lt g hk2).1
              have h2 := (hown6.out.lt g h3.symm).2
              omega), hE1.trans hx⟩)
        clear hko hx hown6
        unfold maxLen at hcm
        go_wp2_with fail
        go_loopw [22, 3] (fun i out wr => ∃ (j : Nat) (A1 : Option Addr) (C1 : Nat) (L : List ByteArray), j ≤ t.kids.length ∧ i = .int .i64 j ∧ out = .slice A1 L.length C1 ∧ L = [s] ++ labelsOf (t.kids.take j) ∧ NRel w wr (.slice A1 L.length C1) (.slice A t.kids.length C) L 97 t.kids.length (teVals t.kids)) (fun i _ _ => t.kids.length - (intOf i).toNat)
        case atStart => exact ⟨0, _, _, [s], by omega, rfl, rfl, by simp [labelsOf], hrel0.out⟩
        case round =>
          obtain ⟨j, A1, C1, L, hj, rfl, rfl, hL, hrel⟩ := hrel
          clear hrel0
          by_cases hlt : j < t.kids.length
          · obtain ⟨k', e1, hm, htk, hv⟩ := HK j hlt
            obtain ⟨ad, u, rfl, hu, hc⟩ := (Rd.of_own hrel.kids).at1 hlt
            obtain rfl : k'.val = u := by rw [hv] at hu; injection hu
            have HRk := fun w' => HR k' w' hm
            have hb := HT.out (j + 1)
            have hS : [s] ++ labelsOf (t.kids.take (j + 1)) = L ++ k'.labels := by rw [htk, labelsOf_snoc, hL, List.append_assoc]
            have hS0 := Lib.hid hS
            have hj0 := Lib.hid (show j + 1 ≤ t.kids.length from hlt)
            have hb0 : L.length + k'.labels.length ≤ 2 ^ 33 := by
              have h1 := labelsOf_len (t.kids.take j)
              have h2 := k'.labels_len
              have h3 : L.length ≤ 1 + (labelsOf (t.kids.take j)).length := by rw [hL, List.length_append]; simp only [List.length_cons, List.length_nil]; omega
              rw [htk, sumT_snoc] at hb
              omega
            have hrel1 := Lib.hid hrel
            clear hv hu HK HR e1 htk hm hS HT hL hrel hb
            generalize k'.labels = N at *
            generalize k'.val = v1 at *
            (go_wp2_with fail; (with_reducible refine (HRk _).mono ?_); rintro e w' ⟨nv, rfl, hno, hx4⟩)
            clear HRk
            obtain ⟨A2, C2, rfl, hn1, hn2⟩ := own_form hno
            have hrel := hrel1.out.go hx4
            have hrd := Rd.of_own hno
            have h63 : L.length + N.length ≤ maxLen := by unfold maxLen; omega
            have hby : (L.length + N.length) * 16 ≤ 140737488355328 := by omega
            clear hno hn1 hn2
            go_wp2_with (at_builtin; refine wpList_app elemStr rfl _ _ rfl w.heap.size (.slice A1 L.length C1) L.length (strVals L) rfl hrel.own A2 N.length C2 (strVals N) rfl hrd (strVals_one N) h63 hby hrel.ext.le ?_; intro v1 w1 hown1 hg1 hat1)
            have hq := Lib.hid (hrel.putAll hown1 hg1 hat1)
            obtain ⟨A6, C6, rfl, h6, h7⟩ := own_form hown1
            have e7 := Lib.hid (show (L ++ N).length = L.length + N.length by simp)
            clear hown1 hg1 hat1 h63 hby hrd hrel
            go_wp2_with fail
            go_roundw
            case rel => exact ⟨j + 1, A6, C6, L ++ N, hj0.out, by go_num, by rw [e7.out], hS0.out.symm, by rw [e7.out]; exact hq.out⟩
            case measure => simp [intOf]; omega
          · obtain rfl : j = t.kids.length := by omega
            rw [List.take_length, ← HN.out] at hL
            subst hL
            clear HK HR
            go_wp2
            apply bodyPost_ret
            · exact results_tmp rfl _ _ _
            · rfl
            exact ⟨_, rfl, hrel.own, hrel.ext⟩
    | false =>
      obtain ⟨hform, hown⟩ := Te.form_noor hwf hor
      clear ih hk hn hwf hsum
      rw [hown] at HN
      generalize t.labels = NN at *
      generalize Te.val t = v at *
      rcases hform with rfl | ⟨ty, x, rfl, ht⟩
      all_goals
        go_enter Try.func75, Try.ntmps75
        (go_wp2_with fail; (with_reducible refine (H2 _).mono ?_); rintro e w' ⟨kv, rfl, hko, hx⟩)
        clear H2
        obtain ⟨A, C, rfl, hnc, hcm⟩ := own_form hko
        have hrel0 := Lib.hid (show NRel w w' (.slice none 0 0) (.slice A t.kids.length C) [] 97 t.kids.length (teVals t.kids) from
          ⟨World.ownsRow_nil _ _ _ _, own_mono hko (by simp +arith), (by cases A with | none => exact .inl rfl | some a => exact .inr (by simp [Value.ownBlock])), ((by repeat' (first | (with_reducible exact Ext.refl _) | (with_reducible assumption) | (with_reducible refine Ext.alloc ?_ _) | (with_reducible refine Ext.drew ?_) | (with_reducible refine Ext.drewN ?_ _) | (with_reducible refine Ext.setCell ?_ (by first | exact Nat.le_refl _ | (simp; done) | (simp; omega) | omega) _) | (with_reducible refine Ext.trans ?_ (by assumption)))))⟩)
        clear hko hx
        unfold maxLen at hcm
        go_wp2_with fail
        go_loopw [22, 3] (fun i out wr => ∃ (j : Nat) (A1 : Option Addr) (C1 : Nat) (L : List ByteArray), j ≤ t.kids.length ∧ i = .int .i64 j ∧ out = .slice A1 L.length C1 ∧ L = ([] : List ByteArray) ++ labelsOf (t.kids.take j) ∧ NRel w wr (.slice A1 L.length C1) (.slice A t.kids.length C) L 97 t.kids.length (teVals t.kids)) (fun i _ _ => t.kids.length - (intOf i).toNat)
        case atStart => exact ⟨0, _, _, ([] : List ByteArray), by omega, rfl, rfl, by simp [labelsOf], hrel0.out⟩
        case round =>
          obtain ⟨j, A1, C1, L, hj, rfl, rfl, hL, hrel⟩ := hrel
          clear hrel0
          by_cases hlt : j < t.kids.length
          · obtain ⟨k', e1, hm, htk, hv⟩ := HK j hlt
            obtain ⟨ad, u, rfl, hu, hc⟩ := (Rd.of_own hrel.kids).at1 hlt
            obtain rfl : k'.val = u := by rw [hv] at hu; injection hu
            have HRk := fun w' => HR k' w' hm
            have hb := HT.out (j + 1)
            have hS : ([] : List ByteArray) ++ labelsOf (t.kids.take (j + 1)) = L ++ k'.labels := by rw [htk, labelsOf_snoc, hL, List.append_assoc]
            have hS0 := Lib.hid hS
            have hj0 := Lib.hid (show j + 1 ≤ t.kids.length from hlt)
            have hb0 : L.length + k'.labels.length ≤ 2 ^ 33 := by
              have h1 := labelsOf_len (t.kids.take j)
              have h2 := k'.labels_len
              have h3 : L.length ≤ 1 + (labelsOf (t.kids.take j)).length := by rw [hL, List.length_append]; simp only [List.length_cons, List.length_nil]; omega
              rw [htk, sumT_snoc] at hb
              omega
            have hrel1 := Lib.hid hrel
            clear hv hu HK HR e1 htk hm hS HT hL hrel hb
            generalize k'.labels = N at *
            generalize k'.val = v1 at *
            (go_wp2_with fail; (with_reducible refine (HRk _).mono ?_); rintro e w' ⟨nv, rfl, hno, hx4⟩)
            clear HRk
            obtain ⟨A2, C2, rfl, hn1, hn2⟩ := own_form hno
            have hrel := hrel1.out.go hx4
            have hrd := Rd.of_own hno
            have h63 : L.length + N.length ≤ maxLen := by unfold maxLen; omega
            have hby : (L.length + N.length) * 16 ≤ 140737488355328 := by omega
            clear hno hn1 hn2
            go_wp2_with (at_builtin; refine wpList_app elemStr rfl _ _ rfl w.heap.size (.slice A1 L.length C1) L.length (strVals L) rfl hrel.own A2 N.length C2 (strVals N) rfl hrd (strVals_one N) h63 hby hrel.ext.le ?_; intro v1 w1 hown1 hg1 hat1)
            have hq := Lib.hid (hrel.putAll hown1 hg1 hat1)
            obtain ⟨A6, C6, rfl, h6, h7⟩ := own_form hown1
            have e7 := Lib.hid (show (L ++ N).length = L.length + N.length by simp)
            clear hown1 hg1 hat1 h63 hby hrd hrel
            go_wp2_with fail
            go_roundw
            case rel => exact ⟨j + 1, A6, C6, L ++ N, hj0.out, by go_num, by rw [e7.out], hS0.out.symm, by rw [e7.out]; exact hq.out⟩
            case measure => simp [intOf]; omega
          · obtain rfl : j = t.kids.length := by omega
            rw [List.take_length, ← HN.out] at hL
            subst hL
            clear HK HR
            go_wp2
            apply bodyPost_ret
            · exact results_tmp rfl _ _ _
            · rfl
            exact ⟨_, rfl, hrel.own, hrel.ext⟩

/-- Is one of them there twice? -/
def twice (l : List ByteArray) : Bool := (List.range l.length).any fun i => (l.take i).any fun x => (l[i]?.getD ⟨#[]⟩) == x
/-- What Check answers. -/
def Te.checked (t : Te) : Int := if t.formed = true then (if 60 < t.nodes ∨ 12 < t.depth then 5 else if twice t.labels = true then 4 else 0) else 2
theorem twice_hit {l : List ByteArray} {i : Nat} {s : ByteArray} (h : l[i]? = some s) (h2 : ((l.take i).any fun x => s == x) = true) : twice l = true := by
  unfold twice
  rw [List.any_eq_true]
  exact ⟨i, List.mem_range.2 (List.getElem?_eq_some_iff.1 h).1, by rw [h]; exact h2⟩
theorem twice_no {l : List ByteArray} (h : ∀ i s, l[i]? = some s → ((l.take i).any fun x => s == x) = false) : twice l = false := by
  unfold twice
  rw [List.any_eq_false]
  intro i hi
  have hl := List.mem_range.1 hi
  have e : l[i]? = some l[i] := List.getElem?_eq_getElem hl
  rw [e]
  have := h i _ e
  simp only [Option.getD_some]
  rw [this]
  decide
theorem Te.checked_no {t : Te} (h : t.formed = false) : t.checked = 2 := by unfold Te.checked; rw [h]; rfl
theorem Te.checked_lim {t : Te} (h : t.formed = true) (h2 : 60 < t.nodes ∨ 12 < t.depth) : t.checked = 5 := by unfold Te.checked; rw [if_pos h, if_pos h2]
theorem Te.checked_tw {t : Te} (h : t.formed = true) (h2 : t.nodes ≤ 60) (h3 : t.depth ≤ 12) (h4 : twice t.labels = true) : t.checked = 4 := by unfold Te.checked; rw [if_pos h, if_neg (by omega), if_pos h4]
theorem Te.checked_ok {t : Te} (h : t.formed = true) (h2 : t.nodes ≤ 60) (h3 : t.depth ≤ 12) (h4 : twice t.labels = false) : t.checked = 0 := by unfold Te.checked; rw [if_pos h, if_neg (by omega), if_neg (by rw [h4]; decide)]

set_option maxRecDepth 100000 in
set_option maxHeartbeats 1600000 in
theorem tcheck_calls (t : Te) (w : World) (h : t.wf) (hn : t.nodes ≤ 2 ^ 32) : Calls Try.prog 64 #[t.val] w fun e w' => e = .returned (.int .i64 t.checked) ∧ Ext w w' := by
  have H1 := tform_calls _ t w (Nat.lt_succ_self _) h (by omega)
  have H2 := fun w' => tsize_calls _ t w' (Nat.lt_succ_self _) h (by omega)
  have H3 := fun w' => tlabels_calls _ t w' (Nat.lt_succ_self _) h hn
  have hd := t.depth_le
  have hll := t.labels_len
  cases hb : t.formed with
  | false =>
    have C1 := Lib.hid (Te.checked_no hb)
    rw [hb] at H1
    generalize t.val = v at *
    generalize t.checked = x at *
    clear hb
    go_enter Try.func64, Try.ntmps64
    (go_wp2_with fail; (with_reducible refine (H1).mono ?_); rintro e w' ⟨rfl, hx⟩)
    go_wp2
    go_ret
    exact ⟨by rw [C1.out]; rfl, hx⟩
  | true =>
    have C2 := Lib.hid (fun h => Te.checked_lim hb h)
    have C3 := Lib.hid (fun h h2 h3 => Te.checked_tw hb h h2 h3)
    have C4 := Lib.hid (fun h h2 h3 => Te.checked_ok hb h h2 h3)
    rw [hb] at H1
    generalize t.val = v at *
    generalize t.checked = x at *
    generalize t.nodes = n at *
    generalize t.depth = d at *
    generalize t.labels = L at *
    clear hb
    go_enter Try.func64, Try.ntmps64
    (go_wp2_with fail; (with_reducible refine (H1).mono ?_); rintro e w' ⟨rfl, hx⟩)
    (go_wp2_with fail; (with_reducible refine (H2 _).mono ?_); rintro e w' ⟨rfl, hx2⟩)
    clear H1 H2
    by_cases h1 : 60 < n
    · go_wp2
      go_ret
      exact ⟨by rw [C2.out (.inl h1)]; rfl, hx.trans hx2⟩
    · by_cases h2 : 12 < d
      · go_wp2
        go_ret
        exact ⟨by rw [C2.out (.inr h2)]; rfl, hx.trans hx2⟩
      · (go_wp2_with fail; (with_reducible refine (H3 _).mono ?_); rintro e w' ⟨lv, rfl, hlo, hx3⟩)
        obtain ⟨A, C, rfl, hnc, hcm⟩ := own_form hlo
        have hrd := Rd.of_own hlo
        have hxx : Ext w w' := ((by repeat' (first | (with_reducible exact Ext.refl _) | (with_reducible assumption) | (with_reducible refine Ext.alloc ?_ _) | (with_reducible refine Ext.drew ?_) | (with_reducible refine Ext.drewN ?_ _) | (with_reducible refine Ext.setCell ?_ (by first | exact Nat.le_refl _ | (simp; done) | (simp; omega) | omega) _) | (with_reducible refine Ext.trans ?_ (by assumption)))))
        have hcm' : C ≤ maxLen := hcm
        unfold maxLen at hcm
        clear hlo
        go_wp2_with fail
        go_loopw [26] (fun i wr => ∃ j : Nat, j ≤ L.length ∧ i = .int .i64 j ∧ Ext w wr ∧ Rd wr 1 A L.length (strVals L) ∧ ∀ i s, i < j → L[i]? = some s → ((L.take i).any fun x => s == x) = false) (fun i _ => L.length - (intOf i).toNat)
        case atStart => exact ⟨0, by omega, rfl, hxx, hrd, fun i s h => by omega⟩
        case round =>
          obtain ⟨j, hj, rfl, hx, hr, hno⟩ := hrel
          by_cases hlt : j < L.length
          · obtain ⟨s, e1, hv⟩ := strVals_at hlt
            obtain ⟨ad, u, rfl, hu, hc⟩ := hr.at1 hlt
            obtain rfl : Value.string s = u := by rw [hv] at hu; injection hu
            have hlj : (L.take j).length = j := by rw [List.length_take]; omega
            have hrt := hr.take (k := j) (by omega)
            rw [show (strVals L).take (j * 1) = strVals (L.take j) by simp [strVals]] at hrt
            have HC := fun w' (h : Ext wr w') => scontains_calls (L.take j) s (some ad) C w' (by rw [hlj]; exact hrt.ext h) (by rw [hlj]; omega) hcm'
            rw [hlj] at HC
            have hr0 := Lib.hid hr
            have e0 := Lib.hid e1
            have hj0 := Lib.hid (show j + 1 ≤ L.length from hlt)
            have hno0 := Lib.hid hno
            clear hr hv hu e1 hrt hlj hno
            generalize hq : ((L.take j).any fun x => s == x) = q at *
            have hq0 := Lib.hid hq
            clear hq
            cases q with
            | true =>
              (go_wp2_with fail; (with_reducible refine (HC _ ((by repeat' (first | (with_reducible exact Ext.refl _) | (with_reducible assumption) | (with_reducible refine Ext.alloc ?_ _) | (with_reducible refine Ext.drew ?_) | (with_reducible refine Ext.drewN ?_ _) | (with_reducible refine Ext.setCell ?_ (by first | exact Nat.le_refl _ | (simp; done) | (simp; omega) | omega) _) | (with_reducible refine Ext.trans ?_ (by assumption)))))).mono ?_); rintro e w' ⟨rfl, hx5⟩)
              go_wp2
              go_ret
              exact ⟨by rw [C3.out (by omega) (by omega) (twice_hit e0.out hq0.out)]; rfl, (by repeat' (first | (with_reducible exact Ext.refl _) | (with_reducible assumption) | (with_reducible refine Ext.alloc ?_ _) | (with_reducible refine Ext.drew ?_) | (with_reducible refine Ext.drewN ?_ _) | (with_reducible refine Ext.setCell ?_ (by first | exact Nat.le_refl _ | (simp; done) | (simp; omega) | omega) _) | (with_reducible refine Ext.trans ?_ (by assumption))))⟩
            | false =>
              (go_wp2_with fail; (with_reducible refine (HC _ ((by repeat' (first | (with_reducible exact Ext.refl _) | (with_reducible assumption) | (with_reducible refine Ext.alloc ?_ _) | (with_reducible refine Ext.drew ?_) | (with_reducible refine Ext.drewN ?_ _) | (with_reducible refine Ext.setCell ?_ (by first | exact Nat.le_refl _ | (simp; done) | (simp; omega) | omega) _) | (with_reducible refine Ext.trans ?_ (by assumption)))))).mono ?_); rintro e w' ⟨rfl, hx5⟩)
              go_wp2_with fail
              go_roundw
              case rel => exact ⟨j + 1, hj0.out, by go_num, hx.trans hx5, hr0.out.ext hx5, fun i s' hi hs => by
                rcases Nat.lt_succ_iff_lt_or_eq.1 hi with h | h
                · exact hno0.out i s' h hs
                · subst h
                  rw [e0.out] at hs
                  injection hs with hs
                  subst hs
                  exact hq0.out⟩
              case measure => simp [intOf]; omega
          · obtain rfl : j = L.length := by omega
            have h4 := Lib.hid (twice_no (fun i s h => hno i s (List.getElem?_eq_some_iff.1 h).1 h))
            clear hno
            go_wp2
            go_ret
            exact ⟨by rw [C4.out (by omega) (by omega) h4.out]; rfl, hx⟩

set_option maxRecDepth 100000 in
set_option maxHeartbeats 400000 in
theorem wakes05_calls (w : World) : Calls Try.prog 65 #[] w fun e w' => e = .returned (.bool true) ∧ Ext w w' := by
  have H1 := fun w' => tsize_calls _ .zero w' (Nat.lt_succ_self _) trivial (by decide)
  have H2 := fun w' => tcheck_calls (.odd .nilIface) w' (.inl rfl) (by decide)
  have H3 := fun w' => tcheck_calls .zero w' trivial (by decide)
  rw [show Te.checked (.odd .nilIface) = 2 by decide] at H2
  rw [show Te.checked .zero = 0 by decide] at H3
  rw [show Te.nodes .zero = 1 from rfl, show Te.depth .zero = 1 from rfl] at H1
  simp only [Te.val] at H1 H2 H3
  go_enter Try.func65, Try.ntmps65
  (go_wp2_with fail; (with_reducible refine (H1 _).mono ?_); rintro e w' ⟨rfl, hx1⟩)
  (go_wp2_with fail; (with_reducible refine (H2 _).mono ?_); rintro e w' ⟨rfl, hx2⟩)
  (go_wp2_with fail; (with_reducible refine (H3 _).mono ?_); rintro e w' ⟨rfl, hx3⟩)
  go_wp2
  go_ret
  exact ⟨rfl, (by repeat' (first | (with_reducible exact Ext.refl _) | (with_reducible assumption) | (with_reducible refine Ext.alloc ?_ _) | (with_reducible refine Ext.drew ?_) | (with_reducible refine Ext.drewN ?_ _) | (with_reducible refine Ext.setCell ?_ (by first | exact Nat.le_refl _ | (simp; done) | (simp; omega) | omega) _) | (with_reducible refine Ext.trans ?_ (by assumption))))⟩

end Go.Proofs.Ytgjjngkmbplijaa
