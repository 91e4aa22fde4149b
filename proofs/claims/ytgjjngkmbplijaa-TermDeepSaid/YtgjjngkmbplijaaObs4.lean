/- Package obs: Names. -/
import Derived.Test.YtgjjngkmbplijaaObs3
namespace Go.Proofs.Ytgjjngkmbplijaa
open Go.RowKit
set_option linter.unusedSimpArgs false
set_option linter.unusedVariables false

def Ob.names : Ob → List ByteArray
  | .fix s => [s]
  | .add l r => addAll (addAll [] l.names) r.names
  | .neg o => addAll [] o.names
  | .mul l r => addAll (addAll [] l.names) r.names
  | .max l r => addAll (addAll [] l.names) r.names
  | _ => []
def namesOf (l : List Ob) : List ByteArray := l.foldl (fun L k => addAll L k.names) []
def Ob.isFix : Ob → Bool
  | .fix _ => true
  | _ => false
theorem Ob.names_kids {o : Ob} (h : o.isFix = false) : o.names = namesOf o.kids := by
  cases o <;> simp [Ob.isFix] at h <;> simp [Ob.names, namesOf, Ob.kids]
theorem Ob.names_len (o : Ob) : o.names.length ≤ o.nodes := by
  induction o with
  | const n => simp [Ob.names]
  | fix s => simp [Ob.names, Ob.nodes]
  | odd v => simp [Ob.names]
  | neg o ih => have := addAll_len [] o.names; simp only [Ob.names, Ob.nodes, List.length_nil] at *; omega
  | _ l r ihl ihr =>
    have h1 := addAll_len [] l.names
    have h2 := addAll_len (addAll [] l.names) r.names
    simp only [Ob.names, Ob.nodes, List.length_nil] at *
    omega
theorem namesOf_snoc (l : List Ob) (k : Ob) : namesOf (l ++ [k]) = addAll (namesOf l) k.names := by simp [namesOf]
theorem namesOf_len (l : List Ob) : (namesOf l).length ≤ sumN l := by
  suffices ∀ (l : List Ob) (L : List ByteArray), (l.foldl (fun L k => addAll L k.names) L).length ≤ L.length + sumN l by simpa [namesOf] using this l []
  intro l
  induction l with
  | nil => intro L; simp [sumN]
  | cons k t ih =>
    intro L
    have h1 := ih (addAll L k.names)
    have h2 := addAll_len L k.names
    have h3 := k.names_len
    simp only [sumN, List.map_cons, List.sum_cons, List.foldl_cons] at *
    omega
/-- What is not a Fix. -/
theorem Ob.form_nofix {o : Ob} (h : o.wf) (hf : o.isFix = false) : o.val = .nilIface ∨ ∃ t x, o.val = .iface t x ∧ t ≠ 60 := by
  cases o with
  | odd v => rcases h with rfl | ⟨t, x, rfl, h1, h2, _⟩
             · exact .inl rfl
             · exact .inr ⟨t, x, rfl, h2⟩
  | fix s => simp [Ob.isFix] at hf
  | _ => exact .inr ⟨_, _, rfl, by decide⟩

theorem own_mono {w : World} {base base' : Nat} {e : TypeId} {size n : Nat} {v : Value} {xs : List Value} (h : w.ownsRow base e size v n xs) (hb : base' ≤ base) : w.ownsRow base' e size v n xs := by
  refine ⟨h.1, ?_⟩
  rcases h.2 with h1 | ⟨g, cap, cur, h1, h2, h3⟩
  · exact .inl h1
  · exact .inr ⟨g, cap, cur, h1, Nat.le_trans hb h2, h3⟩

theorem own_ne {w : World} {base : Nat} {e : TypeId} {size n : Nat} {v v0 v1 : Value} {xs : List Value} (h : w.ownsRow base e size v n xs) (hne : v.ownBlock = none ∨ v.ownBlock ≠ v0.ownBlock) (hat : v1.ownBlock = v0.ownBlock ∨ v1.ownBlock = some w.heap.size) :
    v.ownBlock = none ∨ v.ownBlock ≠ v1.ownBlock := by
  rcases hat with h2 | h2 <;> rw [h2]
  · exact hne
  · cases hk : v.ownBlock with
    | none => exact .inl rfl
    | some g => exact .inr (fun h3 => by injection h3 with h3; have := (h.lt g hk).2; omega)

/-- The names so far in a row of the call's own; the parts' row is another one. -/
structure NRel (w wr : World) (v kv : Value) (L : List ByteArray) (e : TypeId) (nk : Nat) (xs : List Value) : Prop where
  own : wr.ownsRow w.heap.size 9 1 v L.length (strVals L)
  kids : wr.ownsRow w.heap.size e 1 kv nk xs
  ne : kv.ownBlock = none ∨ kv.ownBlock ≠ v.ownBlock
  ext : Ext w wr
section
variable {w wr wr' : World} {v kv : Value} {L : List ByteArray} {e : TypeId} {nk : Nat} {xs : List Value}
theorem NRel.go (h : NRel w wr v kv L e nk xs) (hx : Ext wr wr') : NRel w wr' v kv L e nk xs := ⟨hx.own h.own, hx.own h.kids, h.ne, h.ext.trans hx⟩
theorem NRel.put (h : NRel w wr v kv L e nk xs) {v1 : Value} {s : ByteArray} (h1 : wr'.ownsRow w.heap.size 9 1 v1 (L.length + 1) (strVals L ++ [.string s])) (hg : wr.grownBy wr' v.ownBlock) (hat : v1.ownBlock = v.ownBlock ∨ v1.ownBlock = some wr.heap.size) :
    NRel w wr' v1 kv (L ++ [s]) e nk xs := by
  refine ⟨by rw [strVals_app, List.length_append]; exact h1, h.kids.kept hg h.ne, ?_, h.ext.grown hg (fun k hk => (h.own.lt k hk).1)⟩
  rcases hat with h2 | h2 <;> rw [h2]
  · exact h.ne
  · cases hk : kv.ownBlock with
    | none => exact .inl rfl
    | some g => exact .inr (fun h3 => by injection h3 with h3; have := (h.kids.lt g hk).2; omega)
end

set_option maxRecDepth 100000 in
set_option maxHeartbeats 1600000 in
theorem onames_calls (k : Nat) : ∀ (o : Ob) (w : World), SizeOf.sizeOf o < k → o.wf → o.nodes ≤ 2 ^ 32 → Calls Try.prog 51 #[o.val] w fun e w' => RetOwn w 9 1 o.names.length (strVals o.names) e w' := by
  induction k with
  | zero => intro o w h; omega
  | succ k ih =>
    intro o w hk hwf hn
    cases hf : o.isFix with
    | true =>
      obtain ⟨s, rfl⟩ : ∃ s, o = .fix s := by cases o <;> simp [Ob.isFix] at hf; exact ⟨_, rfl⟩
      simp only [Ob.val, Ob.names]
      clear ih hk hn hf
      go_enter Try.func51, Try.ntmps51
      go_wp2
      apply bodyPost_ret
      · exact results_tmp rfl _ _ _
      · rfl
      exact ⟨_, rfl, own_new (by simp) rfl (by simp +arith) rfl, ((Ext.refl w).alloc _).alloc _⟩
    | false =>
      have H2 := fun w' => kids_own o w' hwf
      have HN := Lib.hid (Ob.names_kids hf)
      have HK := fun (i : Nat) (h : i < o.kids.length) => kids_at (o := o) h
      have hsum : sumN o.kids ≤ 2 ^ 32 := by
        cases ho : o.isOdd with
        | true => obtain ⟨v, rfl⟩ : ∃ v, o = .odd v := by cases o <;> simp [Ob.isOdd] at ho; exact ⟨_, rfl⟩
                  simp [Ob.kids, sumN]
        | false => have := Ob.nodes_eq ho; omega
      have HR : ∀ (k' : Ob) (w' : World), k' ∈ o.kids → Calls Try.prog 51 #[k'.val] w' fun e w'' => RetOwn w' 9 1 k'.names.length (strVals k'.names) e w'' := fun k' w' hm => ih k' w' (by have := Ob.kids_size hm; omega) (Ob.kids_wf hwf hm) (by
        have h1 := sumN_mem hm
        omega)
      have HT := Lib.hid (fun i => Nat.le_trans (sumN_take o.kids i) hsum)
      have hform := Ob.form_nofix hwf hf
      clear ih hk hn hwf hf hsum
      generalize o.names = NN at *
      generalize Ob.val o = v at *
      rcases hform with rfl | ⟨t, x, rfl, ht⟩
      all_goals
        go_enter Try.func51, Try.ntmps51
        (go_wp2_with fail; (with_reducible refine (H2 _).mono ?_); rintro e w' ⟨kv, rfl, hko, hx⟩)
        clear H2
        obtain ⟨A, C, rfl, hnc, hcm⟩ := own_form hko
        have hrel0 : NRel w w' (.slice none 0 0) (.slice A o.kids.length C) [] 53 o.kids.length (obVals o.kids) :=
          ⟨World.ownsRow_nil _ _ _ _, own_mono hko (by simp +arith), (by cases A with | none => exact .inl rfl | some a => exact .inr (by simp [Value.ownBlock])), ((Ext.refl w).alloc _).trans hx⟩
        clear hko hx
        unfold maxLen at hcm
        go_wp2_with fail
        go_loopw [22, 3] (fun i out wr => ∃ (j : Nat) (A1 : Option Addr) (C1 : Nat) (L : List ByteArray), j ≤ o.kids.length ∧ i = .int .i64 j ∧ out = .slice A1 L.length C1 ∧ L = namesOf (o.kids.take j) ∧ NRel w wr (.slice A1 L.length C1) (.slice A o.kids.length C) L 53 o.kids.length (obVals o.kids)) (fun i _ _ => o.kids.length - (intOf i).toNat)
        case atStart => exact ⟨0, none, 0, [], by omega, rfl, rfl, rfl, hrel0⟩
        case round =>
          obtain ⟨j, A1, C1, L, hj, rfl, rfl, hL, hrel⟩ := hrel
          clear hrel0
          by_cases hlt : j < o.kids.length
          · obtain ⟨k', e1, hm, htk, hv⟩ := HK j hlt
            obtain ⟨ad, u, rfl, hu, hc⟩ := (Rd.of_own hrel.kids).at1 hlt
            obtain rfl : k'.val = u := by rw [hv] at hu; injection hu
            have HRk := fun w' => HR k' w' hm
            have hb := HT.out (j + 1)
            have hS : namesOf (o.kids.take (j + 1)) = addAll L k'.names := by rw [htk, namesOf_snoc, hL]
            have hS0 := Lib.hid hS
            have hj0 := Lib.hid (show j + 1 ≤ o.kids.length from hlt)
            have hb0 := Lib.hid (show L.length + k'.names.length ≤ 2 ^ 32 by
              have h1 := namesOf_len (o.kids.take j)
              have h2 := k'.names_len
              rw [← hL] at h1
              rw [htk, sumN_snoc] at hb
              omega)
            have hrel1 := Lib.hid hrel
            clear hv hu HK HR e1 htk hm hS HT hL hrel hb
            generalize k'.names = N at *
            generalize k'.val = v1 at *
            (go_wp2_with fail; (with_reducible refine (HRk _).mono ?_); rintro e w' ⟨nv, rfl, hno, hx4⟩)
            clear HRk
            obtain ⟨A2, C2, rfl, hn1, hn2⟩ := own_form hno
            unfold maxLen at hn2
            have hrel := hrel1.out.go hx4
            have hne : (Value.slice A2 N.length C2).ownBlock = none ∨ (Value.slice A2 N.length C2).ownBlock ≠ (Value.slice A1 L.length C1).ownBlock := by
              cases hk2 : (Value.slice A2 N.length C2).ownBlock with
              | none => exact .inl rfl
              | some g =>
                refine .inr fun h3 => ?_
                have h1 := (hno.lt g hk2).1
                have h2 := (hrel1.out.own.lt g h3.symm).2
                omega
            have hno' := own_mono hno (show w.heap.size ≤ _ from hrel1.out.ext.le)
            have hrel2 := Lib.hid (And.intro hrel (And.intro hno' hne))
            clear hrel hno hno' hne hrel1
            go_wp2_with fail
            go_loopw [29, 3] (fun i out wr => ∃ (m : Nat) (A1 : Option Addr) (C1 : Nat) (M : List ByteArray), m ≤ N.length ∧ i = .int .i64 m ∧ out = .slice A1 M.length C1 ∧ M = addAll L (N.take m) ∧ NRel w wr (.slice A1 M.length C1) (.slice (some ad) o.kids.length C) M 53 o.kids.length (obVals o.kids) ∧
              wr.ownsRow w.heap.size 9 1 (.slice A2 N.length C2) N.length (strVals N) ∧ ((Value.slice A2 N.length C2).ownBlock = none ∨ (Value.slice A2 N.length C2).ownBlock ≠ (Value.slice A1 M.length C1).ownBlock)) (fun i _ _ => N.length - (intOf i).toNat)
            case atStart => exact ⟨0, A1, C1, L, by omega, rfl, rfl, rfl, hrel2.out⟩
            case round =>
              obtain ⟨m, A3, C3, M, hm, rfl, rfl, hM, hrel, hno, hne⟩ := hrel
              by_cases hlt2 : m < N.length
              · obtain ⟨s, e1, hv⟩ := strVals_at hlt2
                obtain ⟨ad2, u, rfl, hu, hc2⟩ := (Rd.of_own hno).at1 hlt2
                obtain rfl : Value.string s = u := by rw [hv] at hu; injection hu
                have hS2 : addAll L (N.take (m + 1)) = addNew M s := by rw [addAll_take e1, hM]
                have hMl : M.length ≤ L.length + m := by have := addAll_len L (N.take m); rw [← hM, List.length_take] at this; omega
                obtain ⟨A4, C4, e4, hq1, hq2⟩ := own_form hrel.own
                injection e4 with e4 e5 e6
                subst e4 e6
                have hS2 := Lib.hid hS2
                have hm0 := Lib.hid (show m + 1 ≤ N.length from hlt2)
                have hml0 := Lib.hid (show M.length + 1 ≤ 2 ^ 32 by have := hb0.out; omega)
                have hrd := Rd.of_own hrel.own
                have hrel3 := Lib.hid (And.intro hrel (And.intro hno hne))
                clear hv hu e1 hM hMl hrel hno hne e5
                (go_wp2_with fail; (with_reducible refine (scontains_calls M s _ _ _ hrd hq1 hq2).mono ?_); rintro e w' ⟨rfl, hx5⟩)
                cases hb : (M.any fun x => s == x) with
                | true =>
                  have hadd : addNew M s = M := by unfold addNew; rw [if_pos hb]
                  have hadd := Lib.hid hadd
                  clear hb hrd
                  go_wp2_with fail
                  go_roundw
                  case rel => exact ⟨m + 1, A3, C3, M, hm0.out, by go_num, rfl, by rw [hS2.out, hadd.out], hrel3.out.1.go hx5, hx5.own hrel3.out.2.1, hrel3.out.2.2⟩
                  case measure => simp [intOf]; omega
                | false =>
                  have hadd : addNew M s = M ++ [s] := by unfold addNew; rw [if_neg (by rw [hb]; simp)]
                  have hadd := Lib.hid hadd
                  have hrel5 := hrel3.out.1.go hx5
                  have hno5 := hx5.own hrel3.out.2.1
                  have h63 : M.length + 1 ≤ maxLen := by have := hml0.out; unfold maxLen; omega
                  have hby : (M.length + 1) * 16 ≤ 140737488355328 := by have := hml0.out; omega
                  clear hb hrd
                  go_wp2_with (at_builtin; refine wpList_app elemStr rfl _ _ rfl w.heap.size (.slice A3 M.length C3) M.length (strVals M) rfl (hrel5.own.alloc _) _ 1 1 [.string s] rfl (Rd.new _ #[.string s] _ 1 1 rfl) (by simp [Value.oneCell']) h63 hby (by have := hrel5.ext.le; simp; omega) ?_; intro v1 w1 hown1 hg1 hat1)
                  have hq := Lib.hid ((hrel5.go ((Ext.refl _).alloc _)).put hown1 hg1 hat1)
                  have hno6 := Lib.hid ((hno5.alloc _).kept hg1 hrel3.out.2.2)
                  have hne6 := Lib.hid (own_ne (hno5.alloc _) hrel3.out.2.2 hat1)
                  obtain ⟨A6, C6, rfl, h6, h7⟩ := own_form hown1
                  have e7 := Lib.hid (show (M ++ [s]).length = M.length + 1 by simp)
                  clear hown1 hg1 hat1 hno5 hrel5 h63 hby
                  go_wp2_with fail
                  go_roundw
                  case rel => exact ⟨m + 1, A6, C6, M ++ [s], hm0.out, by go_num, by rw [e7.out], by rw [hS2.out, hadd.out], by rw [e7.out]; exact hq.out, hno6.out, by rw [e7.out]; exact hne6.out⟩
                  case measure => simp [intOf]; omega
              · obtain rfl : m = N.length := by omega
                rw [List.take_length] at hM
                go_wp2_with fail
                go_roundw
                case rel => exact ⟨j + 1, A3, C3, M, hj0.out, by go_num, rfl, by rw [hS0.out, hM], hrel⟩
                case measure => simp [intOf]; omega
          · obtain rfl : j = o.kids.length := by omega
            rw [List.take_length, ← HN.out] at hL
            subst hL
            clear HK HR
            go_wp2
            apply bodyPost_ret
            · exact results_tmp rfl _ _ _
            · rfl
            exact ⟨_, rfl, hrel.own, hrel.ext⟩

end Go.Proofs.Ytgjjngkmbplijaa
