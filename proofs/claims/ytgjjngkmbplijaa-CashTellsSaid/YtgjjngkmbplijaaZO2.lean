/- Texts put together: Obs4, Obs5. -/
import Derived.Test.YtgjjngkmbplijaaZO1
import Derived.Deep.QuietTactic
import Derived.BigQuiet
import Derived.Laws.StructEq
/- Package obs: Names. -/
namespace Go.Proofs.Ytgjjngkmbplijaa
open Go.RowKit
set_option linter.unusedSimpArgs false
set_option linter.unusedVariables false

def Ob.names : Ob → List ByteArray
  | .fix s => [s]
  | .add l r => addAll (addAll [] l.names) r.names
  | .neg o => addAll [] o.names
  | .mul l r => addAll (addAll [] l.names) r.names
  | .max l r => addAll (addAll [] l.names) r.names
  | _ => []
def namesOf (l : List Ob) : List ByteArray := l.foldl (fun L k => addAll L k.names) []
def Ob.isFix : Ob → Bool
  | .fix _ => true
  | _ => false
theorem Ob.names_kids {o : Ob} (h : o.isFix = false) : o.names = namesOf o.kids := by
  cases o <;> simp [Ob.isFix] at h <;> simp [Ob.names, namesOf, Ob.kids]
theorem Ob.names_len (o : Ob) : o.names.length ≤ o.nodes := by
  induction o with
  | const n => simp [Ob.names]
  | fix s => simp [Ob.names, Ob.nodes]
  | odd v => simp [Ob.names]
  | neg o ih => have := addAll_len [] o.names; simp only [Ob.names, Ob.nodes, List.length_nil] at *; omega
  | _ l r ihl ihr =>
    have h1 := addAll_len [] l.names
    have h2 := addAll_len (addAll [] l.names) r.names
    simp only [Ob.names, Ob.nodes, List.length_nil] at *
    omega
theorem namesOf_snoc (l : List Ob) (k : Ob) : namesOf (l ++ [k]) = addAll (namesOf l) k.names := by simp [namesOf]
theorem namesOf_len (l : List Ob) : (namesOf l).length ≤ sumN l := by
  suffices ∀ (l : List Ob) (L : List ByteArray), (l.foldl (fun L k => addAll L k.names) L).length ≤ L.length + sumN l by simpa [namesOf] using this l []
  intro l
  induction l with
  | nil => intro L; simp [sumN]
  | cons k t ih =>
    intro L
    have h1 := ih (addAll L k.names)
    have h2 := addAll_len L k.names
    have h3 := k.names_len
    simp only [sumN, List.map_cons, List.sum_cons, List.foldl_cons] at *
    omega
/-- What is not a Fix. -/
theorem Ob.form_nofix {o : Ob} (h : o.wf) (hf : o.isFix = false) : o.val = .nilIface ∨ ∃ t x, o.val = .iface t x ∧ t ≠ 60 := by
  cases o with
  | odd v => rcases h with rfl | ⟨t, x, rfl, h1, h2, _⟩
             · exact .inl rfl
             · exact .inr ⟨t, x, rfl, h2⟩
  | fix s => simp [Ob.isFix] at hf
  | _ => exact .inr ⟨_, _, rfl, by decide⟩

theorem own_mono {w : World} {base base' : Nat} {e : TypeId} {size n : Nat} {v : Value} {xs : List Value} (h : w.ownsRow base e size v n xs) (hb : base' ≤ base) : w.ownsRow base' e size v n xs := by
  refine ⟨h.1, ?_⟩
  rcases h.2 with h1 | ⟨g, cap, cur, h1, h2, h3⟩
  · exact .inl h1
  · exact .inr ⟨g, cap, cur, h1, Nat.le_trans hb h2, h3⟩

theorem own_ne {w : World} {base : Nat} {e : TypeId} {size n : Nat} {v v0 v1 : Value} {xs : List Value} (h : w.ownsRow base e size v n xs) (hne : v.ownBlock = none ∨ v.ownBlock ≠ v0.ownBlock) (hat : v1.ownBlock = v0.ownBlock ∨ v1.ownBlock = some w.heap.size) :
    v.ownBlock = none ∨ v.ownBlock ≠ v1.ownBlock := by
  rcases hat with h2 | h2 <;> rw [h2]
  · exact hne
  · cases hk : v.ownBlock with
    | none => exact .inl rfl
    | some g => exact .inr (fun h3 => by injection h3 with h3; have := (h.lt g hk).2; omega)

/-- The names so far in a row of the call's own; the parts' row is another one. -/
structure NRel (w wr : World) (v kv : Value) (L : List ByteArray) (e : TypeId) (nk : Nat) (xs : List Value) : Prop where
  own : wr.ownsRow w.heap.size 9 1 v L.length (strVals L)
  kids : wr.ownsRow w.heap.size e 1 kv nk xs
  ne : kv.ownBlock = none ∨ kv.ownBlock ≠ v.ownBlock
  ext : Ext w wr
section
variable {w wr wr' : World} {v kv : Value} {L : List ByteArray} {e : TypeId} {nk : Nat} {xs : List Value}
theorem NRel.go (h : NRel w wr v kv L e nk xs) (hx : Ext wr wr') : NRel w wr' v kv L e nk xs := ⟨hx.own h.own, hx.own h.kids, h.ne, h.ext.trans hx⟩
theorem NRel.put (h : NRel w wr v kv L e nk xs) {v1 : Value} {s : ByteArray} (h1 : wr'.ownsRow w.heap.size 9 1 v1 (L.length + 1) (strVals L ++ [.string s])) (hg : wr.grownBy wr' v.ownBlock) (hat : v1.ownBlock = v.ownBlock ∨ v1.ownBlock = some wr.heap.size) :
    NRel w wr' v1 kv (L ++ [s]) e nk xs := by
  refine ⟨by rw [strVals_app, List.length_append]; exact h1, h.kids.kept hg h.ne, ?_, h.ext.grown hg (fun k hk => (h.own.lt k hk).1)⟩
  rcases hat with h2 | h2 <;> rw [h2]
  · exact h.ne
  · cases hk : kv.ownBlock with
    | none => exact .inl rfl
    | some g => exact .inr (fun h3 => by injection h3 with h3; have := (h.kids.lt g hk).2; omega)
end

set_option maxRecDepth 100000 in
set_option maxHeartbeats 1600000 in
theorem onames_calls (k : Nat) : ∀ (o : Ob) (w : World), SizeOf.sizeOf o < k → o.wf → o.nodes ≤ 2 ^ 32 → Calls Try.prog 51 #[o.val] w fun e w' => RetOwn w 9 1 o.names.length (strVals o.names) e w' := by
  induction k with
  | zero => intro o w h; omega
  | succ k ih =>
    intro o w hk hwf hn
    cases hf : o.isFix with
    | true =>
      obtain ⟨s, rfl⟩ : ∃ s, o = .fix s := by cases o <;> simp [Ob.isFix] at hf; exact ⟨_, rfl⟩
      simp only [Ob.val, Ob.names]
      clear ih hk hn hf
      go_enter Try.func51, Try.ntmps51
      go_wp2
      apply bodyPost_ret
      · exact results_tmp rfl _ _ _
      · rfl
      exact ⟨_, rfl, own_new (by simp) rfl (by simp +arith) rfl, ((Ext.refl w).alloc _).alloc _⟩
    | false =>
      have H2 := fun w' => kids_own o w' hwf
      have HN := Lib.hid (Ob.names_kids hf)
      have HK := fun (i : Nat) (h : i < o.kids.length) => kids_at (o := o) h
      have hsum : sumN o.kids ≤ 2 ^ 32 := by
        cases ho : o.isOdd with
        | true => obtain ⟨v, rfl⟩ : ∃ v, o = .odd v := by cases o <;> simp [Ob.isOdd] at ho; exact ⟨_, rfl⟩
                  simp [Ob.kids, sumN]
        | false => have := Ob.nodes_eq ho; omega
      have HR : ∀ (k' : Ob) (w' : World), k' ∈ o.kids → Calls Try.prog 51 #[k'.val] w' fun e w'' => RetOwn w' 9 1 k'.names.length (strVals k'.names) e w'' := fun k' w' hm => ih k' w' (by have := Ob.kids_size hm; omega) (Ob.kids_wf hwf hm) (by
        have h1 := sumN_mem hm
        omega)
      have HT := Lib.hid (fun i => Nat.le_trans (sumN_take o.kids i) hsum)
      have hform := Ob.form_nofix hwf hf
      clear ih hk hn hwf hf hsum
      generalize o.names = NN at *
      generalize Ob.val o = v at *
      rcases hform with rfl | ⟨t, x, rfl, ht⟩
      all_goals
        go_enter Try.func51, Try.ntmps51
        (go_wp2_with fail; (with_reducible refine (H2 _).mono ?_); rintro e w' ⟨kv, rfl, hko, hx⟩)
        clear H2
        obtain ⟨A, C, rfl, hnc, hcm⟩ := own_form hko
        have hrel0 : NRel w w' (.slice none 0 0) (.slice A o.kids.length C) [] 53 o.kids.length (obVals o.kids) :=
          ⟨World.ownsRow_nil _ _ _ _, own_mono hko (by simp +arith), (by cases A with | none => exact .inl rfl | some a => exact .inr (by simp [Value.ownBlock])), ((Ext.refl w).alloc _).trans hx⟩
        clear hko hx
        unfold maxLen at hcm
        go_wp2_with fail
        go_loopw [22, 3] (fun i out wr => ∃ (j : Nat) (A1 : Option Addr) (C1 : Nat) (L : List ByteArray), j ≤ o.kids.length ∧ i = .int .i64 j ∧ out = .slice A1 L.length C1 ∧ L = namesOf (o.kids.take j) ∧ NRel w wr (.slice A1 L.length C1) (.slice A o.kids.length C) L 53 o.kids.length (obVals o.kids)) (fun i _ _ => o.kids.length - (intOf i).toNat)
        case atStart => exact ⟨0, none, 0, [], by omega, rfl, rfl, rfl, hrel0⟩
        case round =>
          obtain ⟨j, A1, C1, L, hj, rfl, rfl, hL, hrel⟩ := hrel
          clear hrel0
          by_cases hlt : j < o.kids.length
          · obtain ⟨k', e1, hm, htk, hv⟩ := HK j hlt
            obtain ⟨ad, u, rfl, hu, hc⟩ := (Rd.of_own hrel.kids).at1 hlt
            obtain rfl : k'.val = u := by rw [hv] at hu; injection hu
            have HRk := fun w' => HR k' w' hm
            have hb := HT.out (j + 1)
            have hS : namesOf (o.kids.take (j + 1)) = addAll L k'.names := by rw [htk, namesOf_snoc, hL]
            have hS0 := Lib.hid hS
            have hj0 := Lib.hid (show j + 1 ≤ o.kids.length from hlt)
            have hb0 := Lib.hid (show L.length + k'.names.length ≤ 2 ^ 32 by
              have h1 := namesOf_len (o.kids.take j)
              have h2 := k'.names_len
              rw [← hL] at h1
              rw [htk, sumN_snoc] at hb
              omega)
            have hrel1 := Lib.hid hrel
            clear hv hu HK HR e1 htk hm hS HT hL hrel hb
            generalize k'.names = N at *
            generalize k'.val = v1 at *
            (go_wp2_with fail; (with_reducible refine (HRk _).mono ?_); rintro e w' ⟨nv, rfl, hno, hx4⟩)
            clear HRk
            obtain ⟨A2, C2, rfl, hn1, hn2⟩ := own_form hno
            unfold maxLen at hn2
            have hrel := hrel1.out.go hx4
            have hne : (Value.slice A2 N.length C2).ownBlock = none ∨ (Value.slice A2 N.length C2).ownBlock ≠ (Value.slice A1 L.length C1).ownBlock := by
              cases hk2 : (Value.slice A2 N.length C2).ownBlock with
              | none => exact .inl rfl
              | some g =>
                refine .inr fun h3 => ?_
                have h1 := (hno.lt g hk2).1
                have h2 := (hrel1.out.own.lt g h3.symm).2
                omega
            have hno' := own_mono hno (show w.heap.size ≤ _ from hrel1.out.ext.le)
            have hrel2 := Lib.hid (And.intro hrel (And.intro hno' hne))
            clear hrel hno hno' hne hrel1
            go_wp2_with fail
            go_loopw [29, 3] (fun i out wr => ∃ (m : Nat) (A1 : Option Addr) (C1 : Nat) (M : List ByteArray), m ≤ N.length ∧ i = .int .i64 m ∧ out = .slice A1 M.length C1 ∧ M = addAll L (N.take m) ∧ NRel w wr (.slice A1 M.length C1) (.slice (some ad) o.kids.length C) M 53 o.kids.length (obVals o.kids) ∧
              wr.ownsRow w.heap.size 9 1 (.slice A2 N.length C2) N.length (strVals N) ∧ ((Value.slice A2 N.length C2).ownBlock = none ∨ (Value.slice A2 N.length C2).ownBlock ≠ (Value.slice A1 M.length C1).ownBlock)) (fun i _ _ => N.length - (intOf i).toNat)
            case atStart => exact ⟨0, A1, C1, L, by omega, rfl, rfl, rfl, hrel2.out⟩
            case round =>
              obtain ⟨m, A3, C3, M, hm, rfl, rfl, hM, hrel, hno, hne⟩ := hrel
              by_cases hlt2 : m < N.length
              · obtain ⟨s, e1, hv⟩ := strVals_at hlt2
                obtain ⟨ad2, u, rfl, hu, hc2⟩ := (Rd.of_own hno).at1 hlt2
                obtain rfl : Value.string s = u := by rw [hv] at hu; injection hu
                have hS2 : addAll L (N.take (m + 1)) = addNew M s := by rw [addAll_take e1, hM]
                have hMl : M.length ≤ L.length + m := by have := addAll_len L (N.take m); rw [← hM, List.length_take] at this; omega
                obtain ⟨A4, C4, e4, hq1, hq2⟩ := own_form hrel.own
                injection e4 with e4 e5 e6
                subst e4 e6
                have hS2 := Lib.hid hS2
                have hm0 := Lib.hid (show m + 1 ≤ N.length from hlt2)
                have hml0 := Lib.hid (show M.length + 1 ≤ 2 ^ 32 by have := hb0.out; omega)
                have hrd := Rd.of_own hrel.own
                have hrel3 := Lib.hid (And.intro hrel (And.intro hno hne))
                clear hv hu e1 hM hMl hrel hno hne e5
                (go_wp2_with fail; (with_reducible refine (scontains_calls M s _ _ _ hrd hq1 hq2).mono ?_); rintro e w' ⟨rfl, hx5⟩)
                cases hb : (M.any fun x => s == x) with
                | true =>
                  have hadd : addNew M s = M := by unfold addNew; rw [if_pos hb]
                  have hadd := Lib.hid hadd
                  clear hb hrd
                  go_wp2_with fail
                  go_roundw
                  case rel => exact ⟨m + 1, A3, C3, M, hm0.out, by go_num, rfl, by rw [hS2.out, hadd.out], hrel3.out.1.go hx5, hx5.own hrel3.out.2.1, hrel3.out.2.2⟩
                  case measure => simp [intOf]; omega
                | false =>
                  have hadd : addNew M s = M ++ [s] := by unfold addNew; rw [if_neg (by rw [hb]; simp)]
                  have hadd := Lib.hid hadd
                  have hrel5 := hrel3.out.1.go hx5
                  have hno5 := hx5.own hrel3.out.2.1
                  have h63 : M.length + 1 ≤ maxLen := by have := hml0.out; unfold maxLen; omega
                  have hby : (M.length + 1) * 16 ≤ 140737488355328 := by have := hml0.out; omega
                  clear hb hrd
                  go_wp2_with (at_builtin; refine wpList_app elemStr rfl _ _ rfl w.heap.size (.slice A3 M.length C3) M.length (strVals M) rfl (hrel5.own.alloc _) _ 1 1 [.string s] rfl (Rd.new _ #[.string s] _ 1 1 rfl) (by simp [Value.oneCell']) h63 hby (by have := hrel5.ext.le; simp; omega) ?_; intro v1 w1 hown1 hg1 hat1)
                  have hq := Lib.hid ((hrel5.go ((Ext.refl _).alloc _)).put hown1 hg1 hat1)
                  have hno6 := Lib.hid ((hno5.alloc _).kept hg1 hrel3.out.2.2)
                  have hne6 := Lib.hid (own_ne (hno5.alloc _) hrel3.out.2.2 hat1)
                  obtain ⟨A6, C6, rfl, h6, h7⟩ := own_form hown1
                  have e7 := Lib.hid (show (M ++ [s]).length = M.length + 1 by simp)
                  clear hown1 hg1 hat1 hno5 hrel5 h63 hby
                  go_wp2_with fail
                  go_roundw
                  case rel => exact ⟨m + 1, A6, C6, M ++ [s], hm0.out, by go_num, by rw [e7.out], by rw [hS2.out, hadd.out], by rw [e7.out]; exact hq.out, hno6.out, by rw [e7.out]; exact hne6.out⟩
                  case measure => simp [intOf]; omega
              · obtain rfl : m = N.length := by omega
                rw [List.take_length] at hM
                go_wp2_with fail
                go_roundw
                case rel => exact ⟨j + 1, A3, C3, M, hj0.out, by go_num, rfl, by rw [hS0.out, hM], hrel⟩
                case measure => simp [intOf]; omega
          · obtain rfl : j = o.kids.length := by omega
            rw [List.take_length, ← HN.out] at hL
            subst hL
            clear HK HR
            go_wp2
            apply bodyPost_ret
            · exact results_tmp rfl _ _ _
            · rfl
            exact ⟨_, rfl, hrel.own, hrel.ext⟩

end Go.Proofs.Ytgjjngkmbplijaa

/- Package obs: kind, Same (by way of slices.EqualFunc). -/
namespace Go.Proofs.Ytgjjngkmbplijaa
open Go.RowKit
set_option linter.unusedSimpArgs false
set_option linter.unusedVariables false

def Ob.kind : Ob → Nat
  | .const _ => 1
  | .fix _ => 2
  | .add _ _ => 3
  | .neg _ => 4
  | .mul _ _ => 5
  | .max _ _ => 6
  | .odd _ => 0

set_option maxRecDepth 100000 in
set_option maxHeartbeats 400000 in
theorem kind_calls (o : Ob) (w : World) (h : o.wf) : Calls Try.prog 102 #[o.val] w fun e w' => e = .returned (.int .i64 o.kind) ∧ w = w' := by
  cases o with
  | odd v =>
    rcases h with rfl | ⟨t, x, rfl, h1, h2, h3, h4, h5, h6⟩ <;> simp only [Ob.val, Ob.kind]
    all_goals
      go_enter Try.func102, Try.ntmps102
      go_wp2
      go_ret
      exact ⟨rfl, rfl⟩
  | _ =>
    simp only [Ob.val, Ob.kind]
    go_enter Try.func102, Try.ntmps102
    go_wp2
    go_ret
    exact ⟨rfl, rfl⟩

def Ob.same : Ob → Ob → Bool
  | .const n, .const m => n == m
  | .fix s, .fix t => s == t
  | .add l r, .add l' r' => l.same l' && r.same r'
  | .neg o, .neg o' => o.same o'
  | .mul l r, .mul l' r' => l.same l' && r.same r'
  | .max l r, .max l' r' => l.same l' && r.same r'
  | _, _ => false
/-- Two rows, one by one. -/
def sameL (p : Ob → Ob → Bool) : List Ob → List Ob → Bool
  | [], [] => true
  | a :: l, b :: r => p a b && sameL p l r
  | _, _ => false
theorem sameL_len {p : Ob → Ob → Bool} {l r : List Ob} (h : l.length ≠ r.length) : sameL p l r = false := by
  induction l generalizing r with
  | nil => cases r with
    | nil => exact absurd rfl h
    | cons b r => rfl
  | cons a l ih => cases r with
    | nil => rfl
    | cons b r => simp only [sameL]; rw [ih (by simpa using h), Bool.and_false]
theorem sameL_take {p : Ob → Ob → Bool} {l r : List Ob} {j : Nat} {a b : Ob} (h1 : l[j]? = some a) (h2 : r[j]? = some b) : sameL p (l.take (j + 1)) (r.take (j + 1)) = (sameL p (l.take j) (r.take j) && p a b) := by
  induction l generalizing r j with
  | nil => simp at h1
  | cons x l ih => cases r with
    | nil => simp at h2
    | cons y r => cases j with
      | zero => simp at h1 h2; subst h1 h2; simp [sameL]
      | succ j => simp only [List.getElem?_cons_succ] at h1 h2; simp only [List.take_succ_cons, sameL]; rw [ih h1 h2, Bool.and_assoc]
theorem sameL_hit {p : Ob → Ob → Bool} {l r : List Ob} {j : Nat} {a b : Ob} (h1 : l[j]? = some a) (h2 : r[j]? = some b) (h : p a b = false) : sameL p l r = false := by
  induction l generalizing r j with
  | nil => simp at h1
  | cons x l ih => cases r with
    | nil => simp at h2
    | cons y r => cases j with
      | zero => simp at h1 h2; subst h1 h2; simp [sameL, h]
      | succ j => simp only [List.getElem?_cons_succ] at h1 h2; simp only [sameL]; rw [ih h1 h2, Bool.and_false]
theorem Ob.same_kind {a b : Ob} (h : a.kind = 0 ∨ a.kind ≠ b.kind) : a.same b = false := by
  cases a <;> cases b <;> simp [Ob.kind] at h <;> rfl
theorem Ob.same_kids {a b : Ob} (h : a.kind = b.kind) (h3 : 3 ≤ a.kind) : a.same b = sameL Ob.same a.kids b.kids := by
  cases a <;> cases b <;> simp [Ob.kind] at h h3 <;> simp [Ob.same, Ob.kids, sameL]
theorem Ob.form_kids {o : Ob} (h : o.wf) (h3 : 3 ≤ o.kind) : ∃ t x, o.val = .iface t x ∧ t ≠ 52 ∧ t ≠ 60 := by
  cases o <;> simp [Ob.kind] at h3 <;> exact ⟨_, _, rfl, by decide, by decide⟩

set_option maxRecDepth 100000 in
set_option maxHeartbeats 1600000 in
theorem oequal_calls (l r : List Ob) (p : Ob → Ob → Bool) (a1 : Option Addr) (c1 : Nat) (a2 : Option Addr) (c2 : Nat) (w : World) (hr1 : Rd w 1 a1 l.length (obVals l)) (hr2 : Rd w 1 a2 r.length (obVals r)) (hn1 : l.length ≤ c1) (hm1 : c1 ≤ maxLen) (hn2 : r.length ≤ c2) (hm2 : c2 ≤ maxLen)
    (HR : ∀ (x y : Ob) (w' : World), x ∈ l → y ∈ r → Calls Try.prog 55 #[x.val, y.val] w' fun e w'' => RetB w' (p x y) e w'') :
    Calls Try.prog 103 #[.slice a1 l.length c1, .slice a2 r.length c2, .func (.func 55) #[] #[]] w fun e w' => RetB w (sameL p l r) e w' := by
  unfold maxLen at hm1 hm2
  by_cases hlen : l.length = r.length
  · go_enter Try.func103, Try.ntmps103
    have HL := Lib.hid hlen
    have hlen' : ((l.length : Int) != (r.length : Int)) = false := by rw [hlen]; simp
    clear hlen
    go_wp2_with fail
    go_loopw [17] (fun i wr => ∃ j : Nat, j ≤ l.length ∧ i = .int .i64 j ∧ sameL p (l.take j) (r.take j) = true ∧ Ext w wr) (fun i _ => l.length - (intOf i).toNat)
    case atStart => exact ⟨0, by omega, rfl, by simp [sameL], Ext.refl w⟩
    case round =>
      obtain ⟨j, hj, rfl, hyes, hx⟩ := hrel
      by_cases hlt : j < l.length
      · obtain ⟨x, e1, hm1, hv1⟩ := obVals_at hlt
        have hlt2 : j < r.length := by have := HL.out; omega
        obtain ⟨y, e2, hm2, hv2⟩ := obVals_at hlt2
        obtain ⟨ad1, u1, rfl, hu1, hc1⟩ := (hr1.ext hx).at1 hlt
        obtain ⟨ad2, u2, rfl, hu2, hc2⟩ := (hr2.ext hx).at1 hlt2
        obtain rfl : x.val = u1 := by rw [hv1] at hu1; injection hu1
        obtain rfl : y.val = u2 := by rw [hv2] at hu2; injection hu2
        have H := fun w' => HR x y w' hm1 hm2
        have hs := sameL_take (p := p) e1 e2
        rw [hyes] at hs
        have e0 := Lib.hid (And.intro e1 e2)
        have hs0 := Lib.hid hs
        have hj0 := Lib.hid (show j + 1 ≤ l.length from hlt)
        have hr0 := Lib.hid (And.intro hr1 hr2)
        clear hr1 hr2 hv1 hv2 hu1 hu2 HR e1 e2 hm1 hm2 hs hyes
        generalize x.val = v1 at *
        generalize y.val = v2 at *
        cases hp : p x y with
        | false =>
          rw [hp] at H
          (go_wp2_with fail; (with_reducible refine (H _).mono ?_); rintro e w' ⟨rfl, hx4⟩)
          go_wp2
          go_ret
          exact ⟨by rw [sameL_hit e0.out.1 e0.out.2 hp]; rfl, hx.trans hx4⟩
        | true =>
          rw [hp] at H
          (go_wp2_with fail; (with_reducible refine (H _).mono ?_); rintro e w' ⟨rfl, hx4⟩)
          go_wp2_with fail
          go_roundw
          case rel => exact ⟨j + 1, hj0.out, by go_num, by rw [hs0.out, hp]; rfl, hx.trans hx4⟩
          case measure => simp [intOf]; omega
      · obtain rfl : j = l.length := by omega
        rw [List.take_length] at hyes
        rw [HL.out, List.take_length] at hyes
        clear HR
        go_wp2
        go_ret
        exact ⟨by rw [hyes]; rfl, hx⟩
  · have hlen' : ((l.length : Int) != (r.length : Int)) = true := by simp; omega
    have HS := Lib.hid (sameL_len (p := p) hlen)
    clear HR hr1 hr2
    go_enter Try.func103, Try.ntmps103
    go_wp2
    go_ret
    exact ⟨by rw [HS.out]; rfl, Ext.refl w⟩

theorem held_const : Try.prog.stoodInHeld 52 = false ∧ Try.prog.eqGuardType Try.prog.depth 52 = false := ⟨by kernel_rfl, by kernel_rfl⟩
theorem held_fix : Try.prog.stoodInHeld 60 = false ∧ Try.prog.eqGuardType Try.prog.depth 60 = false := ⟨by kernel_rfl, by kernel_rfl⟩

set_option maxRecDepth 100000 in
set_option maxHeartbeats 400000 in
theorem eql_const (n m : Int) (w : World) : (Op.equalIn 10000 52 (.agg #[.int .i64 n]) (.agg #[.int .i64 m])).run Try.prog w = .ok (n == m) w := by
  obtain ⟨f1, f2⟩ := held_const
  rw [run_equalIn_agg _ _ _ _ _ (by kernel_rfl) f1]
  go_simp
  by_cases h : n = m <;> simp [h]
set_option maxRecDepth 100000 in
set_option maxHeartbeats 400000 in
theorem eql_fix (n m : ByteArray) (w : World) : (Op.equalIn 10000 60 (.agg #[.string n]) (.agg #[.string m])).run Try.prog w = .ok (n == m) w := by
  obtain ⟨f1, f2⟩ := held_fix
  rw [run_equalIn_agg _ _ _ _ _ (by kernel_rfl) f1, ← bytes_beq]
  go_simp
  by_cases h : n.toList = m.toList <;> simp [h]

set_option maxRecDepth 100000 in
set_option maxHeartbeats 1600000 in
theorem osame_calls (k : Nat) : ∀ (a b : Ob) (w : World), SizeOf.sizeOf a < k → a.wf → b.wf → Calls Try.prog 55 #[a.val, b.val] w fun e w' => RetB w (a.same b) e w' := by
  induction k with
  | zero => intro a b w h; omega
  | succ k ih =>
    intro a b w hk ha hb
    have K1 := fun w' => kind_calls a w' ha
    have K2 := fun w' => kind_calls b w' hb
    by_cases h0 : a.kind = 0 ∨ a.kind ≠ b.kind
    · have HS := Lib.hid (Ob.same_kind h0)
      clear ih hk ha hb
      generalize a.val = v1 at *
      generalize b.val = v2 at *
      generalize a.kind = n1 at *
      generalize b.kind = n2 at *
      have h1 : ((n1 : Int) == 0) = decide (n1 = 0) := nat0 n1
      by_cases hz : n1 = 0
      · subst hz
        go_enter Try.func55, Try.ntmps55
        (go_wp2_with fail; (with_reducible refine (K1 _).mono ?_); rintro e w' ⟨rfl, rfl⟩)
        go_wp2
        go_ret
        exact ⟨by rw [HS.out]; rfl, Ext.refl _⟩
      · have h2 : ((n1 : Int) != (n2 : Int)) = true := by simp; omega
        have hz' : ((n1 : Int) == 0) = false := by rw [h1]; simp [hz]
        clear h0 h1
        go_enter Try.func55, Try.ntmps55
        (go_wp2_with fail; (with_reducible refine (K1 _).mono ?_); rintro e w' ⟨rfl, rfl⟩)
        (go_wp2_with fail; (with_reducible refine (K1 _).mono ?_); rintro e w' ⟨rfl, rfl⟩)
        (go_wp2_with fail; (with_reducible refine (K2 _).mono ?_); rintro e w' ⟨rfl, rfl⟩)
        go_wp2
        go_ret
        exact ⟨by rw [HS.out]; rfl, Ext.refl _⟩
    · have h1 : a.kind ≠ 0 := fun h => h0 (.inl h)
      have h2 : a.kind = b.kind := Decidable.byContradiction fun h => h0 (.inr h)
      clear h0
      by_cases h3 : 3 ≤ a.kind
      · have HS := Lib.hid (Ob.same_kids h2 h3)
        have Q1 := fun w' => kids_calls a w' ha
        have Q2 := fun w' => kids_calls b w' hb
        have HR : ∀ (x y : Ob) (w' : World), x ∈ a.kids → y ∈ b.kids → Calls Try.prog 55 #[x.val, y.val] w' fun e w'' => RetB w' (x.same y) e w'' := fun x y w' hx hy =>
          ih x y w' (by have := Ob.kids_size hx; omega) (Ob.kids_wf ha hx) (Ob.kids_wf hb hy)
        have HE := fun (w' : World) a1 c1 a2 c2 h1 h2 h3 h4 h5 h6 => oequal_calls a.kids b.kids Ob.same a1 c1 a2 c2 w' h1 h2 h3 h4 h5 h6 HR
        obtain ⟨t1, x1, e1, ht1, ht2⟩ := Ob.form_kids ha h3
        obtain ⟨t2, x2, e2, ht3, ht4⟩ := Ob.form_kids hb (by omega)
        rw [e1, e2]
        rw [e1] at K1 Q1
        rw [e2] at K2 Q2
        clear ih hk ha hb HR e1 e2
        generalize obVals a.kids = xs at *
        generalize obVals b.kids = ys at *
        generalize a.kids.length = m1 at *
        generalize b.kids.length = m2 at *
        generalize a.kind = n1 at *
        generalize b.kind = n2 at *
        have hz' : ((n1 : Int) == 0) = false := by simp; omega
        have hne : ((n1 : Int) != (n2 : Int)) = false := by rw [h2]; simp
        subst h2
        go_enter Try.func55, Try.ntmps55
        (go_wp2_with fail; (with_reducible refine (K1 _).mono ?_); rintro e w' ⟨rfl, rfl⟩)
        (go_wp2_with fail; (with_reducible refine (K1 _).mono ?_); rintro e w' ⟨rfl, rfl⟩)
        (go_wp2_with fail; (with_reducible refine (K2 _).mono ?_); rintro e w' ⟨rfl, rfl⟩)
        (go_wp2_with fail; (with_reducible refine (Q1 _).mono ?_); rintro e w' ⟨q1, c1, rfl, hn1, hm1, hr1, hx1⟩)
        (go_wp2_with fail; (with_reducible refine (Q2 _).mono ?_); rintro e w' ⟨q2, c2, rfl, hn2, hm2, hr2, hx2⟩)
        (go_wp2_with fail; (with_reducible refine (HE _ _ _ _ _ (hr1.ext hx2) hr2 hn1 hm1 hn2 hm2).mono ?_); rintro e w' ⟨rfl, hx3⟩)
        go_wp2
        go_ret
        exact ⟨by rw [HS.out]; rfl, (((((Ext.refl w).alloc _).alloc _).trans hx1).trans hx2).trans hx3⟩
      · clear ih
        cases a <;> simp [Ob.kind] at h1 h3
        · cases b <;> simp [Ob.kind] at h2
          rename_i n m
          simp only [Ob.val, Ob.kind] at *
          have f2 := held_const.2
          have f3 := fun W => eql_const n m W
          go_enter Try.func55, Try.ntmps55
          (go_wp2_with fail; (with_reducible refine (K1 _).mono ?_); rintro e w' ⟨rfl, rfl⟩)
          (go_wp2_with fail; (with_reducible refine (K1 _).mono ?_); rintro e w' ⟨rfl, rfl⟩)
          (go_wp2_with fail; (with_reducible refine (K2 _).mono ?_); rintro e w' ⟨rfl, rfl⟩)
          go_wp2_with fail
          go_quiet (fail)
          go_wp2
          go_ret
          exact ⟨by simp [Ob.same], (((Ext.refl w).alloc _)).drewN _⟩
        · cases b <;> simp [Ob.kind] at h2
          rename_i n m
          simp only [Ob.val, Ob.kind] at *
          have f2 := held_fix.2
          have f3 := fun W => eql_fix n m W
          go_enter Try.func55, Try.ntmps55
          (go_wp2_with fail; (with_reducible refine (K1 _).mono ?_); rintro e w' ⟨rfl, rfl⟩)
          (go_wp2_with fail; (with_reducible refine (K1 _).mono ?_); rintro e w' ⟨rfl, rfl⟩)
          (go_wp2_with fail; (with_reducible refine (K2 _).mono ?_); rintro e w' ⟨rfl, rfl⟩)
          go_wp2_with fail
          go_quiet (fail)
          go_wp2
          go_ret
          exact ⟨by simp [Ob.same], ((((Ext.refl w).alloc _)).alloc _).drewN _⟩

end Go.Proofs.Ytgjjngkmbplijaa
