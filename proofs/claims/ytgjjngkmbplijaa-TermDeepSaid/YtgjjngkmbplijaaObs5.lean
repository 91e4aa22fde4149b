/- Package obs: kind, Same (by way of slices.EqualFunc). -/
import Derived.Test.YtgjjngkmbplijaaObs4
import Derived.Deep.QuietTactic
import Derived.BigQuiet
import Derived.Laws.StructEq
namespace Go.Proofs.Ytgjjngkmbplijaa
open Go.RowKit
set_option linter.unusedSimpArgs false
set_option linter.unusedVariables false

def Ob.kind : Ob → Nat
  | .const _ => 1
  | .fix _ => 2
  | .add _ _ => 3
  | .neg _ => 4
  | .mul _ _ => 5
  | .max _ _ => 6
  | .odd _ => 0

set_option maxRecDepth 100000 in
set_option maxHeartbeats 400000 in
theorem kind_calls (o : Ob) (w : World) (h : o.wf) : Calls Try.prog 102 #[o.val] w fun e w' => e = .returned (.int .i64 o.kind) ∧ w = w' := by
  cases o with
  | odd v =>
    rcases h with rfl | ⟨t, x, rfl, h1, h2, h3, h4, h5, h6⟩ <;> simp only [Ob.val, Ob.kind]
    all_goals
      go_enter Try.func102, Try.ntmps102
      go_wp2
      go_ret
      exact ⟨rfl, rfl⟩
  | _ =>
    simp only [Ob.val, Ob.kind]
    go_enter Try.func102, Try.ntmps102
    go_wp2
    go_ret
    exact ⟨rfl, rfl⟩

def Ob.same : Ob → Ob → Bool
  | .const n, .const m => n == m
  | .fix s, .fix t => s == t
  | .add l r, .add l' r' => l.same l' && r.same r'
  | .neg o, .neg o' => o.same o'
  | .mul l r, .mul l' r' => l.same l' && r.same r'
  | .max l r, .max l' r' => l.same l' && r.same r'
  | _, _ => false
/-- Two rows, one by one. -/
def sameL (p : Ob → Ob → Bool) : List Ob → List Ob → Bool
  | [], [] => true
  | a :: l, b :: r => p a b && sameL p l r
  | _, _ => false
theorem sameL_len {p : Ob → Ob → Bool} {l r : List Ob} (h : l.length ≠ r.length) : sameL p l r = false := by
  induction l generalizing r with
  | nil => cases r with
    | nil => exact absurd rfl h
    | cons b r => rfl
  | cons a l ih => cases r with
    | nil => rfl
    | cons b r => simp only [sameL]; rw [ih (by simpa using h), Bool.and_false]
theorem sameL_take {p : Ob → Ob → Bool} {l r : List Ob} {j : Nat} {a b : Ob} (h1 : l[j]? = some a) (h2 : r[j]? = some b) : sameL p (l.take (j + 1)) (r.take (j + 1)) = (sameL p (l.take j) (r.take j) && p a b) := by
  induction l generalizing r j with
  | nil => simp at h1
  | cons x l ih => cases r with
    | nil => simp at h2
    | cons y r => cases j with
      | zero => simp at h1 h2; subst h1 h2; simp [sameL]
      | succ j => simp only [List.getElem?_cons_succ] at h1 h2; simp only [List.take_succ_cons, sameL]; rw [ih h1 h2, Bool.and_assoc]
theorem sameL_hit {p : Ob → Ob → Bool} {l r : List Ob} {j : Nat} {a b : Ob} (h1 : l[j]? = some a) (h2 : r[j]? = some b) (h : p a b = false) : sameL p l r = false := by
  induction l generalizing r j with
  | nil => simp at h1
  | cons x l ih => cases r with
    | nil => simp at h2
    | cons y r => cases j with
      | zero => simp at h1 h2; subst h1 h2; simp [sameL, h]
      | succ j => simp only [List.getElem?_cons_succ] at h1 h2; simp only [sameL]; rw [ih h1 h2, Bool.and_false]
theorem Ob.same_kind {a b : Ob} (h : a.kind = 0 ∨ a.kind ≠ b.kind) : a.same b = false := by
  cases a <;> cases b <;> simp [Ob.kind] at h <;> rfl
theorem Ob.same_kids {a b : Ob} (h : a.kind = b.kind) (h3 : 3 ≤ a.kind) : a.same b = sameL Ob.same a.kids b.kids := by
  cases a <;> cases b <;> simp [Ob.kind] at h h3 <;> simp [Ob.same, Ob.kids, sameL]
theorem Ob.form_kids {o : Ob} (h : o.wf) (h3 : 3 ≤ o.kind) : ∃ t x, o.val = .iface t x ∧ t ≠ 52 ∧ t ≠ 60 := by
  cases o <;> simp [Ob.kind] at h3 <;> exact ⟨_, _, rfl, by decide, by decide⟩

set_option maxRecDepth 100000 in
set_option maxHeartbeats 1600000 in
theorem oequal_calls (l r : List Ob) (p : Ob → Ob → Bool) (a1 : Option Addr) (c1 : Nat) (a2 : Option Addr) (c2 : Nat) (w : World) (hr1 : Rd w 1 a1 l.length (obVals l)) (hr2 : Rd w 1 a2 r.length (obVals r)) (hn1 : l.length ≤ c1) (hm1 : c1 ≤ maxLen) (hn2 : r.length ≤ c2) (hm2 : c2 ≤ maxLen)
    (HR : ∀ (x y : Ob) (w' : World), x ∈ l → y ∈ r → Calls Try.prog 55 #[x.val, y.val] w' fun e w'' => RetB w' (p x y) e w'') :
    Calls Try.prog 103 #[.slice a1 l.length c1, .slice a2 r.length c2, .func (.func 55) #[] #[]] w fun e w' => RetB w (sameL p l r) e w' := by
  unfold maxLen at hm1 hm2
  by_cases hlen : l.length = r.length
  · go_enter Try.func103, Try.ntmps103
    have HL := Lib.hid hlen
    have hlen' : ((l.length : Int) != (r.length : Int)) = false := by rw [hlen]; simp
    clear hlen
    go_wp2_with fail
    go_loopw [17] (fun i wr => ∃ j : Nat, j ≤ l.length ∧ i = .int .i64 j ∧ sameL p (l.take j) (r.take j) = true ∧ Ext w wr) (fun i _ => l.length - (intOf i).toNat)
    case atStart => exact ⟨0, by omega, rfl, by simp [sameL], Ext.refl w⟩
    case round =>
      obtain ⟨j, hj, rfl, hyes, hx⟩ := hrel
      by_cases hlt : j < l.length
      · obtain ⟨x, e1, hm1, hv1⟩ := obVals_at hlt
        have hlt2 : j < r.length := by have := HL.out; omega
        obtain ⟨y, e2, hm2, hv2⟩ := obVals_at hlt2
        obtain ⟨ad1, u1, rfl, hu1, hc1⟩ := (hr1.ext hx).at1 hlt
        obtain ⟨ad2, u2, rfl, hu2, hc2⟩ := (hr2.ext hx).at1 hlt2
        obtain rfl : x.val = u1 := by rw [hv1] at hu1; injection hu1
        obtain rfl : y.val = u2 := by rw [hv2] at hu2; injection hu2
        have H := fun w' => HR x y w' hm1 hm2
        have hs := sameL_take (p := p) e1 e2
        rw [hyes] at hs
        have e0 := Lib.hid (And.intro e1 e2)
        have hs0 := Lib.hid hs
        have hj0 := Lib.hid (show j + 1 ≤ l.length from hlt)
        have hr0 := Lib.hid (And.intro hr1 hr2)
        clear hr1 hr2 hv1 hv2 hu1 hu2 HR e1 e2 hm1 hm2 hs hyes
        generalize x.val = v1 at *
        generalize y.val = v2 at *
        cases hp : p x y with
        | false =>
          rw [hp] at H
          (go_wp2_with fail; (with_reducible refine (H _).mono ?_); rintro e w' ⟨rfl, hx4⟩)
          go_wp2
          go_ret
          exact ⟨by rw [sameL_hit e0.out.1 e0.out.2 hp]; rfl, hx.trans hx4⟩
        | true =>
          rw [hp] at H
          (go_wp2_with fail; (with_reducible refine (H _).mono ?_); rintro e w' ⟨rfl, hx4⟩)
          go_wp2_with fail
          go_roundw
          case rel => exact ⟨j + 1, hj0.out, by go_num, by rw [hs0.out, hp]; rfl, hx.trans hx4⟩
          case measure => simp [intOf]; omega
      · obtain rfl : j = l.length := by omega
        rw [List.take_length] at hyes
        rw [HL.out, List.take_length] at hyes
        clear HR
        go_wp2
        go_ret
        exact ⟨by rw [hyes]; rfl, hx⟩
  · have hlen' : ((l.length : Int) != (r.length : Int)) = true := by simp; omega
    have HS := Lib.hid (sameL_len (p := p) hlen)
    clear HR hr1 hr2
    go_enter Try.func103, Try.ntmps103
    go_wp2
    go_ret
    exact ⟨by rw [HS.out]; rfl, Ext.refl w⟩

theorem held_const : Try.prog.stoodInHeld 52 = false ∧ Try.prog.eqGuardType Try.prog.depth 52 = false := ⟨by kernel_rfl, by kernel_rfl⟩
theorem held_fix : Try.prog.stoodInHeld 60 = false ∧ Try.prog.eqGuardType Try.prog.depth 60 = false := ⟨by kernel_rfl, by kernel_rfl⟩

set_option maxRecDepth 100000 in
set_option maxHeartbeats 400000 in
theorem eql_const (n m : Int) (w : World) : (Op.equalIn 10000 52 (.agg #[.int .i64 n]) (.agg #[.int .i64 m])).run Try.prog w = .ok (n == m) w := by
  obtain ⟨f1, f2⟩ := held_const
  rw [run_equalIn_agg _ _ _ _ _ (by kernel_rfl) f1]
  go_simp
  by_cases h : n = m <;> simp [h]
set_option maxRecDepth 100000 in
set_option maxHeartbeats 400000 in
theorem eql_fix (n m : ByteArray) (w : World) : (Op.equalIn 10000 60 (.agg #[.string n]) (.agg #[.string m])).run Try.prog w = .ok (n == m) w := by
  obtain ⟨f1, f2⟩ := held_fix
  rw [run_equalIn_agg _ _ _ _ _ (by kernel_rfl) f1, ← bytes_beq]
  go_simp
  by_cases h : n.toList = m.toList <;> simp [h]

set_option maxRecDepth 100000 in
set_option maxHeartbeats 1600000 in
theorem osame_calls (k : Nat) : ∀ (a b : Ob) (w : World), SizeOf.sizeOf a < k → a.wf → b.wf → Calls Try.prog 55 #[a.val, b.val] w fun e w' => RetB w (a.same b) e w' := by
  induction k with
  | zero => intro a b w h; omega
  | succ k ih =>
    intro a b w hk ha hb
    have K1 := fun w' => kind_calls a w' ha
    have K2 := fun w' => kind_calls b w' hb
    by_cases h0 : a.kind = 0 ∨ a.kind ≠ b.kind
    · have HS := Lib.hid (Ob.same_kind h0)
      clear ih hk ha hb
      generalize a.val = v1 at *
      generalize b.val = v2 at *
      generalize a.kind = n1 at *
      generalize b.kind = n2 at *
      have h1 : ((n1 : Int) == 0) = decide (n1 = 0) := nat0 n1
      by_cases hz : n1 = 0
      · subst hz
        go_enter Try.func55, Try.ntmps55
        (go_wp2_with fail; (with_reducible refine (K1 _).mono ?_); rintro e w' ⟨rfl, rfl⟩)
        go_wp2
        go_ret
        exact ⟨by rw [HS.out]; rfl, Ext.refl _⟩
      · have h2 : ((n1 : Int) != (n2 : Int)) = true := by simp; omega
        have hz' : ((n1 : Int) == 0) = false := by rw [h1]; simp [hz]
        clear h0 h1
        go_enter Try.func55, Try.ntmps55
        (go_wp2_with fail; (with_reducible refine (K1 _).mono ?_); rintro e w' ⟨rfl, rfl⟩)
        (go_wp2_with fail; (with_reducible refine (K1 _).mono ?_); rintro e w' ⟨rfl, rfl⟩)
        (go_wp2_with fail; (with_reducible refine (K2 _).mono ?_); rintro e w' ⟨rfl, rfl⟩)
        go_wp2
        go_ret
        exact ⟨by rw [HS.out]; rfl, Ext.refl _⟩
    · have h1 : a.kind ≠ 0 := fun h => h0 (.inl h)
      have h2 : a.kind = b.kind := Decidable.byContradiction fun h => h0 (.inr h)
      clear h0
      by_cases h3 : 3 ≤ a.kind
      · have HS := Lib.hid (Ob.same_kids h2 h3)
        have Q1 := fun w' => kids_calls a w' ha
        have Q2 := fun w' => kids_calls b w' hb
        have HR : ∀ (x y : Ob) (w' : World), x ∈ a.kids → y ∈ b.kids → Calls Try.prog 55 #[x.val, y.val] w' fun e w'' => RetB w' (x.same y) e w'' := fun x y w' hx hy =>
          ih x y w' (by have := Ob.kids_size hx; omega) (Ob.kids_wf ha hx) (Ob.kids_wf hb hy)
        have HE := fun (w' : World) a1 c1 a2 c2 h1 h2 h3 h4 h5 h6 => oequal_calls a.kids b.kids Ob.same a1 c1 a2 c2 w' h1 h2 h3 h4 h5 h6 HR
        obtain ⟨t1, x1, e1, ht1, ht2⟩ := Ob.form_kids ha h3
        obtain ⟨t2, x2, e2, ht3, ht4⟩ := Ob.form_kids hb (by omega)
        rw [e1, e2]
        rw [e1] at K1 Q1
        rw [e2] at K2 Q2
        clear ih hk ha hb HR e1 e2
        generalize obVals a.kids = xs at *
        generalize obVals b.kids = ys at *
        generalize a.kids.length = m1 at *
        generalize b.kids.length = m2 at *
        generalize a.kind = n1 at *
        generalize b.kind = n2 at *
        have hz' : ((n1 : Int) == 0) = false := by simp; omega
        have hne : ((n1 : Int) != (n2 : Int)) = false := by rw [h2]; simp
        subst h2
        go_enter Try.func55, Try.ntmps55
        (go_wp2_with fail; (with_reducible refine (K1 _).mono ?_); rintro e w' ⟨rfl, rfl⟩)
        (go_wp2_with fail; (with_reducible refine (K1 _).mono ?_); rintro e w' ⟨rfl, rfl⟩)
        (go_wp2_with fail; (with_reducible refine (K2 _).mono ?_); rintro e w' ⟨rfl, rfl⟩)
        (go_wp2_with fail; (with_reducible refine (Q1 _).mono ?_); rintro e w' ⟨q1, c1, rfl, hn1, hm1, hr1, hx1⟩)
        (go_wp2_with fail; (with_reducible refine (Q2 _).mono ?_); rintro e w' ⟨q2, c2, rfl, hn2, hm2, hr2, hx2⟩)
        (go_wp2_with fail; (with_reducible refine (HE _ _ _ _ _ (hr1.ext hx2) hr2 hn1 hm1 hn2 hm2).mono ?_); rintro e w' ⟨rfl, hx3⟩)
        go_wp2
        go_ret
        exact ⟨by rw [HS.out]; rfl, (((((Ext.refl w).alloc _).alloc _).trans hx1).trans hx2).trans hx3⟩
      · clear ih
        cases a <;> simp [Ob.kind] at h1 h3
        · cases b <;> simp [Ob.kind] at h2
          rename_i n m
          simp only [Ob.val, Ob.kind] at *
          have f2 := held_const.2
          have f3 := fun W => eql_const n m W
          go_enter Try.func55, Try.ntmps55
          (go_wp2_with fail; (with_reducible refine (K1 _).mono ?_); rintro e w' ⟨rfl, rfl⟩)
          (go_wp2_with fail; (with_reducible refine (K1 _).mono ?_); rintro e w' ⟨rfl, rfl⟩)
          (go_wp2_with fail; (with_reducible refine (K2 _).mono ?_); rintro e w' ⟨rfl, rfl⟩)
          go_wp2_with fail
          go_quiet (fail)
          go_wp2
          go_ret
          exact ⟨by simp [Ob.same], (((Ext.refl w).alloc _)).drewN _⟩
        · cases b <;> simp [Ob.kind] at h2
          rename_i n m
          simp only [Ob.val, Ob.kind] at *
          have f2 := held_fix.2
          have f3 := fun W => eql_fix n m W
          go_enter Try.func55, Try.ntmps55
          (go_wp2_with fail; (with_reducible refine (K1 _).mono ?_); rintro e w' ⟨rfl, rfl⟩)
          (go_wp2_with fail; (with_reducible refine (K1 _).mono ?_); rintro e w' ⟨rfl, rfl⟩)
          (go_wp2_with fail; (with_reducible refine (K2 _).mono ?_); rintro e w' ⟨rfl, rfl⟩)
          go_wp2_with fail
          go_quiet (fail)
          go_wp2
          go_ret
          exact ⟨by simp [Ob.same], ((((Ext.refl w).alloc _)).alloc _).drewN _⟩

end Go.Proofs.Ytgjjngkmbplijaa
