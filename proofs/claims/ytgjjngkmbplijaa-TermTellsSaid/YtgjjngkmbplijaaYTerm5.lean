/- Package term: Same. -/
import Derived.Test.YtgjjngkmbplijaaZTe
import Derived.Test.YtgjjngkmbplijaaZPl

namespace Go.Proofs.Ytgjjngkmbplijaa
open Go.RowKit
set_option linter.unusedSimpArgs false
set_option linter.unusedVariables false

def Te.same : Te → Te → Bool
  | .zero, .zero => true
  | .one s, .one t => s == t
  | .give t, .give t' => t.same t'
  | .and l r, .and l' r' => l.same l' && r.same r'
  | .or s l r, .or s' l' r' => s == s' && (l.same l' && r.same r')
  | .scale o t, .scale o' t' => o.same o' && t.same t'
  | .whn d t, .whn d' t' => d == d' && t.same t'
  | .cond o l r, .cond o' l' r' => o.same o' && (l.same l' && r.same r')
  | _, _ => false
/-- Two rows, one by one. -/
def sameT (p : Te → Te → Bool) : List Te → List Te → Bool
  | [], [] => true
  | a :: l, b :: r => p a b && sameT p l r
  | _, _ => false
theorem sameT_len {p : Te → Te → Bool} {l r : List Te} (h : l.length ≠ r.length) : sameT p l r = false := by
  induction l generalizing r with
  | nil => cases r with
    | nil => exact absurd rfl h
    | cons b r => rfl
  | cons a l ih => cases r with
    | nil => rfl
    | cons b r => simp only [sameT]; rw [ih (by simpa using h), Bool.and_false]
theorem sameT_take {p : Te → Te → Bool} {l r : List Te} {j : Nat} {a b : Te} (h1 : l[j]? = some a) (h2 : r[j]? = some b) : sameT p (l.take (j + 1)) (r.take (j + 1)) = (sameT p (l.take j) (r.take j) && p a b) := by
  induction l generalizing r j with
  | nil => simp at h1
  | cons x l ih => cases r with
    | nil => simp at h2
    | cons y r => cases j with
      | zero => simp at h1 h2; subst h1 h2; simp [sameT]
      | succ j => simp only [List.getElem?_cons_succ] at h1 h2; simp only [List.take_succ_cons, sameT]; rw [ih h1 h2, Bool.and_assoc]
theorem sameT_hit {p : Te → Te → Bool} {l r : List Te} {j : Nat} {a b : Te} (h1 : l[j]? = some a) (h2 : r[j]? = some b) (h : p a b = false) : sameT p l r = false := by
  induction l generalizing r j with
  | nil => simp at h1
  | cons x l ih => cases r with
    | nil => simp at h2
    | cons y r => cases j with
      | zero => simp at h1 h2; subst h1 h2; simp [sameT, h]
      | succ j => simp only [List.getElem?_cons_succ] at h1 h2; simp only [sameT]; rw [ih h1 h2, Bool.and_false]
def Te.numSame (a b : Te) : Bool := match a.num, b.num with
  | some o, some p => o.same p
  | some o, none => false
  | none, _ => true
theorem Te.same_kind {a b : Te} (h : a.kind = 0 ∨ a.kind ≠ b.kind) : a.same b = false := by
  cases a <;> cases b <;> simp [Te.kind] at h <;> rfl
theorem Te.same_parts {a b : Te} (h : a.kind = b.kind) (h3 : a.kind ≠ 0) : a.same b = ((a.ownS == b.ownS && a.ownD == b.ownD) && (a.numSame b && sameT Te.same a.kids b.kids)) := by
  cases a <;> cases b <;> simp [Te.kind] at h h3 <;> simp [Te.same, Te.ownS, Te.ownD, Te.numSame, Te.num, Te.kids, sameT]
theorem Te.num_kind {a b : Te} (h : a.kind = b.kind) : a.num.isSome = b.num.isSome := by
  cases a <;> cases b <;> simp [Te.kind] at h <;> rfl
set_option maxRecDepth 100000 in
set_option maxHeartbeats 1600000 in
theorem tequal_calls (l r : List Te) (p : Te → Te → Bool) (a1 : Option Addr) (c1 : Nat) (a2 : Option Addr) (c2 : Nat) (w : World) (hr1 : Rd w 1 a1 l.length (teVals l)) (hr2 : Rd w 1 a2 r.length (teVals r)) (hn1 : l.length ≤ c1) (hm1 : c1 ≤ maxLen) (hn2 : r.length ≤ c2) (hm2 : c2 ≤ maxLen)
    (HR : ∀ (x y : Te) (w' : World), x ∈ l → y ∈ r → Calls Try.prog 78 #[x.val, y.val] w' fun e w'' => RetB w' (p x y) e w'') :
    Calls Try.prog 118 #[.slice a1 l.length c1, .slice a2 r.length c2, .func (.func 78) #[] #[]] w fun e w' => RetB w (sameT p l r) e w' := by
  unfold maxLen at hm1 hm2
  by_cases hlen : l.length = r.length
  · go_enter Try.func118, Try.ntmps118
    have HL := Lib.hid hlen
    have hlen' : ((l.length : Int) != (r.length : Int)) = false := by rw [hlen]; simp
    clear hlen
    go_wp2_with fail
    go_loopw [17] (fun i wr => ∃ j : Nat, j ≤ l.length ∧ i = .int .i64 j ∧ sameT p (l.take j) (r.take j) = true ∧ Ext w wr) (fun i _ => l.length - (intOf i).toNat)
    case atStart => exact ⟨0, by omega, rfl, by simp [sameT], Ext.refl w⟩
    case round =>
      obtain ⟨j, hj, rfl, hyes, hx⟩ := hrel
      by_cases hlt : j < l.length
      · obtain ⟨x, e1, hm1, hv1⟩ := teVals_at hlt
        have hlt2 : j < r.length := by have := HL.out; omega
        obtain ⟨y, e2, hm2, hv2⟩ := teVals_at hlt2
        obtain ⟨ad1, u1, rfl, hu1, hc1⟩ := (hr1.ext hx).at1 hlt
        obtain ⟨ad2, u2, rfl, hu2, hc2⟩ := (hr2.ext hx).at1 hlt2
        obtain rfl : x.val = u1 := by rw [hv1] at hu1; injection hu1
        obtain rfl : y.val = u2 := by rw [hv2] at hu2; injection hu2
        have H := fun w' => HR x y w' hm1 hm2
        have hs := sameT_take (p := p) e1 e2
        rw [hyes] at hs
        have e0 := Lib.hid (And.intro e1 e2)
        have hs0 := Lib.hid hs
        have hj0 := Lib.hid (show j + 1 ≤ l.length from hlt)
        have hr0 := Lib.hid (And.intro hr1 hr2)
        clear hr1 hr2 hv1 hv2 hu1 hu2 HR e1 e2 hm1 hm2 hs hyes
        generalize x.val = v1 at *
        generalize y.val = v2 at *
        cases hp : p x y with
        | false =>
          rw [hp] at H
          (go_wp2_with fail; (with_reducible refine (H _).mono ?_); rintro e w' ⟨rfl, hx4⟩)
          go_wp2
          go_ret
          exact ⟨by rw [sameT_hit e0.out.1 e0.out.2 hp]; rfl, hx.trans hx4⟩
        | true =>
          rw [hp] at H
          (go_wp2_with fail; (with_reducible refine (H _).mono ?_); rintro e w' ⟨rfl, hx4⟩)
          go_wp2_with fail
          go_roundw
          case rel => exact ⟨j + 1, hj0.out, by go_num, by rw [hs0.out, hp]; rfl, hx.trans hx4⟩
          case measure => simp [intOf]; omega
      · obtain rfl : j = l.length := by omega
        rw [List.take_length] at hyes
        rw [HL.out, List.take_length] at hyes
        clear HR
        go_wp2
        go_ret
        exact ⟨by rw [hyes]; rfl, hx⟩
  · have hlen' : ((l.length : Int) != (r.length : Int)) = true := by simp; omega
    have HS := Lib.hid (sameT_len (p := p) hlen)
    clear HR hr1 hr2
    go_enter Try.func118, Try.ntmps118
    go_wp2
    go_ret
    exact ⟨by rw [HS.out]; rfl, Ext.refl w⟩


set_option maxRecDepth 100000 in
set_option maxHeartbeats 1600000 in
theorem tsame_calls (k : Nat) : ∀ (a b : Te) (w : World), SizeOf.sizeOf a < k → a.wf → b.wf → Calls Try.prog 78 #[a.val, b.val] w fun e w' => RetB w (a.same b) e w' := by
  induction k with
  | zero => intro a b w h; omega
  | succ k ih =>
    intro a b w hk ha hb
    have K1 := fun w' => tkind_calls a w' ha
    have K2 := fun w' => tkind_calls b w' hb
    by_cases h0 : a.kind = 0 ∨ a.kind ≠ b.kind
    · have HS := Lib.hid (Te.same_kind h0)
      clear ih hk ha hb
      generalize a.val = v1 at *
      generalize b.val = v2 at *
      generalize a.kind = n1 at *
      generalize b.kind = n2 at *
      have h1 : ((n1 : Int) == 0) = decide (n1 = 0) := nat0 n1
      by_cases hz : n1 = 0
      · subst hz
        go_enter Try.func78, Try.ntmps78
        (go_wp2_with fail; (with_reducible refine (K1 _).mono ?_); rintro e w' ⟨rfl, rfl⟩)
        go_wp2
        go_ret
        exact ⟨by rw [HS.out]; rfl, Ext.refl _⟩
      · have h2 : ((n1 : Int) != (n2 : Int)) = true := by simp; omega
        have hz' : ((n1 : Int) == 0) = false := by rw [h1]; simp [hz]
        clear h0 h1
        go_enter Try.func78, Try.ntmps78
        (go_wp2_with fail; (with_reducible refine (K1 _).mono ?_); rintro e w' ⟨rfl, rfl⟩)
        (go_wp2_with fail; (with_reducible refine (K1 _).mono ?_); rintro e w' ⟨rfl, rfl⟩)
        (go_wp2_with fail; (with_reducible refine (K2 _).mono ?_); rintro e w' ⟨rfl, rfl⟩)
        go_wp2
        go_ret
        exact ⟨by rw [HS.out]; rfl, Ext.refl _⟩
    · have h1 : a.kind ≠ 0 := fun h => h0 (.inl h)
      have h2 : a.kind = b.kind := Decidable.byContradiction fun h => h0 (.inr h)
      clear h0
      have HS := Lib.hid (Te.same_parts h2 h1)
      have O1 := fun w' => town_calls a w' ha
      have O2 := fun w' => town_calls b w' hb
      have N1 := fun w' => tnum_calls a w' ha
      have N2 := fun w' => tnum_calls b w' hb
      have Q1 := fun w' => tkids_own a w' ha
      have Q2 := fun w' => tkids_own b w' hb
      have HR : ∀ (x y : Te) (w' : World), x ∈ a.kids → y ∈ b.kids → Calls Try.prog 78 #[x.val, y.val] w' fun e w'' => RetB w' (x.same y) e w'' := fun x y w' hx hy =>
        ih x y w' (by have := Te.kids_size hx; omega) (Te.kids_wf ha hx) (Te.kids_wf hb hy)
      have HE := fun (w' : World) a1 c1 a2 c2 h1 h2 h3 h4 h5 h6 => tequal_calls a.kids b.kids Te.same a1 c1 a2 c2 w' h1 h2 h3 h4 h5 h6 HR
      have hnk := Te.num_kind h2
      have hnum : (a.num = none ∧ b.num = none ∧ a.numSame b = true) ∨ ∃ o p, a.num = some o ∧ b.num = some p ∧ a.numSame b = o.same p := by
        unfold Te.numSame
        cases e1 : a.num with
        | none =>
          rw [e1] at hnk
          cases e2 : b.num with
          | none => exact .inl ⟨rfl, rfl, rfl⟩
          | some p => rw [e2] at hnk; cases hnk
        | some o =>
          rw [e1] at hnk
          cases e2 : b.num with
          | none => rw [e2] at hnk; cases hnk
          | some p => exact .inr ⟨o, p, rfl, rfl, rfl⟩
      have HO := fun (o p : Ob) (w' : World) (e1 : a.num = some o) (e2 : b.num = some p) => osame_calls _ o p w' (Nat.lt_succ_self _) (Te.num_wf ha e1) (Te.num_wf hb e2)
      have v1 : a.numV = match a.num with | some o => o.val | none => .nilIface := rfl
      have v2 : b.numV = match b.num with | some o => o.val | none => .nilIface := rfl
      have hz' : ((a.kind : Int) == 0) = false := by simp; omega
      have hne : ((a.kind : Int) != (a.kind : Int)) = false := by simp
      rw [← h2] at K2
      clear ih hk ha hb HR hnk h1 h2
      generalize a.numSame b = ns at *
      generalize sameT Te.same a.kids b.kids = ks at *
      generalize teVals a.kids = xs at *
      generalize teVals b.kids = ys at *
      generalize a.kids.length = m1 at *
      generalize b.kids.length = m2 at *
      generalize a.kind = n1 at *
      generalize a.val = va at *
      generalize b.val = vb at *
      generalize a.same b = r at *
      generalize a.ownS = s1 at *
      generalize b.ownS = s2 at *
      generalize a.ownD = d1 at *
      generalize b.ownD = d2 at *
      generalize a.numV = w1 at *
      generalize b.numV = w2 at *
      have hown : ((s1.toList == s2.toList) = false ∧ (s1 == s2 && d1 == d2) = false) ∨ ((s1.toList == s2.toList) = true ∧ (d1 == d2) = false ∧ (s1 == s2 && d1 == d2) = false) ∨ ((s1.toList == s2.toList) = true ∧ (d1 == d2) = true ∧ (s1 == s2 && d1 == d2) = true) := by
        rw [bytes_beq]
        cases s1 == s2 <;> cases d1 == d2 <;> simp
      rcases hown with ⟨g1, g2⟩ | ⟨g1, g3, g2⟩ | ⟨g1, g3, g2⟩
      · rw [g2] at HS
        clear g2 hnum HO HE Q1 Q2 N1 N2
        go_enter Try.func78, Try.ntmps78
        (go_wp2_with fail; (with_reducible refine (K1 _).mono ?_); rintro e w' ⟨rfl, rfl⟩)
        (go_wp2_with fail; (with_reducible refine (K1 _).mono ?_); rintro e w' ⟨rfl, rfl⟩)
        (go_wp2_with fail; (with_reducible refine (K2 _).mono ?_); rintro e w' ⟨rfl, rfl⟩)
        (go_wp2_with fail; (with_reducible refine (O1 _).mono ?_); rintro e w' ⟨rfl, hx1⟩)
        (go_wp2_with fail; (with_reducible refine (O2 _).mono ?_); rintro e w' ⟨rfl, hx2⟩)
        go_wp2
        go_ret
        exact ⟨by rw [HS.out]; rfl, (by repeat' (first | (with_reducible exact Ext.refl _) | (with_reducible assumption) | (with_reducible refine Ext.alloc ?_ _) | (with_reducible refine Ext.drew ?_) | (with_reducible refine Ext.drewN ?_ _) | (with_reducible refine Ext.setCell ?_ (by first | exact Nat.le_refl _ | (simp; done) | (simp; omega) | omega) _) | (with_reducible refine Ext.trans ?_ (by assumption))))⟩
      · rw [g2] at HS
        have g4 : (d1 != d2) = true := by simpa using g3
        clear g2 g3 hnum HO HE Q1 Q2 N1 N2
        go_enter Try.func78, Try.ntmps78
        (go_wp2_with fail; (with_reducible refine (K1 _).mono ?_); rintro e w' ⟨rfl, rfl⟩)
        (go_wp2_with fail; (with_reducible refine (K1 _).mono ?_); rintro e w' ⟨rfl, rfl⟩)
        (go_wp2_with fail; (with_reducible refine (K2 _).mono ?_); rintro e w' ⟨rfl, rfl⟩)
        (go_wp2_with fail; (with_reducible refine (O1 _).mono ?_); rintro e w' ⟨rfl, hx1⟩)
        (go_wp2_with fail; (with_reducible refine (O2 _).mono ?_); rintro e w' ⟨rfl, hx2⟩)
        go_wp2
        go_ret
        exact ⟨by rw [HS.out]; rfl, (by repeat' (first | (with_reducible exact Ext.refl _) | (with_reducible assumption) | (with_reducible refine Ext.alloc ?_ _) | (with_reducible refine Ext.drew ?_) | (with_reducible refine Ext.drewN ?_ _) | (with_reducible refine Ext.setCell ?_ (by first | exact Nat.le_refl _ | (simp; done) | (simp; omega) | omega) _) | (with_reducible refine Ext.trans ?_ (by assumption))))⟩
      · rw [g2] at HS
        have g4 : (d1 != d2) = false := by simpa using g3
        clear g2 g3
        rcases hnum with ⟨e1, e2, e3⟩ | ⟨o, p, e1, e2, e3⟩
        · rw [e1] at N1 v1
          rw [e2] at N2 v2
          rw [e3] at HS
          simp only at v1 v2
          subst v1 v2
          clear HO e1 e2 e3 N2
          go_enter Try.func78, Try.ntmps78
          (go_wp2_with fail; (with_reducible refine (K1 _).mono ?_); rintro e w' ⟨rfl, rfl⟩)
          (go_wp2_with fail; (with_reducible refine (K1 _).mono ?_); rintro e w' ⟨rfl, rfl⟩)
          (go_wp2_with fail; (with_reducible refine (K2 _).mono ?_); rintro e w' ⟨rfl, rfl⟩)
          (go_wp2_with fail; (with_reducible refine (O1 _).mono ?_); rintro e w' ⟨rfl, hx1⟩)
          (go_wp2_with fail; (with_reducible refine (O2 _).mono ?_); rintro e w' ⟨rfl, hx2⟩)
          (go_wp2_with fail; (with_reducible refine (N1 _).mono ?_); rintro e w' ⟨rfl, hx3⟩)
          (go_wp2_with fail; (with_reducible refine (Q1 _).mono ?_); rintro e w' ⟨kv1, rfl, ho1, hx4⟩)
          obtain ⟨A1, C1, rfl, hn1, hm1⟩ := own_form ho1
          (go_wp2_with fail; (with_reducible refine (Q2 _).mono ?_); rintro e w' ⟨kv2, rfl, ho2, hx5⟩)
          obtain ⟨A2, C2, rfl, hn2, hm2⟩ := own_form ho2
          have hr1 := (Rd.of_own ho1).ext hx5
          have hr2 := Rd.of_own ho2
          clear ho1 ho2
          (go_wp2_with fail; (with_reducible refine (HE _ _ _ _ _ hr1 hr2 hn1 hm1 hn2 hm2).mono ?_); rintro e w' ⟨rfl, hx6⟩)
          go_wp2
          go_ret
          exact ⟨by rw [HS.out]; simp, (by repeat' (first | (with_reducible exact Ext.refl _) | (with_reducible assumption) | (with_reducible refine Ext.alloc ?_ _) | (with_reducible refine Ext.drew ?_) | (with_reducible refine Ext.drewN ?_ _) | (with_reducible refine Ext.setCell ?_ (by first | exact Nat.le_refl _ | (simp; done) | (simp; omega) | omega) _) | (with_reducible refine Ext.trans ?_ (by assumption))))⟩
        · have HO := fun w' => HO o p w' e1 e2
          rw [e1] at N1 v1
          rw [e2] at N2 v2
          rw [e3] at HS
          simp only at v1 v2
          subst v1 v2
          clear e1 e2 e3
          generalize o.val = w1 at *
          generalize p.val = w2 at *
          generalize hos : o.same p = os at *
          clear hos
          cases os with
          | false =>
            go_enter Try.func78, Try.ntmps78
            (go_wp2_with fail; (with_reducible refine (K1 _).mono ?_); rintro e w' ⟨rfl, rfl⟩)
            (go_wp2_with fail; (with_reducible refine (K1 _).mono ?_); rintro e w' ⟨rfl, rfl⟩)
            (go_wp2_with fail; (with_reducible refine (K2 _).mono ?_); rintro e w' ⟨rfl, rfl⟩)
            (go_wp2_with fail; (with_reducible refine (O1 _).mono ?_); rintro e w' ⟨rfl, hx1⟩)
            (go_wp2_with fail; (with_reducible refine (O2 _).mono ?_); rintro e w' ⟨rfl, hx2⟩)
            (go_wp2_with fail; (with_reducible refine (N1 _).mono ?_); rintro e w' ⟨rfl, hx3⟩)
            (go_wp2_with fail; (with_reducible refine (N2 _).mono ?_); rintro e w' ⟨rfl, hx7⟩)
            (go_wp2_with fail; (with_reducible refine (HO _).mono ?_); rintro e w' ⟨rfl, hx8⟩)
            go_wp2
            go_ret
            exact ⟨by rw [HS.out]; simp, (by repeat' (first | (with_reducible exact Ext.refl _) | (with_reducible assumption) | (with_reducible refine Ext.alloc ?_ _) | (with_reducible refine Ext.drew ?_) | (with_reducible refine Ext.drewN ?_ _) | (with_reducible refine Ext.setCell ?_ (by first | exact Nat.le_refl _ | (simp; done) | (simp; omega) | omega) _) | (with_reducible refine Ext.trans ?_ (by assumption))))⟩
          | true =>
            go_enter Try.func78, Try.ntmps78
            (go_wp2_with fail; (with_reducible refine (K1 _).mono ?_); rintro e w' ⟨rfl, rfl⟩)
            (go_wp2_with fail; (with_reducible refine (K1 _).mono ?_); rintro e w' ⟨rfl, rfl⟩)
            (go_wp2_with fail; (with_reducible refine (K2 _).mono ?_); rintro e w' ⟨rfl, rfl⟩)
            (go_wp2_with fail; (with_reducible refine (O1 _).mono ?_); rintro e w' ⟨rfl, hx1⟩)
            (go_wp2_with fail; (with_reducible refine (O2 _).mono ?_); rintro e w' ⟨rfl, hx2⟩)
            (go_wp2_with fail; (with_reducible refine (N1 _).mono ?_); rintro e w' ⟨rfl, hx3⟩)
            (go_wp2_with fail; (with_reducible refine (N2 _).mono ?_); rintro e w' ⟨rfl, hx7⟩)
            (go_wp2_with fail; (with_reducible refine (HO _).mono ?_); rintro e w' ⟨rfl, hx8⟩)
            (go_wp2_with fail; (with_reducible refine (Q1 _).mono ?_); rintro e w' ⟨kv1, rfl, ho1, hx4⟩)
            obtain ⟨A1, C1, rfl, hn1, hm1⟩ := own_form ho1
            (go_wp2_with fail; (with_reducible refine (Q2 _).mono ?_); rintro e w' ⟨kv2, rfl, ho2, hx5⟩)
            obtain ⟨A2, C2, rfl, hn2, hm2⟩ := own_form ho2
            have hr1 := (Rd.of_own ho1).ext hx5
            have hr2 := Rd.of_own ho2
            clear ho1 ho2
            (go_wp2_with fail; (with_reducible refine (HE _ _ _ _ _ hr1 hr2 hn1 hm1 hn2 hm2).mono ?_); rintro e w' ⟨rfl, hx6⟩)
            go_wp2
            go_ret
            exact ⟨by rw [HS.out]; simp, (by repeat' (first | (with_reducible exact Ext.refl _) | (with_reducible assumption) | (with_reducible refine Ext.alloc ?_ _) | (with_reducible refine Ext.drew ?_) | (with_reducible refine Ext.drewN ?_ _) | (with_reducible refine Ext.setCell ?_ (by first | exact Nat.le_refl _ | (simp; done) | (simp; omega) | omega) _) | (with_reducible refine Ext.trans ?_ (by assumption))))⟩

theorem Te.same_refl (t : Te) (h : t.clean) : t.same t = true := by
  induction t with
  | zero => rfl
  | one s => simp [Te.same]
  | give t ih => simp [Te.same, ih h]
  | and l r ihl ihr => simp [Te.same, ihl h.1, ihr h.2]
  | or s l r ihl ihr => simp [Te.same, ihl h.1, ihr h.2]
  | scale o t ih => simp [Te.same, ih h.2, o.same_refl h.1]
  | whn d t ih => simp [Te.same, ih h]
  | cond o l r ihl ihr => simp [Te.same, ihl h.2.1, ihr h.2.2, o.same_refl h.1]
  | odd v => exact h.elim

end Go.Proofs.Ytgjjngkmbplijaa
