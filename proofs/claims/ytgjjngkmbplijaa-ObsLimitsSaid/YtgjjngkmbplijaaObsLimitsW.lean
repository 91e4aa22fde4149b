/- The walk of the law ObsLimits. -/
import Derived.Test.YtgjjngkmbplijaaOffRow
import Derived.Test.YtgjjngkmbplijaaValue
import Derived.Deep.RegionLaw
import Derived.Deep.QuietTactic
import Derived.BigQuiet
namespace Go.Proofs.Ytgjjngkmbplijaa
open Go.RowKit
set_option linter.unusedSimpArgs false
set_option linter.unusedVariables false

theorem oname_x : isName ⟨#[120]⟩ = true := by decide +kernel
theorem oname_1a : isName ⟨#[49, 97]⟩ = false := by decide +kernel
def negs : Nat → Ob
  | 0 => .fix ⟨#[120]⟩
  | k + 1 => .neg (negs k)
theorem negs_facts (k : Nat) : (negs k).wf ∧ (negs k).formed = true ∧ (negs k).nodes = k + 1 ∧ (negs k).depth = k + 1 ∧ ∃ t x, (negs k).val = .iface t x := by
  induction k with
  | zero => exact ⟨by show (⟨#[120]⟩ : ByteArray).size ≤ 1000; decide, oname_x, rfl, rfl, _, _, rfl⟩
  | succ k ih =>
    obtain ⟨h1, h2, h3, h4, _⟩ := ih
    exact ⟨h1, h2, by simp only [negs, Ob.nodes, h3], by simp only [negs, Ob.depth, h4], _, _, rfl⟩
theorem negs_checked {k : Nat} (h : k ≤ 12) : (negs k).checked = if 12 ≤ k then 5 else 0 := by
  obtain ⟨h1, h2, h3, h4, _⟩ := negs_facts k
  unfold Ob.checked
  rw [if_pos h2]
  by_cases hk : 12 ≤ k
  · rw [if_pos (by omega), if_pos hk]
  · rw [if_neg (by omega), if_neg hk]

set_option maxRecDepth 100000 in
set_option maxHeartbeats 1600000 in
theorem obsLimits_no (n : Int) (w : World) (w0 : (Lit.int .i64 n).wf = true) :
    Calls Try.prog 7 #[.int .i64 n, .bool false] w fun e w' => e = .returned (.bool true) ∧ Ext w w' := by
  have b1 := i64_of w0
  have m1 := within_lo n 4 (by omega)
  have m2 := within_hi n 4 (by omega)
  clear w0
  have K1 := fun w' => ocheck_calls (.const 1000000000001) w' ⟨by omega, by omega⟩ (by decide)
  have K2 := fun w' => ocheck_calls (.const (-1000000000000)) w' ⟨by omega, by omega⟩ (by decide)
  have K3 := fun w' => ocheck_calls (.fix ⟨#[49, 97]⟩) w' (by show (⟨#[49, 97]⟩ : ByteArray).size ≤ 1000; decide) (by decide)
  rw [show (Ob.const 1000000000001).checked = 2 by decide] at K1
  rw [show (Ob.const (-1000000000000)).checked = 0 by decide] at K2
  rw [show (Ob.fix ⟨#[49, 97]⟩).checked = 2 by unfold Ob.checked Ob.formed; rw [oname_1a]; rfl] at K3
  simp only [Ob.val] at K1 K2 K3
  go_enter Try.func7, Try.ntmps7
  (go_wp2_with fail; (with_reducible refine (within_calls _ _ _ (by omega) (by omega) b1.1 b1.2).mono ?_); rintro e w' ⟨rfl, rfl⟩)
  obtain ⟨q, hq⟩ : ∃ q : Nat, n % 4 = q := ⟨(n % 4).toNat, by omega⟩
  rw [hq] at m1 m2 ⊢
  clear hq
  go_wp2_with fail
  go_loop [10, 9] (fun i t => ∃ k : Nat, k ≤ 9 + q ∧ i = .int .i64 (k + 1 : Nat) ∧ t = (negs k).val) (fun i _ => 14 - (intOf i).toNat)
  case atStart => exact ⟨0, by omega, rfl, rfl⟩
  case round =>
    obtain ⟨k, hk, rfl, rfl⟩ := hrel
    obtain ⟨f1, f2, f3, f4, ty, x, hf⟩ := negs_facts k
    by_cases hlt : k < 9 + q
    · have hk1 : ((k + 1 : Nat) : Int) < 10 + (q : Int) := by omega
      have hgv := Lib.hid (show (negs (k + 1)).val = .iface 62 (.agg #[(negs k).val]) from rfl)
      rw [hf] at hgv ⊢
      clear f1 f2 f3 f4 hf
      go_wp2_with fail
      go_round
      case rel => exact ⟨k + 1, by omega, by go_num, hgv.out.symm⟩
      case measure => simp [intOf]; omega
    · obtain rfl : k = 9 + q := by omega
      have hk1 : ¬ ((9 + q + 1 : Nat) : Int) < 10 + (q : Int) := by omega
      have HC := fun w' => ocheck_calls (negs (9 + q)) w' f1 (by omega)
      rw [negs_checked (by omega)] at HC
      rw [hf] at HC ⊢
      clear f1 f2 f3 f4 hf
      have hwant : (12 < 10 + (q : Int) ∧ (if 12 ≤ 9 + q then 5 else 0 : Int) = 5) ∨ (10 + (q : Int) ≤ 12 ∧ (if 12 ≤ 9 + q then 5 else 0 : Int) = 0) := by
        by_cases h : 3 ≤ q
        · exact .inl ⟨by omega, by rw [if_pos (by omega)]⟩
        · exact .inr ⟨by omega, by rw [if_neg (by omega)]⟩
      rcases hwant with ⟨g1, g2⟩ | ⟨g1, g2⟩
      all_goals
        rw [g2] at HC
        clear g2
        (go_wp2_with fail; (with_reducible refine (HC _).mono ?_); rintro e w' ⟨rfl, hx1⟩)
        (go_wp2_with fail; (with_reducible refine (K1 _).mono ?_); rintro e w' ⟨rfl, hx2⟩)
        (go_wp2_with fail; (with_reducible refine (K2 _).mono ?_); rintro e w' ⟨rfl, hx3⟩)
        (go_wp2_with fail; (with_reducible refine (K3 _).mono ?_); rintro e w' ⟨rfl, hx4⟩)
        (go_wp2_with fail; (with_reducible refine (wakes04_calls _).mono ?_); rintro e w' ⟨rfl, hx5⟩)
        go_wp2
        go_ret
        exact ⟨rfl, (by repeat' (first | (with_reducible exact Ext.refl _) | (with_reducible assumption) | (with_reducible refine Ext.alloc ?_ _) | (with_reducible refine Ext.drew ?_) | (with_reducible refine Ext.drewN ?_ _) | (with_reducible refine Ext.setCell ?_ (by first | exact Nat.le_refl _ | (simp; done) | (simp; omega) | omega) _) | (with_reducible refine Ext.trans ?_ (by assumption))))⟩

/-- The first two are taken away, their sum is put behind. -/
def stepL : List Ob → List Ob
  | a :: b :: r => r ++ [.add a b]
  | l => l
def iterL : Nat → List Ob → List Ob
  | 0, l => l
  | k + 1, l => stepL (iterL k l)
def consts (n : Nat) : List Ob := (List.range n).map fun i : Nat => Ob.const (i : Int)
def iface (o : Ob) : Bool := match o with | .const _ => true | .add _ _ => true | _ => false
theorem consts_succ (n : Nat) : consts (n + 1) = consts n ++ [.const (n : Int)] := by simp [consts, List.range_succ]
theorem stepL_at {l : List Ob} {n : Nat} (h : l.length = n + 2) : ∃ a b r, l = a :: b :: r ∧ r.length = n ∧ stepL l = r ++ [.add a b] := by
  match l, h with
  | a :: b :: r, h => exact ⟨a, b, r, rfl, by simpa using h, rfl⟩
theorem iterL_facts (n : Nat) (hn : n ≤ 1000) (j : Nat) (hj : j + 1 ≤ n) : (iterL j (consts n)).length = n - j ∧ ∀ o ∈ iterL j (consts n), o.wf ∧ iface o = true := by
  induction j with
  | zero =>
    refine ⟨by simp [iterL, consts], fun o ho => ?_⟩
    simp only [iterL, consts, List.mem_map, List.mem_range] at ho
    obtain ⟨i, hi, rfl⟩ := ho
    exact ⟨⟨by omega, by omega⟩, rfl⟩
  | succ j ih =>
    obtain ⟨h1, h2⟩ := ih (by omega)
    obtain ⟨a, b, r, e1, e2, e3⟩ := stepL_at (l := iterL j (consts n)) (n := n - j - 2) (by omega)
    simp only [iterL]
    rw [e3]
    rw [e1] at h2
    refine ⟨by simp; omega, fun o ho => ?_⟩
    rcases List.mem_append.1 ho with h | h
    · exact h2 o (by simp [h])
    · rw [List.mem_singleton.1 h]
      exact ⟨⟨(h2 a (by simp)).1, (h2 b (by simp)).1⟩, rfl⟩
theorem Ob.form_if {o : Ob} (h : iface o = true) : ∃ t x, o.val = .iface t x := by
  cases o <;> simp [iface] at h <;> exact ⟨_, _, rfl⟩
def endOk (n : Nat) : Bool := match iterL (n - 1) (consts n) with
  | [o] => o.nodes == 2 * n - 1 && o.formed && decide (o.depth ≤ 12)
  | _ => false
theorem ends (q : Nat) (h : q < 4) : endOk (29 + q) = true := by
  rcases (by omega : q = 0 ∨ q = 1 ∨ q = 2 ∨ q = 3) with rfl | rfl | rfl | rfl <;> decide +kernel
theorem end_at (q : Nat) (h : q < 4) : ∃ o, iterL (28 + q) (consts (29 + q)) = [o] ∧ o.nodes = 57 + 2 * q ∧ o.checked = (if 60 < 57 + 2 * q then 5 else 0) := by
  have he := ends q h
  unfold endOk at he
  rw [show 29 + q - 1 = 28 + q by omega] at he
  split at he
  · rename_i o ho
    simp only [Bool.and_eq_true, beq_iff_eq, decide_eq_true_eq] at he
    obtain ⟨⟨h1, h2⟩, h3⟩ := he
    have hn : o.nodes = 57 + 2 * q := by omega
    refine ⟨o, ho, hn, ?_⟩
    unfold Ob.checked
    rw [if_pos h2, hn]
    by_cases hc : 60 < 57 + 2 * q
    · rw [if_pos (.inl hc), if_pos hc]
    · rw [if_neg (by omega), if_neg hc]
  · cases he
/-- 'append' to a row from some place on, at a step of a region that draws. -/
theorem step_app_off {P : Program} {w : World} {t e : TypeId} {bytes : Nat} (E : Elem P t e 1 bytes) {ops : Array Oper} {o : Oper} {a : Act} {K : Act → World → Prop} {Q : Exit → Act → World → Prop} {Ee : Prop} (hgd : o.guard = none) (s x : Operand)
    (ho : o.op = .call { callee := .builtin .append, args := #[s, x], argTypes := #[t, t] })
    (base : Nat) (v : Value) (n : Nat) (xs : List Value) (hs : a.eval s = v) (hoff : OffRow w base e v n xs)
    (ad : Addr) (c : Nat) (u : Value) (hx : a.eval x = .slice (some ad) 1 c) (hu : w.cell? ad = some u) (h1 : u.oneCell' = true)
    (h63 : n + 1 ≤ maxLen) (hbytes : (n + 1) * bytes ≤ 140737488355328) (hbase : base ≤ w.heap.size)
    (h : ∀ g off C' w', OffRow w' base e (.slice (some ⟨g, off, none⟩) (n + 1) C') (n + 1) (xs ++ [u]) → w.grownBy w' v.ownBlock → K (a.put o.dst (.slice (some ⟨g, off, none⟩) (n + 1) C')) w') :
    if Region.wanted o (yielded ops a.tmps) = true then Oper.wp P o a w K Q else Ee := by
  have hw : Region.wanted o (yielded ops a.tmps) = true := by simp [Region.wanted, hgd]
  rw [if_pos hw]
  obtain ⟨v', w', hrun, h2, h3⟩ := run_app_off (P := P) E o.type hoff ad c u hu h1 h63 hbytes hbase
  have h2' := h2
  obtain ⟨_, g, off, C', cur, rfl, _⟩ := h2'
  unfold Oper.wp execOp
  simp only [ho, resolve, invoke, builtin, Sem.run_bind, Sem.run_pure, Result.andThen_ok, List.map_toArray, List.map_cons, List.map_nil, hs, hx, hrun]
  exact h g off C' w' h2 h3
theorem elemOb : Elem Try.prog 50 53 1 16 := elem_of (z := .nilIface) (by kernel_rfl) (by kernel_rfl) rfl (by omega)

set_option maxRecDepth 100000 in
set_option maxHeartbeats 1600000 in
theorem obsLimits_yes (n : Int) (w : World) (w0 : (Lit.int .i64 n).wf = true) :
    Calls Try.prog 7 #[.int .i64 n, .bool true] w fun e w' => e = .returned (.bool true) ∧ Ext w w' := by
  have b1 := i64_of w0
  have m1 := within_lo n 4 (by omega)
  have m2 := within_hi n 4 (by omega)
  clear w0
  go_enter Try.func7, Try.ntmps7
  (go_wp2_with fail; (with_reducible refine (within_calls _ _ _ (by omega) (by omega) b1.1 b1.2).mono ?_); rintro e w' ⟨rfl, rfl⟩)
  obtain ⟨q, hq⟩ : ∃ q : Nat, n % 4 = q := ⟨(n % 4).toNat, by omega⟩
  rw [hq] at m1 m2 ⊢
  clear hq
  go_wp2_with fail
  go_loopw [6, 5] (fun i l wr => ∃ (j : Nat) (A1 : Option Addr) (C1 : Nat), j ≤ 29 + q ∧ i = .int .i64 j ∧ l = .slice A1 j C1 ∧ wr.ownsRow w.heap.size 53 1 (.slice A1 j C1) j (obVals (consts j)) ∧ Ext w wr) (fun i _ _ => 29 + q - (intOf i).toNat)
  case atStart => exact ⟨0, _, _, by omega, rfl, rfl, own_new rfl (by simp [obVals, consts]) (Nat.le_refl _) rfl, ((by repeat' (first | (with_reducible exact Ext.refl _) | (with_reducible assumption) | (with_reducible refine Ext.alloc ?_ _) | (with_reducible refine Ext.drew ?_) | (with_reducible refine Ext.drewN ?_ _) | (with_reducible refine Ext.setCell ?_ (by first | exact Nat.le_refl _ | (simp; done) | (simp; omega) | omega) _) | (with_reducible refine Ext.trans ?_ (by assumption)))))⟩
  case round =>
    obtain ⟨j, A1, C1, hj, rfl, rfl, hown, hE⟩ := hrel
    obtain ⟨_, _, _, hC1, hC1m⟩ := own_form hown
    by_cases hlt : j < 29 + q
    · have hji : (j : Int) ≤ 28 + (q : Int) := by omega
      have h63 : j + 1 ≤ maxLen := by unfold maxLen; omega
      have hby : (j + 1) * 16 ≤ 140737488355328 := by omega
      have hE0 := Lib.hid hE
      go_wp2_with (at_builtin; refine wpList_app elemOb rfl _ _ rfl w.heap.size (.slice A1 j C1) j (obVals (consts j)) rfl (hown.alloc _) (some ⟨wr.heap.size, 0, none⟩) 1 1 [.iface 52 (.agg #[.int .i64 j])] rfl (by exact Rd.newAt (by simp) rfl rfl) (by simp [Value.oneCell']) h63 hby (by have := hE0.out.le; simp; omega) ?_; intro v1 w1 hown1 hg1 hat1)
      obtain ⟨A6, C6, rfl, h6, h7⟩ := own_form hown1
      have hE1 := Lib.hid ((hE0.out.alloc _).grown hg1 (fun k hk => (hown.lt k hk).1))
      have hown6 := Lib.hid (show w1.ownsRow w.heap.size 53 1 (.slice A6 (j + 1) C6) (j + 1) (obVals (consts (j + 1))) by rw [consts_succ]; simpa [obVals, Ob.val] using hown1)
      clear hown1 hg1 hat1 h63 hby hown
      go_wp2_with fail
      go_roundw
      case rel => exact ⟨j + 1, A6, C6, by omega, by go_num, rfl, hown6.out, hE1.out⟩
      case measure => simp [intOf]; omega
    · obtain rfl : j = 29 + q := by omega
      have hji : ¬ ((29 + q : Nat) : Int) ≤ 28 + (q : Int) := by omega
      have hoff := Lib.hid (OffRow.of_own hown (by omega))
      have hE0 := Lib.hid hE
      have hoff2 := hoff.out
      obtain ⟨_, g, off, C2, cur, e1, _⟩ := hoff2
      injection e1 with e1 e2 e3
      subst e1 e3
      clear hown hE
      go_wp2_with fail
      go_loopw [5] (fun l wr => ∃ (j k g off C : Nat), j + (k + 1) = 29 + q ∧ l = .slice (some ⟨g, off, none⟩) (k + 1) C ∧ OffRow wr w.heap.size 53 (.slice (some ⟨g, off, none⟩) (k + 1) C) (k + 1) (obVals (iterL j (consts (29 + q)))) ∧ Ext w wr) (fun l _ => match l with | .slice _ n _ => n | _ => 0)
      case atStart => exact ⟨0, 28 + q, g, off, C1, by omega, by rw [show 28 + q + 1 = 29 + q by omega], by rw [show 28 + q + 1 = 29 + q by omega]; exact hoff.out, hE0.out⟩
      case round =>
        obtain ⟨j, k, g1, off1, C3, hjk, rfl, hO, hE⟩ := hrel
        obtain ⟨f1, f2⟩ := iterL_facts (29 + q) (by omega) j (by omega)
        by_cases hk : k = 0
        · subst hk
          obtain rfl : j = 28 + q := by omega
          obtain ⟨o, e1, e2, e3⟩ := end_at q (by omega)
          have hwf := (f2 o (by rw [e1]; simp)).1
          obtain ⟨to, xo, eo⟩ := Ob.form_if (f2 o (by rw [e1]; simp)).2
          have H1 := fun w' => osize_calls _ o w' (Nat.lt_succ_self _) hwf (by omega)
          have H2 := fun w' => ocheck_calls o w' hwf (by omega)
          rw [e2, show ((57 + 2 * q : Nat) : Int) = 57 + 2 * (q : Int) by omega] at H1
          rw [e3] at H2
          rw [e1] at hO
          obtain ⟨hl0, g2, off2, C4, cur2, e4, g3, g4, g5, g6, g7, g8⟩ := hO
          injection e4 with e4 e5 e6
          injection e4 with e4
          injection e4 with e4 e7
          subst e4 e6 e7
          obtain ⟨z, zf, zl⟩ := obj_cells g4
          have z0 := z off1 _ (by have := g8 0 o.val rfl; simpa using this)
          have hz1 : (0 : Int) < 1 := by omega
          rw [eo] at z0 H1 H2
          have hnn : (57 + 2 * (q : Int) == 2 * (28 + (q : Int)) + 1) = true := by simp; omega
          clear f1 f2 z g4 g8 e1 e2 e3 eo hwf
          have hq60 : (60 < 57 + 2 * q ∧ (60 : Int) < 57 + 2 * (q : Int)) ∨ (¬ 60 < 57 + 2 * q ∧ 57 + 2 * (q : Int) ≤ 60) := by omega
          rcases hq60 with ⟨c1, c2⟩ | ⟨c1, c2⟩
          · rw [if_pos c1] at H2
            have c3 : decide (57 + 2 * (q : Int) ≤ 60) = false := by simp; omega
            clear c1
            (go_wp2_with fail; (with_reducible refine (H1 _).mono ?_); rintro e w' ⟨rfl, hx1⟩)
            have z0 := hx1.cell z0
            (go_wp2_with fail; (with_reducible refine (H2 _).mono ?_); rintro e w' ⟨rfl, hx2⟩)
            have z0 := hx2.cell z0
            (go_wp2_with fail; (with_reducible refine (H2 _).mono ?_); rintro e w' ⟨rfl, hx3⟩)
            (go_wp2_with fail; (with_reducible refine (wakes04_calls _).mono ?_); rintro e w' ⟨rfl, hx4⟩)
            go_wp2
            go_ret
            exact ⟨rfl, (by repeat' (first | (with_reducible exact Ext.refl _) | (with_reducible assumption) | (with_reducible refine Ext.alloc ?_ _) | (with_reducible refine Ext.drew ?_) | (with_reducible refine Ext.drewN ?_ _) | (with_reducible refine Ext.setCell ?_ (by first | exact Nat.le_refl _ | (simp; done) | (simp; omega) | omega) _) | (with_reducible refine Ext.trans ?_ (by assumption))))⟩
          · rw [if_neg c1] at H2
            clear c1
            (go_wp2_with fail; (with_reducible refine (H1 _).mono ?_); rintro e w' ⟨rfl, hx1⟩)
            have z0 := hx1.cell z0
            (go_wp2_with fail; (with_reducible refine (H2 _).mono ?_); rintro e w' ⟨rfl, hx2⟩)
            (go_wp2_with fail; (with_reducible refine (wakes04_calls _).mono ?_); rintro e w' ⟨rfl, hx4⟩)
            go_wp2
            go_ret
            exact ⟨rfl, (by repeat' (first | (with_reducible exact Ext.refl _) | (with_reducible assumption) | (with_reducible refine Ext.alloc ?_ _) | (with_reducible refine Ext.drew ?_) | (with_reducible refine Ext.drewN ?_ _) | (with_reducible refine Ext.setCell ?_ (by first | exact Nat.le_refl _ | (simp; done) | (simp; omega) | omega) _) | (with_reducible refine Ext.trans ?_ (by assumption))))⟩
        · obtain ⟨k, rfl⟩ : ∃ m, k = m + 1 := ⟨k - 1, by omega⟩
          obtain ⟨a, b, r, e1, e2, e3⟩ := stepL_at (l := iterL j (consts (29 + q))) (n := k) (by omega)
          rw [e1] at f2
          obtain ⟨ta, xa, ea⟩ := Ob.form_if (f2 a (by simp)).2
          obtain ⟨tb, xb, eb⟩ := Ob.form_if (f2 b (by simp)).2
          have hD := hO.drop2 (by omega)
          obtain ⟨hl0, g2, off2, C4, cur2, e4, g3, g4, g5, g6, g7, g8⟩ := hO
          injection e4 with e4 e5 e6
          injection e4 with e4
          injection e4 with e4 e7
          subst e4 e6 e7
          obtain ⟨z, zf, zl⟩ := obj_cells g4
          have z0 := z off1 _ (by have := g8 0 a.val (by rw [e1]; rfl); simpa using this)
          have z1 := z (off1 + 1) _ (by have := g8 1 b.val (by rw [e1]; rfl); simpa using this)
          rw [ea] at z0
          rw [eb] at z1
          have hsl : ∀ W : World, (Instr.slice 50 (.slice (some ⟨g1, off1, none⟩) (k + 1 + 1) C3) (some (.int .i64 2)) none none).run Try.prog W = .ok (.slice (if C3 = 2 then some ⟨g1, off1, none⟩ else (some (⟨g1, off1, none⟩ : Addr)).map (·.add (2 * 1))) k (C3 - 2)) W := fun W => run_slice_from elemOb (some ⟨g1, off1, none⟩) (k + 1 + 1) C3 2 (by omega) g5 W
          have hdrop : (obVals (iterL j (consts (29 + q)))).drop 2 = obVals r := by rw [e1]; rfl
          rw [hdrop, show k + 1 + 1 - 2 = k by omega] at hD
          have hit := Lib.hid (show obVals (iterL (j + 1) (consts (29 + q))) = obVals r ++ [.iface 55 (.agg #[a.val, b.val])] by simp only [iterL]; rw [e3]; simp [obVals, Ob.val])
          rw [ea, eb] at hit
          generalize (if C3 = 2 then some (⟨g1, off1, none⟩ : Addr) else (some (⟨g1, off1, none⟩ : Addr)).map (·.add (2 * 1))) = A' at *
          have hD0 := Lib.hid hD
          have hE1 := Lib.hid hE
          have hk0 : (1 : Int) < (k : Int) + 1 + 1 := by omega
          have hk1 : (0 : Int) < (k : Int) + 1 + 1 := by omega
          have hC2 : 2 ≤ C3 := by omega
          clear f1 f2 z g4 g8 e1 e2 e3 hdrop ea eb
          have h63 : k + 1 ≤ maxLen := by unfold maxLen; omega
          have hby : (k + 1) * 16 ≤ 140737488355328 := by omega
          go_wp2_with fail
          go_region_law (refine step_app_off elemOb (by rfl) _ _ (by rfl) w.heap.size (.slice A' k (C3 - 2)) k (obVals r) (by rfl) (by exact OffRow.ext hD0.out ((by repeat' (first | (with_reducible exact Ext.refl _) | (with_reducible assumption) | (with_reducible refine Ext.alloc ?_ _) | (with_reducible refine Ext.drew ?_) | (with_reducible refine Ext.drewN ?_ _) | (with_reducible refine Ext.setCell ?_ (by first | exact Nat.le_refl _ | (simp; done) | (simp; omega) | omega) _) | (with_reducible refine Ext.trans ?_ (by assumption)))))) ⟨wr.heap.size, 0, none⟩ 1 (.iface 55 (.agg #[.iface ta xa, .iface tb xb])) (by rfl) (by simp [go_sem]) (by simp [Value.oneCell']) h63 hby (by have := hE1.out.le; simp; omega) ?_; intro g' off' C' w1 hoff1 hg1)
          all_goals
            have hE2 := Lib.hid ((show Ext w _ from ((hE1.out.alloc _).drew)).grown hg1 (fun k' hk' => by
              obtain ⟨_, g9, off9, C9, cur9, e9, hg9, _⟩ := hD0.out
              rw [e9] at hk'
              simp only [Value.ownBlock] at hk'
              injection hk' with hk'
              omega))
            have hoff3 := Lib.hid hoff1
            clear hoff1 hg1
            go_simp
            go_wp2_with fail
            go_roundw
            case rel =>
              exact ⟨j + 1, k, g', off', C', by omega, rfl, by rw [hit.out]; exact hoff3.out, hE2.out⟩
            case measure => simp

theorem obsLimits_walk (n : Int) (wide : Bool) (w : World) (w0 : (Lit.int .i64 n).wf = true) :
    Calls Try.prog 7 #[.int .i64 n, .bool wide] w fun e w' => e = .returned (.bool true) ∧ Ext w w' := by
  cases wide with
  | false => exact obsLimits_no n w w0
  | true => exact obsLimits_yes n w w0

end Go.Proofs.Ytgjjngkmbplijaa
