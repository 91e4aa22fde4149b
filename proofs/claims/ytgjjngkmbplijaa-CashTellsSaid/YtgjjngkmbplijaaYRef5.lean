/- The document's trees in memory: their names (ref04.names, Names). Printed by wip/src/mkref5.py. -/
import Derived.Test.YtgjjngkmbplijaaZRf

namespace Go.Proofs.Ytgjjngkmbplijaa
open Go.RowKit
set_option linter.unusedSimpArgs false
set_option linter.unusedVariables false

theorem HT.names_eq (h : HT) : h.tr.allNames = if h.kd = 12 then [h.s] else Tr.allNamesL (h.k.map HT.tr) := by
  rw [HT.tr_eq, Tr.allNames]
theorem namesL_at {l : List Tr} {i : Nat} {x : Tr} (h : l[i]? = some x) : x.allNames.length ≤ (Tr.allNamesL l).length := by
  induction l generalizing i with
  | nil => simp at h
  | cons y r ih =>
    cases i with
    | zero => simp at h; subst h; simp [Tr.allNamesL]
    | succ i => have := ih (by simpa using h); simp only [Tr.allNamesL, List.length_append]; omega
theorem namesL_take_len (l : List Tr) (i : Nat) : (Tr.allNamesL (l.take i)).length ≤ (Tr.allNamesL l).length := by
  induction l generalizing i with
  | nil => simp
  | cons x r ih =>
    cases i with
    | zero => simp [Tr.allNamesL]
    | succ i => have := ih i; simp only [List.take_succ_cons, Tr.allNamesL, List.length_append]; omega
mutual
/-- How many trees there are, of whatever kind. -/
def Tr.everyLen : Tr → Nat | .mk _ _ _ k => 1 + Tr.everyLenL k
def Tr.everyLenL : List Tr → Nat | [] => 0 | x :: r => x.everyLen + Tr.everyLenL r
end
mutual
theorem Tr.names_le : (t : Tr) → t.allNames.length ≤ t.everyLen
  | .mk kd s n k => by
    rw [Tr.allNames, Tr.everyLen]
    have := Tr.namesL_le k
    split
    · simp
    · omega
theorem Tr.namesL_le : (l : List Tr) → (Tr.allNamesL l).length ≤ Tr.everyLenL l
  | [] => Nat.le_refl _
  | x :: r => by
    rw [Tr.allNamesL, Tr.everyLenL, List.length_append]
    have h1 := Tr.names_le x
    have h2 := Tr.namesL_le r
    omega
end
theorem everyL_at {l : List Tr} {i : Nat} {x : Tr} (h : l[i]? = some x) : x.everyLen ≤ Tr.everyLenL l := by
  induction l generalizing i with
  | nil => simp at h
  | cons y r ih =>
    cases i with
    | zero => simp at h; subst h; simp [Tr.everyLenL]
    | succ i => have := ih (by simpa using h); simp only [Tr.everyLenL]; omega
theorem HT.every_k {h x : HT} {i : Nat} (hx : h.k[i]? = some x) : x.tr.everyLen ≤ h.tr.everyLen := by
  have e : h.tr.everyLen = 1 + Tr.everyLenL (h.k.map HT.tr) := by rw [HT.tr_eq, Tr.everyLen]
  have := everyL_at (l := h.k.map HT.tr) (i := i) (x := x.tr) (by rw [List.getElem?_map, hx]; rfl)
  omega
theorem HT.every_le {h : HT} {n : Nat} (hn : h.tr.everyLen ≤ n) : (Tr.allNamesL (h.k.map HT.tr)).length ≤ n := by
  have e : h.tr.everyLen = 1 + Tr.everyLenL (h.k.map HT.tr) := by rw [HT.tr_eq, Tr.everyLen]
  have := Tr.namesL_le (h.k.map HT.tr)
  omega
theorem Ob.tr_every (o : Ob) : o.tr.everyLen ≤ 2 * o.nodes + 1 := by
  induction o <;> simp [Ob.tr, Tr.everyLen, Tr.everyLenL, Ob.nodes, *] <;> omega
theorem Te.tr_every (t : Te) : t.tr.everyLen ≤ 3 * t.nodes + 1 := by
  induction t <;> simp [Te.tr, Tr.everyLen, Tr.everyLenL, Te.nodes] <;> (try have := Ob.tr_every ‹Ob›) <;> omega

theorem addNew_any (L : List ByteArray) (s : ByteArray) : addNew L s = if (L.any fun x => x == s) = true then L else L ++ [s] := by
  have e : (fun x => s == x) = (fun x : ByteArray => x == s) := by
    funext x
    rw [Bool.eq_iff_iff, beq_iff_eq, beq_iff_eq]
    exact eq_comm
  unfold addNew
  rw [e]
theorem own_cap {w : World} {base size n C : Nat} {e : TypeId} {A : Option Addr} {xs : List Value} (h : w.ownsRow base e size (.slice A n C) n xs) : n ≤ C ∧ C ≤ maxLen := by
  obtain ⟨A0, C0, e0, h1, h2⟩ := own_form h
  injection e0 with _ _ e0
  subst e0
  exact ⟨h1, h2⟩
set_option maxRecDepth 100000 in
set_option maxHeartbeats 3200000 in
theorem rnames_calls (k : Nat) : ∀ (h : HT) (q : Nat → Prop) (w : World), SizeOf.sizeOf h < k → h.In q w → h.tr.everyLen ≤ 2 ^ 33 → Calls Try.prog 108 #[h.val] w fun e w' => RetOwn w 9 1 h.tr.allNames.length (strVals h.tr.allNames) e w' := by
  induction k with
  | zero => intro h q w hk; omega
  | succ k ih =>
    intro h q w hk hin hn
    have hall := h.every_le hn
    have hN := h.names_eq
    have hcap := hin.cap
    have hAt := fun (i : Nat) (hi : i < h.k.length) => hin.at hi
    have hLl : (Tr.allNamesL (h.k.map HT.tr)).length ≤ 2 ^ 33 := hall
    have HR := fun (x : HT) (i : Nat) (hx : h.k[i]? = some x) (W : World) (hxi : x.In q W) => ih x q W (by have := HT.size_k hx; omega) hxi (Nat.le_trans (h.every_k hx) hn)
    have hLt := Lib.hid (fun i => Nat.le_trans (namesL_take_len (h.k.map HT.tr) i) hLl)
    have hc1 := hcap.1
    have hc2 := hcap.2
    unfold maxLen at hc2
    unfold HT.val at *
    clear ih hk hin hn hcap hLl hall
    generalize h.kd = kd at *
    generalize h.s = ss at *
    generalize h.n = hn at *
    generalize h.a = ha at *
    generalize h.c = hc at *
    generalize h.tr.allNames = R at *
    generalize h.k = K at *
    have hN0 := hN
    clear hN
    have hX : Ext w (w.alloc (.cells #[.int .i64 kd, .string ss, .int .i64 hn, .slice ha K.length hc] 76)) := (Ext.refl w).alloc _
    have b0 : (w.alloc (.cells #[.int .i64 kd, .string ss, .int .i64 hn, .slice ha K.length hc] 76)).cell? ⟨w.heap.size, 0, none⟩ = some (.int .i64 kd) := by rw [World.cell?_alloc_new]; rfl
    have b1 : (w.alloc (.cells #[.int .i64 kd, .string ss, .int .i64 hn, .slice ha K.length hc] 76)).cell? ⟨w.heap.size, 1, none⟩ = some (.string ss) := by rw [World.cell?_alloc_new]; rfl
    have b3 : (w.alloc (.cells #[.int .i64 kd, .string ss, .int .i64 hn, .slice ha K.length hc] 76)).cell? ⟨w.heap.size, 3, none⟩ = some (.slice ha K.length hc) := by rw [World.cell?_alloc_new]; rfl
    have hsz : (w.alloc (.cells #[.int .i64 kd, .string ss, .int .i64 hn, .slice ha K.length hc] 76)).heap.size = w.heap.size + 1 := by simp
    by_cases h12 : kd = 12
    · subst h12
      rw [if_pos rfl] at hN0
      subst hN0
      clear HR hAt hc1 hsz
      go_enter Try.func108, Try.ntmps108
      go_wp2
      refine bodyPost_ret (w := _) (a := _) (R := _) (results_tmp rfl _ _ _) rfl ?_
      exact ⟨_, rfl, own_new (by simp) rfl (by simp +arith) rfl, (by repeat' (first | (with_reducible exact Ext.refl _) | (with_reducible assumption) | (with_reducible refine Ext.alloc ?_ _) | (with_reducible refine Ext.drew ?_) | (with_reducible refine Ext.drewN ?_ _) | (with_reducible refine Ext.setCell ?_ (by first | exact Nat.le_refl _ | (simp; done) | (simp; omega) | omega) _) | (with_reducible refine Ext.trans ?_ (by assumption))))⟩
    have h12' : (kd == 12) = false := beq_eq_false_iff_ne.2 h12
    rw [if_neg h12] at hN0
    have hN := Lib.hid hN0
    have HZ := Lib.hid hsz
    clear hN0 hsz h12 b1
    go_enter Try.func108, Try.ntmps108
    go_upto_region 4 with fail
    generalize (w.alloc (.cells #[.int .i64 kd, .string ss, .int .i64 hn, .slice ha K.length hc] 76)) = X at *
    clear b0
    go_wp2_with fail
    go_loopw [14, 3] (fun i out wr => ∃ (j : Nat) (A1 : Option Addr) (C1 : Nat) (L : List ByteArray), j ≤ K.length ∧ i = .int .i64 j ∧ out = .slice A1 L.length C1 ∧ L = Tr.allNamesL ((K.take j).map HT.tr) ∧ wr.ownsRow (w.heap.size + 1) 9 1 (.slice A1 L.length C1) L.length (strVals L) ∧ Ext X wr) (fun i _ _ => K.length - (intOf i).toNat)
    case atStart => exact ⟨0, none, 0, [], by omega, rfl, rfl, by simp [Tr.allNamesL], World.ownsRow_nil _ _ _ _, Ext.refl _⟩
    case round =>
      obtain ⟨j, A1, C1, L, hj, rfl, rfl, hL, hown, hx⟩ := hrel
      by_cases hlt : j < K.length
      · obtain ⟨g, x, e1, hgq, e2, hxi, q0, q1, q2, q3⟩ := hAt j hlt
        subst e1
        have c3 := hx.cell b3
        replace q0 := (hX.trans hx).cell q0
        replace q1 := (hX.trans hx).cell q1
        replace q2 := (hX.trans hx).cell q2
        replace q3 := (hX.trans hx).cell q3
        have HRk := HR x j e2 wr (hxi.ext (hX.trans hx))
        have hb := hLt.out (j + 1)
        have hS : Tr.allNamesL ((K.take (j + 1)).map HT.tr) = L ++ x.tr.allNames := by rw [map_take_snoc e2, allNamesL_snoc, hL]
        have hb0 : L.length + x.tr.allNames.length ≤ 2 ^ 34 := by
          have h1 := congrArg List.length hS
          simp only [List.length_append] at h1
          rw [List.map_take] at h1
          omega
        have hS := Lib.hid hS
        have hj0 := Lib.hid (show j + 1 ≤ K.length from hlt)
        have hr1 := Lib.hid (And.intro hown hx)
        clear HR hAt e2 hxi hx hb hL hLt hgq hown
        generalize x.tr.allNames = N at *
        generalize x.kd = x0 at *
        generalize x.s = x1 at *
        generalize x.n = x2 at *
        generalize x.a = x3 at *
        generalize x.k.length = x4 at *
        generalize x.c = x5 at *
        (go_wp2_with fail; (with_reducible refine (HRk).mono ?_); rintro e w' ⟨nv, rfl, hno, hx4⟩)
        obtain ⟨A2, C2, rfl, hn1, hn2⟩ := own_form hno
        have hrd := Rd.of_own hno
        have hown := hx4.own hr1.out.1
        have hXw := hr1.out.2.trans hx4
        have hle : w.heap.size + 1 ≤ w'.heap.size := by have := hXw.le; have := HZ.out; omega
        have h63 : L.length + N.length ≤ maxLen := by unfold maxLen; omega
        have hby : (L.length + N.length) * 16 ≤ 140737488355328 := by omega
        clear hno HRk q0 q1 q2 q3
        go_wp2_with (at_builtin; refine wpList_app elemStr rfl _ _ rfl (w.heap.size + 1) (.slice A1 L.length C1) L.length (strVals L) rfl hown A2 N.length C2 (strVals N) rfl hrd (strVals_one N) h63 hby hle ?_; intro v1 w1 hown1 hg1 hat1)
        have hE6 := Lib.hid (hXw.grown hg1 (fun k hk => by have := (hown.lt k hk).1; have := HZ.out; omega))
        obtain ⟨A6, C6, rfl, h6, h7⟩ := own_form hown1
        have e7 := Lib.hid (show (L ++ N).length = L.length + N.length by simp)
        have hown6 := Lib.hid hown1
        clear hown1 hg1 hat1 h63 hby hown
        go_wp2_with fail
        go_roundw
        case rel => exact ⟨j + 1, A6, C6, L ++ N, hj0.out, by go_num, by rw [e7.out], hS.out.symm, by rw [e7.out, strVals_app]; exact hown6.out, hE6.out⟩
        case measure => simp [intOf]; omega
      · obtain rfl : j = K.length := by omega
        rw [List.take_length, ← hN.out] at hL
        subst hL
        have hr1 := Lib.hid (And.intro hown hx)
        clear HR hAt hown
        go_wp2
        apply bodyPost_ret
        · exact results_tmp rfl _ _ _
        · rfl
        exact ⟨_, rfl, own_mono hr1.out.1 (by omega), hX.trans hr1.out.2⟩

set_option maxRecDepth 100000 in
set_option maxHeartbeats 3200000 in
theorem rNames_calls (h : HT) (q : Nat → Prop) (w : World) (hin : h.In q w) (hn : h.tr.everyLen ≤ 2 ^ 30) : Calls Try.prog 59 #[h.val] w fun e w' => RetOwn w 9 1 h.tr.names.length (strVals h.tr.names) e w' := by
  have H := fun W (hW : Ext w W) => rnames_calls _ h q W (Nat.lt_succ_self _) (hin.ext hW) (by omega)
  have hal := Nat.le_trans (Tr.names_le h.tr) hn
  have hR := Lib.hid (show h.tr.names = addAll [] h.tr.allNames from rfl)
  generalize h.tr.names = R at *
  unfold HT.val at *
  clear hin hn
  generalize h.kd = kd at *
  generalize h.s = ss at *
  generalize h.n = hnn at *
  generalize h.a = ha at *
  generalize h.k.length = hk at *
  generalize h.c = hc at *
  generalize h.tr.allNames = N at *
  go_enter Try.func59, Try.ntmps59
  (go_wp2_with fail; (with_reducible refine (H _ ((by repeat' (first | (with_reducible exact Ext.refl _) | (with_reducible assumption) | (with_reducible refine Ext.alloc ?_ _) | (with_reducible refine Ext.drew ?_) | (with_reducible refine Ext.drewN ?_ _) | (with_reducible refine Ext.setCell ?_ (by first | exact Nat.le_refl _ | (simp; done) | (simp; omega) | omega) _) | (with_reducible refine Ext.trans ?_ (by assumption)))))).mono ?_); rintro e w' ⟨nv, rfl, hno, hx4⟩)
  obtain ⟨A, C, rfl, hn1, hn2⟩ := own_form hno
  unfold maxLen at hn2
  have hE := Lib.hid (show Ext w w' from (by repeat' (first | (with_reducible exact Ext.refl _) | (with_reducible assumption) | (with_reducible refine Ext.alloc ?_ _) | (with_reducible refine Ext.drew ?_) | (with_reducible refine Ext.drewN ?_ _) | (with_reducible refine Ext.setCell ?_ (by first | exact Nat.le_refl _ | (simp; done) | (simp; omega) | omega) _) | (with_reducible refine Ext.trans ?_ (by assumption)))))
  have hsz : w.heap.size + 1 ≤ w'.heap.size := by have := hx4.le; simpa using this
  have hnh := Lib.hid hno
  have hsz := Lib.hid hsz
  clear hno H hx4
  go_wp2_with fail
  go_loopw [11, 3] (fun i out wr => ∃ (j : Nat) (A1 : Option Addr) (C1 : Nat) (L : List ByteArray), j ≤ N.length ∧ i = .int .i64 j ∧ out = .slice A1 L.length C1 ∧ L = addAll [] (N.take j) ∧ wr.ownsRow w'.heap.size 9 1 (.slice A1 L.length C1) L.length (strVals L) ∧ Ext w' wr) (fun i _ _ => N.length - (intOf i).toNat)
  case atStart => exact ⟨0, none, 0, [], by omega, rfl, rfl, rfl, World.ownsRow_nil _ _ _ _, Ext.refl _⟩
  case round =>
    obtain ⟨j, A1, C1, L, hj, rfl, rfl, hL, hown, hx⟩ := hrel
    by_cases hlt : j < N.length
    · obtain ⟨s, e1, hv⟩ := strVals_at hlt
      obtain ⟨ad, u, rfl, hu, hc0⟩ := (Rd.of_own (hx.own hnh.out)).at1 hlt
      obtain rfl : Value.string s = u := by rw [hv] at hu; injection hu
      have hS := Lib.hid (show addAll [] (N.take (j + 1)) = addNew L s by rw [List.take_add_one, e1, addAll_append, ← hL]; rfl)
      have hLn : L.length ≤ j := by
        have h1 := addAll_len [] (N.take j)
        rw [← hL] at h1
        simp only [List.length_nil, List.length_take] at h1
        omega
      obtain ⟨hC1, hC2⟩ := own_cap hown
      unfold maxLen at hC2
      have hj0 := Lib.hid (show j + 1 ≤ N.length from hlt)
      have hji : (j : Int) < (N.length : Int) := by omega
      have hr0 := Lib.hid (And.intro hown hx)
      clear hv hu e1 hL hown hx
      go_wp2_with fail
      go_loopw [17, 6] (fun k b wq => ∃ m : Nat, m ≤ L.length ∧ k = .int .i64 m ∧ b = .bool ((L.take m).any fun x => x == s) ∧ wq = wr) (fun k _ _ => L.length - (intOf k).toNat)
      case atStart => exact ⟨0, by omega, rfl, rfl, rfl⟩
      case round =>
        obtain ⟨m, hm, rfl, rfl, rfl⟩ := hrel
        by_cases hlt2 : m < L.length
        · obtain ⟨x, f1, hv2⟩ := strVals_at hlt2
          obtain ⟨ad2, u2, rfl, hu2, hc2⟩ := (Rd.of_own hr0.out.1).at1 hlt2
          obtain rfl : Value.string x = u2 := by rw [hv2] at hu2; injection hu2
          have hs := any_take_succ (p := fun x => x == s) f1
          have hm0 := Lib.hid (show m + 1 ≤ L.length from hlt2)
          have hmi : (m : Int) < (L.length : Int) := by omega
          cases hb : (L.take m).any fun x => x == s with
          | true =>
            rw [hb] at hs
            have hs := Lib.hid hs
            clear hv2 hu2 f1 hb
            go_wp2_with fail
            go_roundw
            case rel => exact ⟨m + 1, hm0.out, by go_num, by rw [hs.out]; rfl, by first | rfl | trivial⟩
            case measure => simp [intOf]; omega
          | false =>
            rw [hb] at hs
            rw [← bytes_beq] at hs
            have hs := Lib.hid hs
            clear hv2 hu2 f1 hb
            go_wp2_with fail
            go_roundw
            case rel => exact ⟨m + 1, hm0.out, by go_num, by rw [hs.out]; rfl, by first | rfl | trivial⟩
            case measure => simp [intOf]; omega
        · obtain rfl : m = L.length := by omega
          rw [List.take_length]
          have hadd := addNew_any L s
          cases hb : L.any fun x => x == s with
          | true =>
            rw [hb] at hadd
            have hadd := Lib.hid hadd
            clear hb
            go_wp2_with fail
            go_roundw
            case rel => exact ⟨j + 1, A1, C1, L, hj0.out, by go_num, rfl, by rw [hS.out, hadd.out]; rfl, hr0.out⟩
            case measure => simp [intOf]; omega
          | false =>
            rw [hb] at hadd
            have hadd := Lib.hid hadd
            have hown := hr0.out.1
            have hle := hr0.out.2.le
            have h63 : L.length + 1 ≤ maxLen := by unfold maxLen; omega
            have hby : (L.length + 1) * 16 ≤ 140737488355328 := by omega
            clear hb
            go_wp2_with (at_builtin; refine wpList_app elemStr rfl _ _ rfl w'.heap.size (.slice A1 L.length C1) L.length (strVals L) rfl (hown.alloc _) _ 1 1 [.string s] rfl (Rd.new _ #[.string s] _ 1 1 rfl) (by simp [Value.oneCell']) h63 hby (by simp; omega) ?_; intro v1 w1 hown1 hg1 hat1)
            have hE6 := Lib.hid ((hr0.out.2.alloc _).grown hg1 (fun k hk => (hown.lt k hk).1))
            obtain ⟨A6, C6, rfl, h6, h7⟩ := own_form hown1
            have e7 := Lib.hid (show (L ++ [s]).length = L.length + 1 by simp)
            have hown6 := Lib.hid hown1
            clear hown1 hg1 hat1 h63 hby hown hle
            go_wp2_with fail
            go_roundw
            case rel => exact ⟨j + 1, A6, C6, L ++ [s], hj0.out, by go_num, by rw [e7.out], by rw [hS.out, hadd.out]; rfl, by rw [e7.out, strVals_app]; exact hown6.out, hE6.out⟩
            case measure => simp [intOf]; omega
    · obtain rfl : j = N.length := by omega
      rw [List.take_length, ← hR.out] at hL
      subst hL
      have hr0 := Lib.hid (And.intro hown hx)
      clear hown hx
      go_wp2
      apply bodyPost_ret
      · exact results_tmp rfl _ _ _
      · rfl
      exact ⟨_, rfl, own_mono hr0.out.1 (by have := hsz.out; omega), hE.out.trans hr0.out.2⟩

end Go.Proofs.Ytgjjngkmbplijaa
