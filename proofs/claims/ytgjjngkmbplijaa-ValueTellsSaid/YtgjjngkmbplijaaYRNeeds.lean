/- The document's answer: what a number needs (ref04.Needs), on its tree. -/
import Derived.Test.YtgjjngkmbplijaaYRVal
import Derived.Test.YtgjjngkmbplijaaYRef5
import Derived.Test.YtgjjngkmbplijaaZVa

namespace Go.Proofs.Ytgjjngkmbplijaa
open Go.RowKit
set_option linter.unusedSimpArgs false
set_option linter.unusedVariables false

set_option maxRecDepth 100000 in
set_option maxHeartbeats 1600000 in
theorem rneeds_calls (base p : Nat) (v1 v2 : Value) (F : FixL) (C : ChL) (d : Int) (o : Ob) (h : HT) (q : Nat → Prop) (w : World) (ht : h.tr = o.tr) (hin : h.In q w) (hn : o.nodes ≤ 2 ^ 28) (hc : o.checked = 0) (hl : F.length ≤ 2 ^ 33) (hW : RWld base w p v1 v2 F C) :
    Calls Try.prog 71 #[h.val, .int .i64 d, .pointer (some ⟨p, 0, none⟩)] w fun e w' => RetOwn w 9 1 (o.needs F d).length (strVals (o.needs F d)) e w' := by
  have H2 := fun w' (hE : Ext w w') => rNames_calls h q w' (hin.ext hE) (by rw [ht]; have := o.tr_every; omega)
  rw [ht, Ob.tr_names] at H2
  have HE := Lib.hid (show o.needs F d = notFixed F d o.names by unfold Ob.needs; rw [if_pos hc])
  have HL : o.names.length ≤ 2 ^ 32 := Nat.le_trans o.names_len (by omega)
  unfold HT.val at *
  generalize o.needs F d = q at *
  generalize o.names = N at *
  generalize h.kd = k0 at *
  generalize h.s = k1 at *
  generalize h.n = k2 at *
  generalize h.a = k3 at *
  generalize h.k.length = k4 at *
  generalize h.c = k5 at *
  clear ht hin hn hc
  have HW := Lib.hid hW
  clear hW
  go_enter Try.func71, Try.ntmps71
  (go_wp2_with fail; (with_reducible refine (H2 _ ((by repeat' (first | (with_reducible exact Ext.refl _) | (with_reducible assumption) | (with_reducible refine Ext.alloc ?_ _) | (with_reducible refine Ext.drew ?_) | (with_reducible refine Ext.drewN ?_ _) | (with_reducible refine Ext.setCell ?_ (by first | exact Nat.le_refl _ | (simp; done) | (simp; omega) | omega) _) | (with_reducible refine Ext.trans ?_ (by assumption)))))).mono ?_); rintro e w' ⟨nv, rfl, hno, hy⟩)
  obtain ⟨A, c2, rfl, hnc, hcm⟩ := own_form hno
  have hxy : Ext w w' := ((by repeat' (first | (with_reducible exact Ext.refl _) | (with_reducible assumption) | (with_reducible refine Ext.alloc ?_ _) | (with_reducible refine Ext.drew ?_) | (with_reducible refine Ext.drewN ?_ _) | (with_reducible refine Ext.setCell ?_ (by first | exact Nat.le_refl _ | (simp; done) | (simp; omega) | omega) _) | (with_reducible refine Ext.trans ?_ (by assumption)))))
  have hno0 := Lib.hid (own_mono (base' := w.heap.size) hno (by simp))
  unfold maxLen at hcm
  clear hno H2
  go_wp2_with fail
  go_loopw [15, 7] (fun i out wr => ∃ (j : Nat) (A1 : Option Addr) (C1 : Nat) (L : List ByteArray), j ≤ N.length ∧ i = .int .i64 j ∧ out = .slice A1 L.length C1 ∧ L = notFixed F d (N.take j) ∧ Ext w wr ∧
    wr.ownsRow w.heap.size 9 1 (.slice A1 L.length C1) L.length (strVals L) ∧ wr.ownsRow w.heap.size 9 1 (.slice A N.length c2) N.length (strVals N) ∧ ((Value.slice A N.length c2).ownBlock = none ∨ (Value.slice A N.length c2).ownBlock ≠ (Value.slice A1 L.length C1).ownBlock)) (fun i _ _ => N.length - (intOf i).toNat)
  case atStart => exact ⟨0, none, 0, [], by omega, rfl, rfl, rfl, hxy, World.ownsRow_nil _ _ _ _, hno0.out, by cases A with | none => exact .inl rfl | some a => exact .inr (by simp [Value.ownBlock])⟩
  case round =>
    obtain ⟨j, A1, C1, L, hj, rfl, rfl, hL, hE, hown, hno, hne⟩ := hrel
    by_cases hlt : j < N.length
    · obtain ⟨s, e1, hv⟩ := strVals_at hlt
      obtain ⟨ad2, u, rfl, hu, hc2⟩ := (Rd.of_own hno).at1 hlt
      obtain rfl : Value.string s = u := by rw [hv] at hu; injection hu
      have HF := rfixed_calls base wr p v1 v2 F C s d (HW.out.ext hE) hl
      have hj0 := Lib.hid (show j + 1 ≤ N.length from hlt)
      have hS := notFixed_take (F := F) (d := d) e1
      rw [← hL] at hS
      have hMl : L.length ≤ j := by rw [hL]; exact Nat.le_trans (notFixed_len _ _ _) (List.length_take_le _ _)
      have h63 : L.length + 1 ≤ maxLen := by unfold maxLen; omega
      have hby : (L.length + 1) * 16 ≤ 140737488355328 := by omega
      have hrel := Lib.hid (And.intro hE (And.intro hown (And.intro hno hne)))
      clear hv hu e1 hL hno hne hE hown
      cases hb : (F.lookup (s, d)).isSome with
      | true =>
        rw [hb, if_pos rfl, List.append_nil] at hS
        have hS := Lib.hid hS
        rw [hb] at HF
        (go_wp2_with fail; (with_reducible refine (HF).mono ?_); rintro e w' ⟨rfl, hx5⟩)
        have hx6 := Lib.hid hx5
        clear HF hx5
        go_wp2_with fail
        go_roundw
        case rel => exact ⟨j + 1, A1, C1, L, hj0.out, by go_num, rfl, hS.out.symm, hrel.out.1.trans hx6.out, hx6.out.own hrel.out.2.1, hx6.out.own hrel.out.2.2.1, hrel.out.2.2.2⟩
        case measure => simp [intOf]; omega
      | false =>
        rw [hb, if_neg (by decide)] at hS
        have hS := Lib.hid hS
        rw [hb] at HF
        (go_wp2_with fail; (with_reducible refine (HF).mono ?_); rintro e w' ⟨rfl, hx5⟩)
        have hx6 := Lib.hid hx5
        clear HF hx5
        have hown := hx6.out.own hrel.out.2.1
        have hle := (hrel.out.1.trans hx6.out).le
        go_wp2_with (at_builtin; refine wpList_app elemStr rfl _ _ rfl w.heap.size (.slice A1 L.length C1) L.length (strVals L) rfl (hown.alloc _) _ 1 1 [.string s] rfl (Rd.new _ #[.string s] _ 1 1 rfl) (by simp [Value.oneCell']) h63 hby (by simp; omega) ?_; intro v1 w1 hown1 hg1 hat1)
        have hno5 := hx6.out.own hrel.out.2.2.1
        have hno6 := Lib.hid ((hno5.alloc _).kept hg1 hrel.out.2.2.2)
        have hne6 := Lib.hid (own_ne (hno5.alloc _) hrel.out.2.2.2 hat1)
        have hE6 := Lib.hid (((hrel.out.1.trans hx6.out).alloc _).grown hg1 (fun k hk => (hown.lt k hk).1))
        obtain ⟨A6, C6, rfl, h6, h7⟩ := own_form hown1
        have e7 := Lib.hid (show (L ++ [s]).length = L.length + 1 by simp)
        have hown6 := Lib.hid hown1
        clear hown1 hg1 hat1 h63 hby hown hno5
        go_wp2_with fail
        go_roundw
        case rel => exact ⟨j + 1, A6, C6, L ++ [s], hj0.out, by go_num, by rw [e7.out], hS.out.symm, hE6.out, by rw [e7.out, strVals_app]; exact hown6.out, hno6.out, by rw [e7.out]; exact hne6.out⟩
        case measure => simp [intOf]; omega
    · obtain rfl : j = N.length := by omega
      rw [List.take_length, ← HE.out] at hL
      subst hL
      clear hno hne
      go_wp2
      apply bodyPost_ret
      · exact results_tmp rfl _ _ _
      · rfl
      exact ⟨_, rfl, hown, hE⟩

end Go.Proofs.Ytgjjngkmbplijaa
