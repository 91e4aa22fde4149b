/- Package value: Of, Needs; the law's 'wakes'. -/
import Derived.Test.YtgjjngkmbplijaaValue2
namespace Go.Proofs.Ytgjjngkmbplijaa
open Go.RowKit
set_option linter.unusedSimpArgs false
set_option linter.unusedVariables false

/-- What a number is, if it may be. -/
def Ob.ofV (F : FixL) (d : Int) (o : Ob) : Kn := if o.checked = 0 then o.value F d else ⟨0, false, 2⟩
theorem Ob.checked_form {o : Ob} (h : o.checked = 0) : o.formed = true := by
  unfold Ob.checked at h
  cases hf : o.formed with
  | true => rfl
  | false => rw [hf] at h; simp at h
def RetKn3 (w : World) (k : Kn) (e : Ending) (w' : World) : Prop := e = .returned (.tuple #[.int .i64 k.n, .bool k.is, .int .i64 k.e]) ∧ Ext w w'

set_option maxRecDepth 100000 in
set_option maxHeartbeats 800000 in
theorem vOf_calls (p f c : Nat) (F : FixL) (C : ChL) (d : Int) (o : Ob) (w : World) (hwf : o.wf) (hn : o.nodes < 2 ^ 62) (hW : Wld w p f c F C) :
    Calls Try.prog 62 #[o.val, .int .i64 d, .pointer (some ⟨p, 0, none⟩)] w fun e w' => RetKn3 w (o.ofV F d) e w' := by
  have H1 := ocheck_calls o w hwf hn
  by_cases h : o.checked = 0
  · have H2 := fun w' (h' : Ext w w') => of_calls _ p f c F C d o w' (Nat.lt_succ_self _) hwf (Ob.checked_form h) (hW.ext h')
    have HE := Lib.hid (show o.ofV F d = o.value F d by unfold Ob.ofV; rw [if_pos h])
    rw [h] at H1
    generalize o.ofV F d = q at *
    generalize o.value F d = q2 at *
    generalize o.val = v at *
    clear h hwf hn hW
    go_enter Try.func62, Try.ntmps62
    (go_wp2_with fail; (with_reducible refine (H1).mono ?_); rintro e w' ⟨rfl, hx⟩)
    (go_wp2_with fail; (with_reducible refine (H2 _ ((by repeat' (first | (with_reducible exact Ext.refl _) | (with_reducible assumption) | (with_reducible refine Ext.alloc ?_ _) | (with_reducible refine Ext.drew ?_) | (with_reducible refine Ext.drewN ?_ _) | (with_reducible refine Ext.setCell ?_ (by first | exact Nat.le_refl _ | (simp; done) | (simp; omega) | omega) _) | (with_reducible refine Ext.trans ?_ (by assumption)))))).mono ?_); rintro e w' ⟨rfl, hy⟩)
    go_wp2_with fail
    go_quiet (fail)
    go_wp2
    go_ret3
    exact ⟨by rw [HE.out]; rfl, (by repeat' (first | (with_reducible exact Ext.refl _) | (with_reducible assumption) | (with_reducible refine Ext.alloc ?_ _) | (with_reducible refine Ext.drew ?_) | (with_reducible refine Ext.drewN ?_ _) | (with_reducible refine Ext.setCell ?_ (by first | exact Nat.le_refl _ | (simp; done) | (simp; omega) | omega) _) | (with_reducible refine Ext.trans ?_ (by assumption))))⟩
  · have HE := Lib.hid (show o.ofV F d = ⟨0, false, 2⟩ by unfold Ob.ofV; rw [if_neg h])
    have hne : (o.checked != 0) = true := by simpa using h
    generalize o.ofV F d = q at *
    generalize o.val = v at *
    generalize o.checked = ck at *
    clear h hwf hn hW
    go_enter Try.func62, Try.ntmps62
    (go_wp2_with fail; (with_reducible refine (H1).mono ?_); rintro e w' ⟨rfl, hx⟩)
    go_wp2
    go_ret3
    exact ⟨by rw [HE.out]; rfl, (by repeat' (first | (with_reducible exact Ext.refl _) | (with_reducible assumption) | (with_reducible refine Ext.alloc ?_ _) | (with_reducible refine Ext.drew ?_) | (with_reducible refine Ext.drewN ?_ _) | (with_reducible refine Ext.setCell ?_ (by first | exact Nat.le_refl _ | (simp; done) | (simp; omega) | omega) _) | (with_reducible refine Ext.trans ?_ (by assumption))))⟩

/-- The names that are not fixed. -/
def notFixed (F : FixL) (d : Int) (l : List ByteArray) : List ByteArray := l.filter fun s => !(F.lookup (s, d)).isSome
def Ob.needs (F : FixL) (d : Int) (o : Ob) : List ByteArray := if o.checked = 0 then notFixed F d o.names else []
theorem notFixed_take {F : FixL} {d : Int} {l : List ByteArray} {j : Nat} {s : ByteArray} (h : l[j]? = some s) : notFixed F d (l.take (j + 1)) = notFixed F d (l.take j) ++ (if (F.lookup (s, d)).isSome = true then [] else [s]) := by
  unfold notFixed
  rw [List.take_add_one, h, List.filter_append]
  cases hq : (F.lookup (s, d)).isSome <;> simp only [Option.toList, List.filter_cons, List.filter_nil, hq] <;> rfl
theorem notFixed_len (F : FixL) (d : Int) (l : List ByteArray) : (notFixed F d l).length ≤ l.length := List.length_filter_le _ _

set_option maxRecDepth 100000 in
set_option maxHeartbeats 800000 in
theorem vneeds_calls (p f c : Nat) (F : FixL) (C : ChL) (d : Int) (o : Ob) (w : World) (hwf : o.wf) (hn : o.nodes ≤ 2 ^ 32) (hW : Wld w p f c F C) :
    Calls Try.prog 68 #[o.val, .int .i64 d, .pointer (some ⟨p, 0, none⟩)] w fun e w' => RetOwn w 9 1 (o.needs F d).length (strVals (o.needs F d)) e w' := by
  have H1 := ocheck_calls o w hwf (by omega)
  by_cases h : o.checked = 0
  · have H2 := fun w' => onames_calls _ o w' (Nat.lt_succ_self _) hwf hn
    have HE := Lib.hid (show o.needs F d = notFixed F d o.names by unfold Ob.needs; rw [if_pos h])
    have HL : o.names.length ≤ 2 ^ 32 := Nat.le_trans o.names_len hn
    rw [h] at H1
    generalize o.needs F d = q at *
    generalize o.names = N at *
    generalize o.val = v at *
    clear h hwf hn
    have HW := Lib.hid hW
    clear hW
    go_enter Try.func68, Try.ntmps68
    (go_wp2_with fail; (with_reducible refine (H1).mono ?_); rintro e w' ⟨rfl, hx⟩)
    (go_wp2_with fail; (with_reducible refine (H2 _).mono ?_); rintro e w' ⟨nv, rfl, hno, hy⟩)
    obtain ⟨A, c2, rfl, hnc, hcm⟩ := own_form hno
    have hno0 := Lib.hid (own_mono hno hx.le)
    have hxy := hx.trans hy
    unfold maxLen at hcm
    clear hno H1 H2
    go_wp2_with fail
    go_loopw [18, 7] (fun i out wr => ∃ (j : Nat) (A1 : Option Addr) (C1 : Nat) (L : List ByteArray), j ≤ N.length ∧ i = .int .i64 j ∧ out = .slice A1 L.length C1 ∧ L = notFixed F d (N.take j) ∧ Ext w wr ∧
      wr.ownsRow w.heap.size 9 1 (.slice A1 L.length C1) L.length (strVals L) ∧ wr.ownsRow w.heap.size 9 1 (.slice A N.length c2) N.length (strVals N) ∧ ((Value.slice A N.length c2).ownBlock = none ∨ (Value.slice A N.length c2).ownBlock ≠ (Value.slice A1 L.length C1).ownBlock)) (fun i _ _ => N.length - (intOf i).toNat)
    case atStart => exact ⟨0, none, 0, [], by omega, rfl, rfl, rfl, hxy, World.ownsRow_nil _ _ _ _, hno0.out, by cases A with | none => exact .inl rfl | some a => exact .inr (by simp [Value.ownBlock])⟩
    case round =>
      obtain ⟨j, A1, C1, L, hj, rfl, rfl, hL, hE, hown, hno, hne⟩ := hrel
      by_cases hlt : j < N.length
      · obtain ⟨s, e1, hv⟩ := strVals_at hlt
        obtain ⟨ad2, u, rfl, hu, hc2⟩ := (Rd.of_own hno).at1 hlt
        obtain rfl : Value.string s = u := by rw [hv] at hu; injection hu
        have HF := fixed_calls p f c F C s d wr (HW.out.ext hE)
        have hj0 := Lib.hid (show j + 1 ≤ N.length from hlt)
        have hS := notFixed_take (F := F) (d := d) e1
        rw [← hL] at hS
        have hMl : L.length ≤ j := by rw [hL]; exact Nat.le_trans (notFixed_len _ _ _) (List.length_take_le _ _)
        have h63 : L.length + 1 ≤ maxLen := by unfold maxLen; omega
        have hby : (L.length + 1) * 16 ≤ 140737488355328 := by omega
        have hrel := Lib.hid (And.intro hE (And.intro hown (And.intro hno hne)))
        clear hv hu e1 hL hno hne hE
        cases hb : (F.lookup (s, d)).isSome with
        | true =>
          rw [hb, if_pos rfl, List.append_nil] at hS
          have hS := Lib.hid hS
          rw [hb] at HF
          clear hown
          (go_wp2_with fail; (with_reducible refine (HF).mono ?_); rintro e w' ⟨rfl, rfl⟩)
          go_wp2_with fail
          go_roundw
          case rel => exact ⟨j + 1, A1, C1, L, hj0.out, by go_num, rfl, hS.out.symm, hrel.out⟩
          case measure => simp [intOf]; omega
        | false =>
          rw [hb, if_neg (by decide)] at hS
          have hS := Lib.hid hS
          rw [hb] at HF
          (go_wp2_with fail; (with_reducible refine (HF).mono ?_); rintro e w' ⟨rfl, rfl⟩)
          go_wp2_with (at_builtin; refine wpList_app elemStr rfl _ _ rfl w.heap.size (.slice A1 L.length C1) L.length (strVals L) rfl (hown.alloc _) _ 1 1 [.string s] rfl (Rd.new _ #[.string s] _ 1 1 rfl) (by simp [Value.oneCell']) h63 hby (by have := hrel.out.1.le; simp; omega) ?_; intro v1 w1 hown1 hg1 hat1)
          have hno6 := Lib.hid ((hrel.out.2.2.1.alloc _).kept hg1 hrel.out.2.2.2)
          have hne6 := Lib.hid (own_ne (hrel.out.2.2.1.alloc _) hrel.out.2.2.2 hat1)
          have hE6 := Lib.hid ((hrel.out.1.alloc _).grown hg1 (fun k hk => (hown.lt k hk).1))
          obtain ⟨A6, C6, rfl, h6, h7⟩ := own_form hown1
          have e7 := Lib.hid (show (L ++ [s]).length = L.length + 1 by simp)
          have hown6 := Lib.hid hown1
          clear hown1 hg1 hat1 h63 hby hown
          go_wp2_with fail
          go_roundw
          case rel => exact ⟨j + 1, A6, C6, L ++ [s], hj0.out, by go_num, by rw [e7.out], hS.out.symm, hE6.out, by rw [e7.out, strVals_app]; exact hown6.out, hno6.out, by rw [e7.out]; exact hne6.out⟩
          case measure => simp [intOf]; omega
      · obtain rfl : j = N.length := by omega
        rw [List.take_length, ← HE.out] at hL
        subst hL
        clear hno hne
        go_wp2
        apply bodyPost_ret
        · exact results_tmp rfl _ _ _
        · rfl
        exact ⟨_, rfl, hown, hE⟩
  · have HE := Lib.hid (show o.needs F d = [] by unfold Ob.needs; rw [if_neg h])
    have hne : (o.checked != 0) = true := by simpa using h
    rw [HE.out]
    generalize o.val = v at *
    generalize o.checked = ck at *
    clear h hwf hn hW HE
    go_enter Try.func68, Try.ntmps68
    (go_wp2_with fail; (with_reducible refine (H1).mono ?_); rintro e w' ⟨rfl, hx⟩)
    go_wp2
    apply bodyPost_ret
    · exact results_tmp rfl _ _ _
    · rfl
    exact ⟨_, rfl, World.ownsRow_nil _ _ _ _, (by repeat' (first | (with_reducible exact Ext.refl _) | (with_reducible assumption) | (with_reducible refine Ext.alloc ?_ _) | (with_reducible refine Ext.drew ?_) | (with_reducible refine Ext.drewN ?_ _) | (with_reducible refine Ext.setCell ?_ (by first | exact Nat.le_refl _ | (simp; done) | (simp; omega) | omega) _) | (with_reducible refine Ext.trans ?_ (by assumption))))⟩

set_option maxRecDepth 100000 in
set_option maxHeartbeats 400000 in
theorem wakes09_calls (w : World) : Calls Try.prog 63 #[] w fun e w' => e = .returned (.bool true) ∧ Ext w w' := by
  have H := fun p f c w' hW => vOf_calls p f c [] [] 0 (.const 7) w' ⟨by omega, by omega⟩ (by decide) hW
  rw [show Ob.ofV [] 0 (.const 7) = ⟨7, true, 0⟩ by rfl] at H
  simp only [Ob.val] at H
  go_enter Try.func63, Try.ntmps63
  (go_wp2_with fail; (with_reducible refine (new_calls _).mono ?_); rintro e w' ⟨p, f, c, rfl, hW, hx, h1, h2, h3⟩)
  (go_wp2_with fail; (with_reducible refine (H p f c _ hW).mono ?_); rintro e w' ⟨rfl, hy⟩)
  go_wp2
  go_ret
  exact ⟨rfl, (by repeat' (first | (with_reducible exact Ext.refl _) | (with_reducible assumption) | (with_reducible refine Ext.alloc ?_ _) | (with_reducible refine Ext.drew ?_) | (with_reducible refine Ext.drewN ?_ _) | (with_reducible refine Ext.setCell ?_ (by first | exact Nat.le_refl _ | (simp; done) | (simp; omega) | omega) _) | (with_reducible refine Ext.trans ?_ (by assumption))))⟩

end Go.Proofs.Ytgjjngkmbplijaa
