/- The document's world (ref04.World): Fix, Choose. -/
import Derived.Test.YtgjjngkmbplijaaRW2
namespace Go.Proofs.Ytgjjngkmbplijaa
open Go.RowKit
set_option linter.unusedSimpArgs false
set_option linter.unusedVariables false

section
variable {base : Nat} {w w1 : World} {p : Nat} {F : FixL} {C : ChL} {v1 v2 : Value}
theorem RWld.grown1 (h : RWld base w p v1 v2 F C) (hg : w.grownBy w1 v1.ownBlock) : w1.cell? ⟨p, 0, none⟩ = some v1 ∧ ∀ o, w1.frozen? ⟨p, o, none⟩ = false := by
  have hb1 : w1.heap[p]? = some (.cells #[v1, v2] 44 (0, 0)) := by rw [hg.block p h.lt (fun e => h.n1 e.symm)]; exact h.blk
  obtain ⟨h1, h2, _⟩ := obj_cells hb1
  exact ⟨h1 0 _ rfl, h2⟩
theorem RWld.grown2 (h : RWld base w p v1 v2 F C) (hg : w.grownBy w1 v2.ownBlock) : w1.cell? ⟨p, 1, none⟩ = some v2 ∧ ∀ o, w1.frozen? ⟨p, o, none⟩ = false := by
  have hb1 : w1.heap[p]? = some (.cells #[v1, v2] 44 (0, 0)) := by rw [hg.block p h.lt (fun e => h.n2 e.symm)]; exact h.blk
  obtain ⟨h1, h2, _⟩ := obj_cells hb1
  exact ⟨h1 1 _ rfl, h2⟩
end

set_option maxRecDepth 100000 in
set_option maxHeartbeats 3200000 in
theorem rfix_calls (base : Nat) (w : World) (p : Nat) (v1 v2 : Value) (F : FixL) (C : ChL) (s : ByteArray) (d v : Int) (h : RWld base w p v1 v2 F C) (hb : base ≤ w.heap.size) (hsz : s.size ≤ 1000) (hl : F.length ≤ 1000) :
    Calls Try.prog 96 #[.pointer (some ⟨p, 0, none⟩), .string s, .int .i64 d, .int .i64 v] w (RetR base w p v1 v2 (fixRes F s d v) (fixNew F s d v) C) := by
  have HN := rname_calls s w hsz
  have H0 := Lib.hid h
  obtain ⟨A, C1, rfl, hA1, hA2⟩ := own_form h.fl
  unfold maxLen at hA2
  have HF := fun w' (hx : Ext w w') => rfixed_calls base w' p _ v2 F C s d (h.ext hx) (by omega)
  have hl63 : F.length ≤ 9223372036854775807 := by omega
  clear h
  cases hn : isName s with
  | false =>
    obtain ⟨e1, e2⟩ := fixRes_arg (F := F) (s := s) (d := d) (v := v) (.inl hn)
    rw [e1, e2]
    rw [hn] at HN
    clear e1 e2 HF
    go_enter Try.func96, Try.ntmps96
    (go_wp2_with fail; (with_reducible refine (HN).mono ?_); rintro e w' ⟨rfl, hx⟩)
    go_wp2
    go_ret
    exact RetR.same H0.out hx
  | true =>
    rw [hn] at HN
    by_cases hd1 : 0 ≤ d
    case neg =>
      obtain ⟨e1, e2⟩ := fixRes_arg (F := F) (s := s) (d := d) (v := v) (.inr (.inl (bool_no (dayB_iff d) (by omega))))
      rw [e1, e2]
      have hd1' : d < 0 := by omega
      clear e1 e2 HF hd1
      go_enter Try.func96, Try.ntmps96
      (go_wp2_with fail; (with_reducible refine (HN).mono ?_); rintro e w' ⟨rfl, hx⟩)
      go_wp2
      go_ret
      exact RetR.same H0.out hx
    by_cases hd2 : d ≤ 10000
    case neg =>
      obtain ⟨e1, e2⟩ := fixRes_arg (F := F) (s := s) (d := d) (v := v) (.inr (.inl (bool_no (dayB_iff d) (by omega))))
      rw [e1, e2]
      have hd2' : 10000 < d := by omega
      clear e1 e2 HF hd2
      go_enter Try.func96, Try.ntmps96
      (go_wp2_with fail; (with_reducible refine (HN).mono ?_); rintro e w' ⟨rfl, hx⟩)
      go_wp2
      go_ret
      exact RetR.same H0.out hx
    have hd : dayB d = true := (dayB_iff d).2 ⟨hd1, hd2⟩
    have HV := fun w' => rvalid_calls v w'
    cases hv : Vd v with
    | false =>
      obtain ⟨e1, e2⟩ := fixRes_arg (F := F) (s := s) (d := d) (v := v) (.inr (.inr hv))
      rw [e1, e2]
      rw [hv] at HV
      clear e1 e2 HF hd
      go_enter Try.func96, Try.ntmps96
      (go_wp2_with fail; (with_reducible refine (HN).mono ?_); rintro e w' ⟨rfl, hx⟩)
      (go_wp2_with fail; (with_reducible refine (HV _).mono ?_); rintro e w' ⟨rfl, rfl⟩)
      go_wp2
      go_ret
      exact RetR.same H0.out hx
    | true =>
      rw [hv] at HV
      cases ht : (F.lookup (s, d)).isSome with
      | true =>
        obtain ⟨e1, e2⟩ := fixRes_there hn hd hv ht
        rw [e1, e2]
        rw [ht] at HF
        clear e1 e2 hd ht
        generalize (F.lookup (s, d)).getD 0 = q at *
        go_enter Try.func96, Try.ntmps96
        (go_wp2_with fail; (with_reducible refine (HN).mono ?_); rintro e w' ⟨rfl, hx⟩)
        (go_wp2_with fail; (with_reducible refine (HV _).mono ?_); rintro e w' ⟨rfl, rfl⟩)
        (go_wp2_with fail; (with_reducible refine (HF _ hx).mono ?_); rintro e w' ⟨rfl, hy⟩)
        go_wp2
        go_ret
        exact RetR.same H0.out (hx.trans hy)
      | false =>
        by_cases h32 : F.length < 32
        case neg =>
          obtain ⟨e1, e2⟩ := fixRes_limit hn hd hv ht (by omega)
          rw [e1, e2]
          rw [ht] at HF
          clear e1 e2 hd ht
          have h32' : (32 : Int) ≤ (F.length : Int) := by omega
          generalize (F.lookup (s, d)).getD 0 = q at *
          clear h32
          go_enter Try.func96, Try.ntmps96
          (go_wp2_with fail; (with_reducible refine (HN).mono ?_); rintro e w' ⟨rfl, hx⟩)
          (go_wp2_with fail; (with_reducible refine (HV _).mono ?_); rintro e w' ⟨rfl, rfl⟩)
          (go_wp2_with fail; (with_reducible refine (HF _ hx).mono ?_); rintro e w' ⟨rfl, hy⟩)
          obtain ⟨k0, k1, kf⟩ := (H0.out.ext (hx.trans hy)).cells
          go_wp2
          go_ret
          exact RetR.same H0.out (hx.trans hy)
        obtain ⟨e1, e2⟩ := fixRes_ok hn hd hv ht h32
        rw [e1, e2]
        rw [ht] at HF
        clear e1 e2 hd ht
        have h32' : (F.length : Int) < 32 := by omega
        have h63 : F.length + 1 ≤ maxLen := by unfold maxLen; omega
        have hby : (F.length + 1) * 32 ≤ 140737488355328 := by omega
        generalize (F.lookup (s, d)).getD 0 = q at *
        clear h32
        go_enter Try.func96, Try.ntmps96
        (go_wp2_with fail; (with_reducible refine (HN).mono ?_); rintro e w' ⟨rfl, hx⟩)
        (go_wp2_with fail; (with_reducible refine (HV _).mono ?_); rintro e w' ⟨rfl, rfl⟩)
        (go_wp2_with fail; (with_reducible refine (HF _ hx).mono ?_); rintro e w' ⟨rfl, hy⟩)
        have hxy := hx.trans hy
        obtain ⟨k0, k1, kf⟩ := (H0.out.ext hxy).cells
        have hM := Lib.hid (Moved.of_ext hxy p (.slice A F.length C1) v2)
        have hW := Lib.hid (H0.out.ext hxy)
        have hbl : base ≤ w'.heap.size + 1 := by have := hxy.le; omega
        clear hx hy hxy HF HN HV
        go_wp2_with (at_builtin; refine wpList_app elemFx rfl _ _ rfl base (.slice A F.length C1) F.length (fxCells F) rfl (hW.out.fl.alloc _) _ 1 1 (fxOf ((s, d), v)) rfl (Rd.new _ #[.string s, .int .i64 d, .int .i64 v] _ 1 3 rfl) (by simp [fxOf, Value.oneCell']) h63 hby (by simp; omega) ?_; intro u1 w1 hown1 hg1 hat1; obtain ⟨A6, C6, rfl, h6, h7⟩ := own_form hown1; obtain ⟨q3, qf⟩ := (hW.out.ext (w' := w'.alloc _) ((by repeat' (first | (with_reducible exact Ext.refl _) | (with_reducible assumption) | (with_reducible refine Ext.alloc ?_ _) | (with_reducible refine Ext.drew ?_) | (with_reducible refine Ext.drewN ?_ _) | (with_reducible refine Ext.setCell ?_ (by first | exact Nat.le_refl _ | (simp; done) | (simp; omega) | omega) _) | (with_reducible refine Ext.trans ?_ (by assumption)))))).grown1 hg1)
        have hP := Lib.hid ((hW.out.ext (w' := w'.alloc _) ((by repeat' (first | (with_reducible exact Ext.refl _) | (with_reducible assumption) | (with_reducible refine Ext.alloc ?_ _) | (with_reducible refine Ext.drew ?_) | (with_reducible refine Ext.drewN ?_ _) | (with_reducible refine Ext.setCell ?_ (by first | exact Nat.le_refl _ | (simp; done) | (simp; omega) | omega) _) | (with_reducible refine Ext.trans ?_ (by assumption)))))).put1 ((s, d), v) hown1 hg1 hat1)
        clear hown1 hg1 hat1 q3 qf
        go_wp2_with fail
        go_ret
        exact ⟨_, _, rfl, hP.out.1, (hM.out.trans (Moved.of_ext ((by repeat' (first | (with_reducible exact Ext.refl _) | (with_reducible assumption) | (with_reducible refine Ext.alloc ?_ _) | (with_reducible refine Ext.drew ?_) | (with_reducible refine Ext.drewN ?_ _) | (with_reducible refine Ext.setCell ?_ (by first | exact Nat.le_refl _ | (simp; done) | (simp; omega) | omega) _) | (with_reducible refine Ext.trans ?_ (by assumption))))) p _ _)).trans hP.out.2⟩

end Go.Proofs.Ytgjjngkmbplijaa
