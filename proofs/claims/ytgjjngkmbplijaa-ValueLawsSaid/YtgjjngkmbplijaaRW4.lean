/- The document's world (ref04.World): Choose. -/
import Derived.Test.YtgjjngkmbplijaaRW3
namespace Go.Proofs.Ytgjjngkmbplijaa
open Go.RowKit
set_option linter.unusedSimpArgs false
set_option linter.unusedVariables false

theorem side_bounds (k : Int) : (sideB k = true ∧ 0 ≤ k ∧ k ≤ 1) ∨ (sideB k = false ∧ k < 0) ∨ (sideB k = false ∧ 0 ≤ k ∧ 1 < k) := by
  by_cases h : k = 0 ∨ k = 1
  · exact .inl ⟨(sideB_iff k).2 h, by omega, by omega⟩
  · have hb := bool_no (sideB_iff k) h
    by_cases h2 : k < 0
    · exact .inr (.inl ⟨hb, h2⟩)
    · exact .inr (.inr ⟨hb, by omega, by omega⟩)
theorem day_bounds (d : Int) : (dayB d = true ∧ 0 ≤ d ∧ d ≤ 10000) ∨ (dayB d = false ∧ d < 0) ∨ (dayB d = false ∧ 0 ≤ d ∧ 10000 < d) := by
  by_cases h : 0 ≤ d ∧ d ≤ 10000
  · exact .inl ⟨(dayB_iff d).2 h, h.1, h.2⟩
  · have hb := bool_no (dayB_iff d) h
    by_cases h2 : d < 0
    · exact .inr (.inl ⟨hb, h2⟩)
    · exact .inr (.inr ⟨hb, by omega, by omega⟩)

set_option maxRecDepth 100000 in
set_option maxHeartbeats 3200000 in
theorem rchoose_calls (base : Nat) (w : World) (p : Nat) (v1 v2 : Value) (F : FixL) (C : ChL) (s t : ByteArray) (k d : Int) (h : RWld base w p v1 v2 F C) (hb : base ≤ w.heap.size) (hsz : s.size ≤ 1000) (htz : t.size ≤ 1000) (hl : C.length ≤ 1000) :
    Calls Try.prog 95 #[.pointer (some ⟨p, 0, none⟩), .string s, .string t, .int .i64 k, .int .i64 d] w (RetR base w p v1 v2 (chRes C s t k d) F (chNew C s t k d)) := by
  have HN := rname_calls s w hsz
  have HM := fun w' => rname_calls t w' htz
  have H0 := Lib.hid h
  obtain ⟨A, C1, rfl, hA1, hA2⟩ := own_form h.ch
  unfold maxLen at hA2
  have HF := fun w' (hx : Ext w w') => rchosen_calls base w' p v1 _ F C s t (h.ext hx) (by omega)
  have hl63 : C.length ≤ 9223372036854775807 := by omega
  clear h
  cases hn : isName s with
  | false =>
    obtain ⟨e1, e2⟩ := chRes_arg (C := C) (s := s) (t := t) (k := k) (d := d) (.inl hn)
    rw [e1, e2]
    rw [hn] at HN
    clear e1 e2 HF HM
    go_enter Try.func95, Try.ntmps95
    (go_wp2_with fail; (with_reducible refine (HN).mono ?_); rintro e w' ⟨rfl, hx⟩)
    go_wp2
    go_ret
    exact RetR.same H0.out hx
  | true =>
    rw [hn] at HN
    cases hm : isName t with
    | false =>
      obtain ⟨e1, e2⟩ := chRes_arg (C := C) (s := s) (t := t) (k := k) (d := d) (.inr (.inl hm))
      rw [e1, e2]
      rw [hm] at HM
      clear e1 e2 HF
      go_enter Try.func95, Try.ntmps95
      (go_wp2_with fail; (with_reducible refine (HN).mono ?_); rintro e w' ⟨rfl, hx⟩)
      (go_wp2_with fail; (with_reducible refine (HM _).mono ?_); rintro e w' ⟨rfl, hy⟩)
      go_wp2
      go_ret
      exact RetR.same H0.out (hx.trans hy)
    | true =>
      rw [hm] at HM
      rcases side_bounds k with ⟨hk, hk1, hk2⟩ | ⟨hk, hk1⟩ | ⟨hk, hk1, hk2⟩
      rotate_left
      iterate 2
        · obtain ⟨e1, e2⟩ := chRes_arg (C := C) (s := s) (t := t) (k := k) (d := d) (.inr (.inr (.inl hk)))
          rw [e1, e2]
          clear e1 e2 HF hk
          go_enter Try.func95, Try.ntmps95
          (go_wp2_with fail; (with_reducible refine (HN).mono ?_); rintro e w' ⟨rfl, hx⟩)
          (go_wp2_with fail; (with_reducible refine (HM _).mono ?_); rintro e w' ⟨rfl, hy⟩)
          go_wp2
          go_ret
          exact RetR.same H0.out (hx.trans hy)
      rcases day_bounds d with ⟨hd, hd1, hd2⟩ | ⟨hd, hd1⟩ | ⟨hd, hd1, hd2⟩
      rotate_left
      iterate 2
        · obtain ⟨e1, e2⟩ := chRes_arg (C := C) (s := s) (t := t) (k := k) (d := d) (.inr (.inr (.inr hd)))
          rw [e1, e2]
          clear e1 e2 HF hk hd
          go_enter Try.func95, Try.ntmps95
          (go_wp2_with fail; (with_reducible refine (HN).mono ?_); rintro e w' ⟨rfl, hx⟩)
          (go_wp2_with fail; (with_reducible refine (HM _).mono ?_); rintro e w' ⟨rfl, hy⟩)
          go_wp2
          go_ret
          exact RetR.same H0.out (hx.trans hy)
      cases ht : (C.lookup (s, t)).isSome with
      | true =>
        obtain ⟨e1, e2⟩ := chRes_there (k := k) hn hm hk hd ht
        rw [e1, e2]
        rw [ht] at HF
        clear e1 e2 hd hk ht
        generalize (C.lookup (s, t)).getD (0, 0) = q at *
        unfold Ret3 at HF
        go_enter Try.func95, Try.ntmps95
        (go_wp2_with fail; (with_reducible refine (HN).mono ?_); rintro e w' ⟨rfl, hx⟩)
        (go_wp2_with fail; (with_reducible refine (HM _).mono ?_); rintro e w' ⟨rfl, hy⟩)
        (go_wp2_with fail; (with_reducible refine (HF _ (hx.trans hy)).mono ?_); rintro e w' ⟨rfl, hz⟩)
        go_wp2
        go_ret
        exact RetR.same H0.out ((hx.trans hy).trans hz)
      | false =>
        obtain ⟨e1, e2⟩ := chRes_ok hn hm hk hd ht
        rw [e1, e2]
        rw [ht] at HF
        clear e1 e2 hd hk ht
        have h63 : C.length + 1 ≤ maxLen := by unfold maxLen; omega
        have hby : (C.length + 1) * 48 ≤ 140737488355328 := by omega
        generalize (C.lookup (s, t)).getD (0, 0) = q at *
        unfold Ret3 at HF
        go_enter Try.func95, Try.ntmps95
        (go_wp2_with fail; (with_reducible refine (HN).mono ?_); rintro e w' ⟨rfl, hx⟩)
        (go_wp2_with fail; (with_reducible refine (HM _).mono ?_); rintro e w' ⟨rfl, hy⟩)
        (go_wp2_with fail; (with_reducible refine (HF _ (hx.trans hy)).mono ?_); rintro e w' ⟨rfl, hz⟩)
        have hxy := (hx.trans hy).trans hz
        obtain ⟨k0, k1, kf⟩ := (H0.out.ext hxy).cells
        have hM := Lib.hid (Moved.of_ext hxy p v1 (.slice A C.length C1))
        have hW := Lib.hid (H0.out.ext hxy)
        have hbl : base ≤ w'.heap.size + 1 := by have := hxy.le; omega
        clear hx hy hz hxy HF HN HM
        go_wp2_with (at_builtin; refine wpList_app elemCc rfl _ _ rfl base (.slice A C.length C1) C.length (ccCells C) rfl (hW.out.ch.alloc _) _ 1 1 (ccOf ((s, t), (k, d))) rfl (Rd.new _ #[.string s, .string t, .int .i64 k, .int .i64 d] _ 1 4 rfl) (by simp [ccOf, Value.oneCell']) h63 hby (by simp; omega) ?_; intro u1 w1 hown1 hg1 hat1; obtain ⟨A6, C6, rfl, h6, h7⟩ := own_form hown1; obtain ⟨q3, qf⟩ := (hW.out.ext (w' := w'.alloc _) ((by repeat' (first | (with_reducible exact Ext.refl _) | (with_reducible assumption) | (with_reducible refine Ext.alloc ?_ _) | (with_reducible refine Ext.drew ?_) | (with_reducible refine Ext.drewN ?_ _) | (with_reducible refine Ext.setCell ?_ (by first | exact Nat.le_refl _ | (simp; done) | (simp; omega) | omega) _) | (with_reducible refine Ext.trans ?_ (by assumption)))))).grown2 hg1)
        have hP := Lib.hid ((hW.out.ext (w' := w'.alloc _) ((by repeat' (first | (with_reducible exact Ext.refl _) | (with_reducible assumption) | (with_reducible refine Ext.alloc ?_ _) | (with_reducible refine Ext.drew ?_) | (with_reducible refine Ext.drewN ?_ _) | (with_reducible refine Ext.setCell ?_ (by first | exact Nat.le_refl _ | (simp; done) | (simp; omega) | omega) _) | (with_reducible refine Ext.trans ?_ (by assumption)))))).put2 ((s, t), (k, d)) hown1 hg1 hat1)
        clear hown1 hg1 hat1 q3 qf
        go_wp2_with fail
        go_ret
        exact ⟨_, _, rfl, hP.out.1, (hM.out.trans (Moved.of_ext ((by repeat' (first | (with_reducible exact Ext.refl _) | (with_reducible assumption) | (with_reducible refine Ext.alloc ?_ _) | (with_reducible refine Ext.drew ?_) | (with_reducible refine Ext.drewN ?_ _) | (with_reducible refine Ext.setCell ?_ (by first | exact Nat.le_refl _ | (simp; done) | (simp; omega) | omega) _) | (with_reducible refine Ext.trans ?_ (by assumption))))) p _ _)).trans hP.out.2⟩

end Go.Proofs.Ytgjjngkmbplijaa
