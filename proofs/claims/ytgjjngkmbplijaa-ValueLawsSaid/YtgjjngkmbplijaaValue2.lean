/- Package value: of, Of, Needs. -/
import Derived.Test.YtgjjngkmbplijaaValue
namespace Go.Proofs.Ytgjjngkmbplijaa
open Go.RowKit
set_option linter.unusedSimpArgs false
set_option linter.unusedVariables false

theorem negOf_nil (w : World) : (Instr.field 62 (.agg #[.nilIface]) 0).run Try.prog w = .ok .nilIface w := by kernel_rfl
theorem negOf_if (t : TypeId) (x : Value) (w : World) : (Instr.field 62 (.agg #[.iface t x]) 0).run Try.prog w = .ok (.iface t x) w := by kernel_rfl
attribute [local go_sem] negOf_nil negOf_if

set_option maxRecDepth 100000 in
set_option maxHeartbeats 800000 in
theorem of_calls (k : Nat) (p f c : Nat) (F : FixL) (C : ChL) (d : Int) : ∀ (o : Ob) (w : World), SizeOf.sizeOf o < k → o.wf → o.formed = true → Wld w p f c F C →
    Calls Try.prog 109 #[o.val, .int .i64 d, .pointer (some ⟨p, 0, none⟩)] w fun e w' => RetKn w (o.value F d) e w' := by
  induction k with
  | zero => intro o w h; omega
  | succ k ih =>
    intro o w hk hwf hfo hW
    cases o with
    | const n =>
      simp only [Ob.val, Ob.value]
      clear ih
      go_enter Try.func109, Try.ntmps109
      go_wp2
      exact bodyPost_ret (v := .tuple #[.agg #[.int .i64 n, .bool true], .int .i64 0]) (by simp [results, Try.results109, go_sem]) rfl ⟨rfl, (by repeat' (first | (with_reducible exact Ext.refl _) | (with_reducible assumption) | (with_reducible refine Ext.alloc ?_ _) | (with_reducible refine Ext.drew ?_) | (with_reducible refine Ext.drewN ?_ _) | (with_reducible refine Ext.setCell ?_ (by first | exact Nat.le_refl _ | (simp; done) | (simp; omega) | omega) _) | (with_reducible refine Ext.trans ?_ (by assumption))))⟩
    | fix s =>
      simp only [Ob.val, Ob.value]
      clear ih
      have H := fun w' (h : Ext w w') => fixed_calls p f c F C s d w' (hW.ext h)
      generalize (F.lookup (s, d)).getD 0 = q1 at *
      generalize (F.lookup (s, d)).isSome = q2 at *
      clear hW
      go_enter Try.func109, Try.ntmps109
      go_wp2_with fail
      with_reducible refine (H _ ((by repeat' (first | (with_reducible exact Ext.refl _) | (with_reducible assumption) | (with_reducible refine Ext.alloc ?_ _) | (with_reducible refine Ext.drew ?_) | (with_reducible refine Ext.drewN ?_ _) | (with_reducible refine Ext.setCell ?_ (by first | exact Nat.le_refl _ | (simp; done) | (simp; omega) | omega) _) | (with_reducible refine Ext.trans ?_ (by assumption)))))).mono ?_
      rintro e w' ⟨rfl, rfl⟩
      go_wp2_with fail
      exact bodyPost_ret (v := .tuple #[.agg #[.int .i64 q1, .bool q2], .int .i64 0]) (by simp [results, Try.results109, go_sem]) rfl ⟨rfl, (by repeat' (first | (with_reducible exact Ext.refl _) | (with_reducible assumption) | (with_reducible refine Ext.alloc ?_ _) | (with_reducible refine Ext.drew ?_) | (with_reducible refine Ext.drewN ?_ _) | (with_reducible refine Ext.setCell ?_ (by first | exact Nat.le_refl _ | (simp; done) | (simp; omega) | omega) _) | (with_reducible refine Ext.trans ?_ (by assumption))))⟩
    | add l r =>
      simp only [Ob.formed, Bool.and_eq_true] at hfo
      simp only [Ob.val, Ob.value]
      have H := fun w' (h : Ext w w') => pairAdd_calls l r d p (l.value F d) (r.value F d) w' (fun w'' h' => ih l w'' (by simp at hk; omega) hwf.1 hfo.1 (hW.ext (h.trans h'))) (fun w'' h' => ih r w'' (by simp at hk; omega) hwf.2 hfo.2 (hW.ext (h.trans h')))
      generalize pairK addS (l.value F d) (r.value F d) = q at *
      rcases Ob.form hwf.1 with e1 | ⟨t1, x1, e1⟩ <;> rcases Ob.form hwf.2 with e2 | ⟨t2, x2, e2⟩
      all_goals
        rw [e1, e2] at H ⊢
        clear e1 e2 ih hW hwf hfo
        go_enter Try.func109, Try.ntmps109
        go_wp2_with fail
        with_reducible refine (H _ ((by repeat' (first | (with_reducible exact Ext.refl _) | (with_reducible assumption) | (with_reducible refine Ext.alloc ?_ _) | (with_reducible refine Ext.drew ?_) | (with_reducible refine Ext.drewN ?_ _) | (with_reducible refine Ext.setCell ?_ (by first | exact Nat.le_refl _ | (simp; done) | (simp; omega) | omega) _) | (with_reducible refine Ext.trans ?_ (by assumption)))))).mono ?_
        rintro e w' ⟨rfl, hx⟩
        have hxx : Ext (w.alloc (.cells #[.int .i64 0, .bool false] 204 (0, 0))) w' := ((by repeat' (first | (with_reducible exact Ext.refl _) | (with_reducible assumption) | (with_reducible refine Ext.alloc ?_ _) | (with_reducible refine Ext.drew ?_) | (with_reducible refine Ext.drewN ?_ _) | (with_reducible refine Ext.setCell ?_ (by first | exact Nat.le_refl _ | (simp; done) | (simp; omega) | omega) _) | (with_reducible refine Ext.trans ?_ (by assumption)))))
        obtain ⟨c0, c1, cf, hz⟩ := hxx.two
        go_wp2_with fail
        exact bodyPost_ret (v := .tuple #[.agg #[.int .i64 q.n, .bool q.is], .int .i64 q.e]) (by simp [results, Try.results109, c0, c1, go_sem, hz]) rfl ⟨rfl, (by repeat' (first | (with_reducible exact Ext.refl _) | (with_reducible assumption) | (with_reducible refine Ext.alloc ?_ _) | (with_reducible refine Ext.drew ?_) | (with_reducible refine Ext.drewN ?_ _) | (with_reducible refine Ext.setCell ?_ (by first | exact Nat.le_refl _ | (simp; done) | (simp; omega) | omega) _) | (with_reducible refine Ext.trans ?_ (by assumption))))⟩
    | neg o =>
      simp only [Ob.formed] at hfo
      simp only [Ob.val, Ob.value]
      have hwo : o.wf := hwf
      have H := fun w' (h : Ext w w') => ih o w' (by simp at hk; omega) hwo hfo (hW.ext h)
      generalize o.value F d = q at *
      obtain ⟨qn, qi, qe⟩ := q
      have form := Ob.form hwo
      generalize o.val = ov at *
      clear ih hW hwf hwo hfo
      by_cases h1 : qe = 0
      · subst h1
        cases qi with
        | true =>
          have HP := Lib.hid (negK_ok (a := ⟨qn, true, 0⟩) rfl rfl)
          have hN := fun w => neg_calls qn w
          generalize negS qn = q at *
          have HT := fun w => vtold_calls q w
          obtain ⟨q1, q2⟩ := q
          rcases form with rfl | ⟨t1, x1, rfl⟩
          all_goals
            go_enter Try.func109, Try.ntmps109
            go_wp2_with fail
            with_reducible refine (H _ ((by repeat' (first | (with_reducible exact Ext.refl _) | (with_reducible assumption) | (with_reducible refine Ext.alloc ?_ _) | (with_reducible refine Ext.drew ?_) | (with_reducible refine Ext.drewN ?_ _) | (with_reducible refine Ext.setCell ?_ (by first | exact Nat.le_refl _ | (simp; done) | (simp; omega) | omega) _) | (with_reducible refine Ext.trans ?_ (by assumption)))))).mono ?_
            rintro e w' ⟨rfl, hx⟩
            have hxx : Ext (w.alloc (.cells #[.int .i64 0, .bool false] 204 (0, 0))) w' := ((by repeat' (first | (with_reducible exact Ext.refl _) | (with_reducible assumption) | (with_reducible refine Ext.alloc ?_ _) | (with_reducible refine Ext.drew ?_) | (with_reducible refine Ext.drewN ?_ _) | (with_reducible refine Ext.setCell ?_ (by first | exact Nat.le_refl _ | (simp; done) | (simp; omega) | omega) _) | (with_reducible refine Ext.trans ?_ (by assumption)))))
            obtain ⟨c0, c1, cf, hz⟩ := hxx.two
            go_wp2_with fail
            with_reducible refine (hN _).mono ?_
            rintro e w3 ⟨rfl, rfl⟩
            unfold retIB
            (go_wp2_with fail; (with_reducible refine (HT _).mono ?_); rintro e w' ⟨rfl, hv⟩)
            generalize toldK (q1, q2) = k at *
            obtain ⟨c0, c1, cf, hz4⟩ := ((hxx.alloc (.cells #[.int .i64 qn, .bool true] 204)).trans hv).two
            go_wp2_with fail
            exact bodyPost_ret (v := .tuple #[.agg #[.int .i64 k.n, .bool k.is], .int .i64 k.e]) (by simp [results, Try.results109, c0, c1, go_sem, hz4]) rfl ⟨by rw [HP.out], (by repeat' (first | (with_reducible exact Ext.refl _) | (with_reducible assumption) | (with_reducible refine Ext.alloc ?_ _) | (with_reducible refine Ext.drew ?_) | (with_reducible refine Ext.drewN ?_ _) | (with_reducible refine Ext.setCell ?_ (by first | exact Nat.le_refl _ | (simp; done) | (simp; omega) | omega) _) | (with_reducible refine Ext.trans ?_ (by assumption))))⟩
        | false =>
          have HP := Lib.hid (negK_no (a := ⟨qn, false, 0⟩) (.inr rfl))
          rcases form with rfl | ⟨t1, x1, rfl⟩
          all_goals
            go_enter Try.func109, Try.ntmps109
            go_wp2_with fail
            with_reducible refine (H _ ((by repeat' (first | (with_reducible exact Ext.refl _) | (with_reducible assumption) | (with_reducible refine Ext.alloc ?_ _) | (with_reducible refine Ext.drew ?_) | (with_reducible refine Ext.drewN ?_ _) | (with_reducible refine Ext.setCell ?_ (by first | exact Nat.le_refl _ | (simp; done) | (simp; omega) | omega) _) | (with_reducible refine Ext.trans ?_ (by assumption)))))).mono ?_
            rintro e w' ⟨rfl, hx⟩
            have hxx : Ext (w.alloc (.cells #[.int .i64 0, .bool false] 204 (0, 0))) w' := ((by repeat' (first | (with_reducible exact Ext.refl _) | (with_reducible assumption) | (with_reducible refine Ext.alloc ?_ _) | (with_reducible refine Ext.drew ?_) | (with_reducible refine Ext.drewN ?_ _) | (with_reducible refine Ext.setCell ?_ (by first | exact Nat.le_refl _ | (simp; done) | (simp; omega) | omega) _) | (with_reducible refine Ext.trans ?_ (by assumption)))))
            obtain ⟨c0, c1, cf, hz⟩ := hxx.two
            go_wp2_with fail
            exact bodyPost_ret (v := .tuple #[.agg #[.int .i64 0, .bool false], .int .i64 0]) (by simp [results, Try.results109, c0, c1, go_sem, hz]) rfl ⟨by rw [HP.out], (by repeat' (first | (with_reducible exact Ext.refl _) | (with_reducible assumption) | (with_reducible refine Ext.alloc ?_ _) | (with_reducible refine Ext.drew ?_) | (with_reducible refine Ext.drewN ?_ _) | (with_reducible refine Ext.setCell ?_ (by first | exact Nat.le_refl _ | (simp; done) | (simp; omega) | omega) _) | (with_reducible refine Ext.trans ?_ (by assumption))))⟩
      · have HP := Lib.hid (negK_no (a := ⟨qn, qi, qe⟩) (.inl h1))
        have hne : (qe != 0) = true := by simpa using h1
        rcases form with rfl | ⟨t1, x1, rfl⟩
        all_goals
          go_enter Try.func109, Try.ntmps109
          go_wp2_with fail
          with_reducible refine (H _ ((by repeat' (first | (with_reducible exact Ext.refl _) | (with_reducible assumption) | (with_reducible refine Ext.alloc ?_ _) | (with_reducible refine Ext.drew ?_) | (with_reducible refine Ext.drewN ?_ _) | (with_reducible refine Ext.setCell ?_ (by first | exact Nat.le_refl _ | (simp; done) | (simp; omega) | omega) _) | (with_reducible refine Ext.trans ?_ (by assumption)))))).mono ?_
          rintro e w' ⟨rfl, hx⟩
          have hxx : Ext (w.alloc (.cells #[.int .i64 0, .bool false] 204 (0, 0))) w' := ((by repeat' (first | (with_reducible exact Ext.refl _) | (with_reducible assumption) | (with_reducible refine Ext.alloc ?_ _) | (with_reducible refine Ext.drew ?_) | (with_reducible refine Ext.drewN ?_ _) | (with_reducible refine Ext.setCell ?_ (by first | exact Nat.le_refl _ | (simp; done) | (simp; omega) | omega) _) | (with_reducible refine Ext.trans ?_ (by assumption)))))
          obtain ⟨c0, c1, cf, hz⟩ := hxx.two
          go_wp2_with fail
          exact bodyPost_ret (v := .tuple #[.agg #[.int .i64 0, .bool false], .int .i64 qe]) (by simp [results, Try.results109, c0, c1, go_sem, hz]) rfl ⟨by rw [HP.out], (by repeat' (first | (with_reducible exact Ext.refl _) | (with_reducible assumption) | (with_reducible refine Ext.alloc ?_ _) | (with_reducible refine Ext.drew ?_) | (with_reducible refine Ext.drewN ?_ _) | (with_reducible refine Ext.setCell ?_ (by first | exact Nat.le_refl _ | (simp; done) | (simp; omega) | omega) _) | (with_reducible refine Ext.trans ?_ (by assumption))))⟩
    | mul l r =>
      simp only [Ob.formed, Bool.and_eq_true] at hfo
      simp only [Ob.val, Ob.value]
      have H := fun w' (h : Ext w w') => pairMul_calls l r d p (l.value F d) (r.value F d) w' (fun w'' h' => ih l w'' (by simp at hk; omega) hwf.1 hfo.1 (hW.ext (h.trans h'))) (fun w'' h' => ih r w'' (by simp at hk; omega) hwf.2 hfo.2 (hW.ext (h.trans h')))
      generalize pairK mulS (l.value F d) (r.value F d) = q at *
      rcases Ob.form hwf.1 with e1 | ⟨t1, x1, e1⟩ <;> rcases Ob.form hwf.2 with e2 | ⟨t2, x2, e2⟩
      all_goals
        rw [e1, e2] at H ⊢
        clear e1 e2 ih hW hwf hfo
        go_enter Try.func109, Try.ntmps109
        go_wp2_with fail
        with_reducible refine (H _ ((by repeat' (first | (with_reducible exact Ext.refl _) | (with_reducible assumption) | (with_reducible refine Ext.alloc ?_ _) | (with_reducible refine Ext.drew ?_) | (with_reducible refine Ext.drewN ?_ _) | (with_reducible refine Ext.setCell ?_ (by first | exact Nat.le_refl _ | (simp; done) | (simp; omega) | omega) _) | (with_reducible refine Ext.trans ?_ (by assumption)))))).mono ?_
        rintro e w' ⟨rfl, hx⟩
        have hxx : Ext (w.alloc (.cells #[.int .i64 0, .bool false] 204 (0, 0))) w' := ((by repeat' (first | (with_reducible exact Ext.refl _) | (with_reducible assumption) | (with_reducible refine Ext.alloc ?_ _) | (with_reducible refine Ext.drew ?_) | (with_reducible refine Ext.drewN ?_ _) | (with_reducible refine Ext.setCell ?_ (by first | exact Nat.le_refl _ | (simp; done) | (simp; omega) | omega) _) | (with_reducible refine Ext.trans ?_ (by assumption)))))
        obtain ⟨c0, c1, cf, hz⟩ := hxx.two
        go_wp2_with fail
        exact bodyPost_ret (v := .tuple #[.agg #[.int .i64 q.n, .bool q.is], .int .i64 q.e]) (by simp [results, Try.results109, c0, c1, go_sem, hz]) rfl ⟨rfl, (by repeat' (first | (with_reducible exact Ext.refl _) | (with_reducible assumption) | (with_reducible refine Ext.alloc ?_ _) | (with_reducible refine Ext.drew ?_) | (with_reducible refine Ext.drewN ?_ _) | (with_reducible refine Ext.setCell ?_ (by first | exact Nat.le_refl _ | (simp; done) | (simp; omega) | omega) _) | (with_reducible refine Ext.trans ?_ (by assumption))))⟩
    | max l r =>
      simp only [Ob.formed, Bool.and_eq_true] at hfo
      simp only [Ob.val, Ob.value]
      have H := fun w' (h : Ext w w') => pairMax_calls l r d p (l.value F d) (r.value F d) w' (fun w'' h' => ih l w'' (by simp at hk; omega) hwf.1 hfo.1 (hW.ext (h.trans h'))) (fun w'' h' => ih r w'' (by simp at hk; omega) hwf.2 hfo.2 (hW.ext (h.trans h')))
      generalize pairK maxS (l.value F d) (r.value F d) = q at *
      rcases Ob.form hwf.1 with e1 | ⟨t1, x1, e1⟩ <;> rcases Ob.form hwf.2 with e2 | ⟨t2, x2, e2⟩
      all_goals
        rw [e1, e2] at H ⊢
        clear e1 e2 ih hW hwf hfo
        go_enter Try.func109, Try.ntmps109
        go_wp2_with fail
        with_reducible refine (H _ ((by repeat' (first | (with_reducible exact Ext.refl _) | (with_reducible assumption) | (with_reducible refine Ext.alloc ?_ _) | (with_reducible refine Ext.drew ?_) | (with_reducible refine Ext.drewN ?_ _) | (with_reducible refine Ext.setCell ?_ (by first | exact Nat.le_refl _ | (simp; done) | (simp; omega) | omega) _) | (with_reducible refine Ext.trans ?_ (by assumption)))))).mono ?_
        rintro e w' ⟨rfl, hx⟩
        have hxx : Ext (w.alloc (.cells #[.int .i64 0, .bool false] 204 (0, 0))) w' := ((by repeat' (first | (with_reducible exact Ext.refl _) | (with_reducible assumption) | (with_reducible refine Ext.alloc ?_ _) | (with_reducible refine Ext.drew ?_) | (with_reducible refine Ext.drewN ?_ _) | (with_reducible refine Ext.setCell ?_ (by first | exact Nat.le_refl _ | (simp; done) | (simp; omega) | omega) _) | (with_reducible refine Ext.trans ?_ (by assumption)))))
        obtain ⟨c0, c1, cf, hz⟩ := hxx.two
        go_wp2_with fail
        exact bodyPost_ret (v := .tuple #[.agg #[.int .i64 q.n, .bool q.is], .int .i64 q.e]) (by simp [results, Try.results109, c0, c1, go_sem, hz]) rfl ⟨rfl, (by repeat' (first | (with_reducible exact Ext.refl _) | (with_reducible assumption) | (with_reducible refine Ext.alloc ?_ _) | (with_reducible refine Ext.drew ?_) | (with_reducible refine Ext.drewN ?_ _) | (with_reducible refine Ext.setCell ?_ (by first | exact Nat.le_refl _ | (simp; done) | (simp; omega) | omega) _) | (with_reducible refine Ext.trans ?_ (by assumption))))⟩
    | odd v => simp [Ob.formed] at hfo

end Go.Proofs.Ytgjjngkmbplijaa
