/- The document's answer: what a contract pays, and waits for (ref04.Cash). -/
import Derived.Test.YtgjjngkmbplijaaZWk
import Derived.Test.YtgjjngkmbplijaaZC2
import Derived.Test.YtgjjngkmbplijaaZRf

namespace Go.Proofs.Ytgjjngkmbplijaa
open Go.RowKit
set_option linter.unusedSimpArgs false
set_option linter.unusedVariables false

theorem rwalk_calls {a : World} {base b q : Nat} {id : ByteArray} {F : FixL} {C : ChL} (ba : Nat) (u1 u2 : Value) (hRw : RWld ba a q u1 u2 F C) (hlF : F.length ≤ 2 ^ 33) (hF : ∀ x ∈ F, Vd x.2 = true) (hlC : C.length ≤ 2 ^ 33) (hC : choicesOk C) :
    (t : Te) → t.formed = true → t.numsOk → RwH a base b q id F C t
  | .zero, _, _ => rw_zero
  | .one s, _, _ => rw_one s
  | .give t, h, hn => rw_give t (rwalk_calls ba u1 u2 hRw hlF hF hlC hC t (by simpa [Te.formed] using h) hn)
  | .whn n t, h, hn => rw_whn n t (rwalk_calls ba u1 u2 hRw hlF hF hlC hC t (by simp [Te.formed] at h; exact h.2) hn)
  | .and l r, h, hn => rw_and l r (rwalk_calls ba u1 u2 hRw hlF hF hlC hC l (by simp [Te.formed] at h; exact h.1) hn.1) (rwalk_calls ba u1 u2 hRw hlF hF hlC hC r (by simp [Te.formed] at h; exact h.2) hn.2)
  | .or s l r, h, hn => rw_or ba u1 u2 hRw hlC hC s l r (rwalk_calls ba u1 u2 hRw hlF hF hlC hC l (by simp [Te.formed] at h; exact h.2.1) hn.1) (rwalk_calls ba u1 u2 hRw hlF hF hlC hC r (by simp [Te.formed] at h; exact h.2.2) hn.2)
  | .scale o t, h, hn => rw_scale ba u1 u2 hRw hlF hF o hn.1 t (rwalk_calls ba u1 u2 hRw hlF hF hlC hC t (by simp [Te.formed] at h; exact h.2) hn.2)
  | .cond o l r, h, hn => rw_cond ba u1 u2 hRw hlF hF o hn.1 l r (rwalk_calls ba u1 u2 hRw hlF hF hlC hC l (by simp [Te.formed] at h; exact h.2.1) hn.2.1) (rwalk_calls ba u1 u2 hRw hlF hF hlC hC r (by simp [Te.formed] at h; exact h.2.2) hn.2.2)
  | .odd _, h, _ => by simp [Te.formed] at h
/-- The walker's memory, new. -/
theorem RWk.start (W : World) (q : Nat) (id : ByteArray) : RWk W W.heap.size (W.alloc (.cells #[.string id, .pointer (some ⟨q, 0, none⟩), .slice none 0 0, .slice none 0 0, .int .i64 0] 225)) W.heap.size q id (.slice none 0 0) (.slice none 0 0) ([], []) 0 :=
  ⟨heap_alloc_new _ _, World.ownsRow_nil _ _ _ _, World.ownsRow_nil _ _ _ _, (Ext.refl W).alloc _, Nat.le_refl _, Nat.le_refl _, by simp [Value.ownBlock], by simp [Value.ownBlock], .inl rfl⟩

set_option maxRecDepth 100000 in
set_option maxHeartbeats 3200000 in
theorem rcash_calls (ba q : Nat) (u1 u2 : Value) (F : FixL) (C : ChL) (id : ByteArray) (t : Te) (h : HT) (qq : Nat → Prop) (w : World) (d : Int) (ht : h.tr = t.tr) (hin : h.In qq w) (hRw : RWld ba w q u1 u2 F C) (hlF : F.length ≤ 2 ^ 33) (hF : ∀ x ∈ F, Vd x.2 = true) (hlC : C.length ≤ 2 ^ 33) (hC : choicesOk C) (hwf : t.wf) (hn : t.nodes ≤ 400) :
    Calls Try.prog 86 #[.string id, h.val, .int .i64 d, .pointer (some ⟨q, 0, none⟩)] w (RetCash w (cashOf F C id t d)) := by
  have hlb : t.labels.length ≤ 400 := Nat.le_trans t.labels_len hn
  have H1 := fun W (hE : Ext w W) => rcheck_calls h qq W false (hin.ext hE) (by rw [ht]; exact Te.tr_short hwf) (by rw [ht, Te.tr_nodes]; omega) (by rw [ht, Te.tr_labels]; omega)
  rw [ht, Te.tr_check] at H1
  by_cases hck : t.checked = 0
  · obtain ⟨hf, hn60, hd12, _⟩ := Te.checked_form hck
    have hnum := Te.nums_ok t hf hn60 hd12
    have HI := fun (W : World) (hE : Ext w W) => rwalk_calls ba u1 u2 (hRw.ext hE) hlF hF hlC hC t hf hnum h qq _ _ _ ([], []) d 1 ht (hin.ext hE) (RWk.start W q id) (by decide) (by decide) ⟨by simp; omega, by simp; omega⟩
    rw [hck] at H1
    unfold HT.val at *
    generalize h.kd = x0 at *
    generalize h.s = x1 at *
    generalize h.n = x2 at *
    generalize h.a = x3 at *
    generalize h.k.length = x4 at *
    generalize h.c = x5 at *
    by_cases h1 : 0 ≤ d
    · have h1' : ¬ d < 0 := by omega
      by_cases h2 : d ≤ 10000
      · have h2' : ¬ 10000 < d := by omega
        have hd := (dayB_iff d).2 ⟨h1, h2⟩
        have he : ((t.walk F C id d 1 ([], [])).1 = 0 ∧ cashOf F C id t d = (0, (t.walk F C id d 1 ([], [])).2)) ∨ ((t.walk F C id d 1 ([], [])).1 ≠ 0 ∧ cashOf F C id t d = ((t.walk F C id d 1 ([], [])).1, ([], []))) := by
          by_cases h3 : (t.walk F C id d 1 ([], [])).1 = 0
          · exact .inl ⟨h3, by rw [cashOf_ok hck hd h3]; ext1; exact h3; rfl⟩
          · exact .inr ⟨h3, cashOf_err hck hd h3⟩
        generalize cashOf F C id t d = R at *
        generalize t.walk F C id d 1 ([], []) = r at *
        clear ht hin hRw hF hC hwf hn hlb hck hf hn60 hd12 hnum hd
        go_enter Try.func86, Try.ntmps86
        (go_wp2_with fail; (with_reducible refine (H1 _ ((by repeat' (first | (with_reducible exact Ext.refl _) | (with_reducible assumption) | (with_reducible refine Ext.alloc ?_ _) | (with_reducible refine Ext.drew ?_) | (with_reducible refine Ext.drewN ?_ _) | (with_reducible refine Ext.setCell ?_ (by first | exact Nat.le_refl _ | (simp; done) | (simp; omega) | omega) _) | (with_reducible refine Ext.trans ?_ (by assumption)))))).mono ?_); rintro e w2 ⟨rfl, hx⟩)
        obtain ⟨q0, qf, ql⟩ := obj_cells (hx.lit (heap_new w _))
        have z0 := q0 0 _ rfl
        have z1 := q0 1 _ rfl
        have z2 := q0 2 _ rfl
        have z3 := q0 3 _ rfl
        have hE2 : Ext w w2 := ((by repeat' (first | (with_reducible exact Ext.refl _) | (with_reducible assumption) | (with_reducible refine Ext.alloc ?_ _) | (with_reducible refine Ext.drew ?_) | (with_reducible refine Ext.drewN ?_ _) | (with_reducible refine Ext.setCell ?_ (by first | exact Nat.le_refl _ | (simp; done) | (simp; omega) | omega) _) | (with_reducible refine Ext.trans ?_ (by assumption)))))
        have HI' := HI w2 hE2
        (go_wp2_with fail; (with_reducible refine HI'.mono ?_); rintro e w3 ⟨y1, y2, rfl, hw3, hm3⟩)
        have hEw := Lib.hid (hE2.trans hw3.ea)
        have hle := Lib.hid hE2.le
        obtain ⟨A1, C1, rfl, _, _⟩ := own_form hw3.fl
        obtain ⟨A2, C2, rfl, _, _⟩ := own_form hw3.wa
        obtain ⟨k0, k1, k2, k3, k4, kf, kb⟩ := hw3.cells
        have hW := Lib.hid hw3
        clear hw3 hm3 H1 HI HI' hE2 hx q0
        rcases he with ⟨e1, e2⟩ | ⟨e1, e2⟩
        · rw [e1] at k4
          have e2 := Lib.hid e2
          go_wp2_with fail
          go_quiet (fail)
          go_wp2
          go_ret3
          exact ⟨_, _, by rw [e2.out]; rfl, by rw [e2.out]; exact (Ext.own (Ext.drewN (Ext.refl _) _) (own_mono hW.out.fl hle.out)), by rw [e2.out]; exact (Ext.own (Ext.drewN (Ext.refl _) _) (own_mono hW.out.wa hle.out)), hEw.out.drewN _⟩
        · have hne : (r.1 != 0) = true := by simpa using e1
          have e2 := Lib.hid e2
          go_wp2_with fail
          go_quiet (fail)
          go_wp2
          go_ret3
          exact ⟨_, _, by rw [e2.out]; rfl, by rw [e2.out]; exact World.ownsRow_nil _ _ _ _, by rw [e2.out]; exact World.ownsRow_nil _ _ _ _, hEw.out.drewN _⟩
      · have HE := Lib.hid (cashOf_arg (F := F) (C := C) (id := id) (t := t) (d := d) (.inr (bool_no (dayB_iff d) (by omega))))
        have h2' : 10000 < d := by omega
        generalize cashOf F C id t d = R at *
        clear ht hin hRw hF hC hwf hn hlb hck hf hn60 hd12 hnum HI
        go_enter Try.func86, Try.ntmps86
        (go_wp2_with fail; (with_reducible refine (H1 _ ((by repeat' (first | (with_reducible exact Ext.refl _) | (with_reducible assumption) | (with_reducible refine Ext.alloc ?_ _) | (with_reducible refine Ext.drew ?_) | (with_reducible refine Ext.drewN ?_ _) | (with_reducible refine Ext.setCell ?_ (by first | exact Nat.le_refl _ | (simp; done) | (simp; omega) | omega) _) | (with_reducible refine Ext.trans ?_ (by assumption)))))).mono ?_); rintro e w2 ⟨rfl, hx⟩)
        go_wp2
        go_ret3
        exact ⟨_, _, by rw [HE.out]; rfl, by rw [HE.out]; exact World.ownsRow_nil _ _ _ _, by rw [HE.out]; exact World.ownsRow_nil _ _ _ _, ((by repeat' (first | (with_reducible exact Ext.refl _) | (with_reducible assumption) | (with_reducible refine Ext.alloc ?_ _) | (with_reducible refine Ext.drew ?_) | (with_reducible refine Ext.drewN ?_ _) | (with_reducible refine Ext.setCell ?_ (by first | exact Nat.le_refl _ | (simp; done) | (simp; omega) | omega) _) | (with_reducible refine Ext.trans ?_ (by assumption)))))⟩
    · have HE := Lib.hid (cashOf_arg (F := F) (C := C) (id := id) (t := t) (d := d) (.inr (bool_no (dayB_iff d) (by omega))))
      have h1' : d < 0 := by omega
      generalize cashOf F C id t d = R at *
      clear ht hin hRw hF hC hwf hn hlb hck hf hn60 hd12 hnum HI
      go_enter Try.func86, Try.ntmps86
      (go_wp2_with fail; (with_reducible refine (H1 _ ((by repeat' (first | (with_reducible exact Ext.refl _) | (with_reducible assumption) | (with_reducible refine Ext.alloc ?_ _) | (with_reducible refine Ext.drew ?_) | (with_reducible refine Ext.drewN ?_ _) | (with_reducible refine Ext.setCell ?_ (by first | exact Nat.le_refl _ | (simp; done) | (simp; omega) | omega) _) | (with_reducible refine Ext.trans ?_ (by assumption)))))).mono ?_); rintro e w2 ⟨rfl, hx⟩)
      go_wp2
      go_ret3
      exact ⟨_, _, by rw [HE.out]; rfl, by rw [HE.out]; exact World.ownsRow_nil _ _ _ _, by rw [HE.out]; exact World.ownsRow_nil _ _ _ _, ((by repeat' (first | (with_reducible exact Ext.refl _) | (with_reducible assumption) | (with_reducible refine Ext.alloc ?_ _) | (with_reducible refine Ext.drew ?_) | (with_reducible refine Ext.drewN ?_ _) | (with_reducible refine Ext.setCell ?_ (by first | exact Nat.le_refl _ | (simp; done) | (simp; omega) | omega) _) | (with_reducible refine Ext.trans ?_ (by assumption)))))⟩
  · have HE := Lib.hid (cashOf_arg (F := F) (C := C) (id := id) (t := t) (d := d) (.inl hck))
    have hne : (t.checked != 0) = true := by simpa using hck
    generalize cashOf F C id t d = R at *
    generalize t.checked = ck at *
    clear ht hin hRw hF hC hwf hn hlb
    unfold HT.val at *
    go_enter Try.func86, Try.ntmps86
    (go_wp2_with fail; (with_reducible refine (H1 _ ((by repeat' (first | (with_reducible exact Ext.refl _) | (with_reducible assumption) | (with_reducible refine Ext.alloc ?_ _) | (with_reducible refine Ext.drew ?_) | (with_reducible refine Ext.drewN ?_ _) | (with_reducible refine Ext.setCell ?_ (by first | exact Nat.le_refl _ | (simp; done) | (simp; omega) | omega) _) | (with_reducible refine Ext.trans ?_ (by assumption)))))).mono ?_); rintro e w2 ⟨rfl, hx⟩)
    go_wp2
    go_ret3
    exact ⟨_, _, by rw [HE.out]; rfl, by rw [HE.out]; exact World.ownsRow_nil _ _ _ _, by rw [HE.out]; exact World.ownsRow_nil _ _ _ _, ((by repeat' (first | (with_reducible exact Ext.refl _) | (with_reducible assumption) | (with_reducible refine Ext.alloc ?_ _) | (with_reducible refine Ext.drew ?_) | (with_reducible refine Ext.drewN ?_ _) | (with_reducible refine Ext.setCell ?_ (by first | exact Nat.le_refl _ | (simp; done) | (simp; omega) | omega) _) | (with_reducible refine Ext.trans ?_ (by assumption)))))⟩

end Go.Proofs.Ytgjjngkmbplijaa
