/- Package cash: both, scale, test, choice: from what into does with the parts. -/
import Derived.Test.YtgjjngkmbplijaaZC1

namespace Go.Proofs.Ytgjjngkmbplijaa
open Go.RowKit
set_option linter.unusedSimpArgs false
set_option linter.unusedVariables false

theorem walk_len (F : FixL) (C : ChL) (id : ByteArray) (t : Te) : ∀ (d k : Int) (st : CSt), (t.walk F C id d k st).2.1.length ≤ st.1.length + t.nodes ∧ (t.walk F C id d k st).2.2.length ≤ st.2.length + t.nodes := by
  induction t with
  | zero => intro d k st; simp only [Te.walk, Te.nodes]; omega
  | one s => intro d k st; simp only [Te.walk, Te.nodes, List.length_append, List.length_cons, List.length_nil]; omega
  | give t ih => intro d k st; have := ih d (-k) st; simp only [Te.walk, Te.nodes]; omega
  | and l r ihl ihr =>
    intro d k st
    have h1 := ihl d k st
    have h2 := ihr d k (l.walk F C id d k st).2
    simp only [Te.walk, Te.nodes]
    split <;> omega
  | or s l r ihl ihr =>
    intro d k st
    simp only [Te.walk, Te.nodes]
    split
    · simp only [List.length_append, List.length_cons, List.length_nil]; omega
    · rename_i p e _
      have h1 := ihl (Max.max d e) k st
      have h2 := ihr (Max.max d e) k st
      split <;> omega
  | scale o t ih =>
    intro d k st
    have h1 := ih d (mulS k (o.ofV F d).n).1 st
    have h2 := waitsFor_len st.2 d (o.needs F d)
    have h3 := o.needs_len F d
    simp only [Te.walk, Te.nodes]
    repeat' split
    all_goals first | omega | (simp only; omega)
  | whn e t ih => intro d k st; have := ih (Max.max d e) k st; simp only [Te.walk, Te.nodes]; omega
  | cond o l r ihl ihr =>
    intro d k st
    have h1 := ihl d k st
    have h0 := ihr d k st
    have h2 := waitsFor_len st.2 d (o.needs F d)
    have h3 := o.needs_len F d
    simp only [Te.walk, Te.nodes]
    repeat' split
    all_goals first | omega | (simp only; omega)
  | odd v => intro d k st; simp only [Te.walk, Te.nodes]; omega

/-- How much may stand in the rows ahead of so many parts. -/
def Room (st : CSt) (n : Nat) : Prop := st.1.length + n ≤ 2 ^ 33 ∧ st.2.length + n ≤ 2 ^ 33
/-- What into does with a contract, from whatever state of the walk. -/
def IntoH (base b p f c : Nat) (F : FixL) (C : ChL) (id : ByteArray) (t : Te) : Prop :=
  ∀ (w : World) (v1 v2 : Value) (st : CSt) (d k : Int), Wk base w b p f c F C id v1 v2 st → Vd k = true → Room st t.nodes →
    Calls Try.prog 120 #[.pointer (some ⟨b, 0, none⟩), t.val, .int .i64 d, .int .i64 k] w (RetW base w b p f c F C id v1 v2 (t.walk F C id d k st))

theorem and_e1 {F : FixL} {C : ChL} {id : ByteArray} {l r : Te} {d k : Int} {st : CSt} (h : (l.walk F C id d k st).1 ≠ 0) : (Te.and l r).walk F C id d k st = l.walk F C id d k st := by
  simp only [Te.walk]; rw [if_neg h]
theorem and_ok {F : FixL} {C : ChL} {id : ByteArray} {l r : Te} {d k : Int} {st : CSt} (h : (l.walk F C id d k st).1 = 0) : (Te.and l r).walk F C id d k st = r.walk F C id d k (l.walk F C id d k st).2 := by
  simp only [Te.walk]; rw [if_pos h]

set_option maxRecDepth 100000 in
set_option maxHeartbeats 800000 in
theorem cboth_calls (base b p f c : Nat) (F : FixL) (C : ChL) (id : ByteArray) (l r : Te) (Hl : IntoH base b p f c F C id l) (Hr : IntoH base b p f c F C id r) (w : World) (v1 v2 : Value) (st : CSt) (d k : Int) (h : Wk base w b p f c F C id v1 v2 st) (hk : Vd k = true) (hR : Room st (l.nodes + r.nodes)) :
    Calls Try.prog 143 #[.pointer (some ⟨b, 0, none⟩), l.val, r.val, .int .i64 d, .int .i64 k] w (RetW base w b p f c F C id v1 v2 ((Te.and l r).walk F C id d k st)) := by
  have H1 := Hl w v1 v2 st d k h hk ⟨by have := hR.1; omega, by have := hR.2; omega⟩
  by_cases h1 : (l.walk F C id d k st).1 = 0
  · have hl := walk_len F C id l d k st
    have H2 := fun w' u1 u2 hw => Hr w' u1 u2 (l.walk F C id d k st).2 d k hw hk ⟨by have := hR.1; omega, by have := hR.2; omega⟩
    have HE := Lib.hid (and_ok (r := r) h1)
    generalize (Te.and l r).walk F C id d k st = q at *
    generalize l.walk F C id d k st = q1 at *
    obtain ⟨q1e, q1s⟩ := q1
    obtain rfl : q1e = 0 := h1
    simp only at H2 HE H1
    generalize r.walk F C id d k q1s = q2 at *
    generalize l.val = lv at *
    generalize r.val = rv at *
    clear Hl Hr h hk hR
    go_enter Try.func143, Try.ntmps143
    (go_wp2_with fail; (with_reducible refine (H1).mono ?_); rintro e w' ⟨u1, u2, rfl, hw, hm⟩)
    (go_wp2_with fail; (with_reducible refine (H2 _ _ _ hw).mono ?_); rintro e w' ⟨t1, t2, rfl, hw2, hm2⟩)
    go_wp2
    go_ret
    exact ⟨t1, t2, by rw [HE.out]; rfl, by rw [HE.out]; exact hw2, hm.trans hm2⟩
  · have HE := Lib.hid (and_e1 (r := r) h1)
    have hne : ((l.walk F C id d k st).1 != 0) = true := by simpa using h1
    generalize (Te.and l r).walk F C id d k st = q at *
    generalize l.walk F C id d k st = q1 at *
    obtain ⟨q1e, q1s⟩ := q1
    generalize l.val = lv at *
    generalize r.val = rv at *
    clear Hl Hr h hk hR h1
    go_enter Try.func143, Try.ntmps143
    (go_wp2_with fail; (with_reducible refine (H1).mono ?_); rintro e w' ⟨u1, u2, rfl, hw, hm⟩)
    go_wp2
    go_ret
    exact ⟨u1, u2, by rw [HE.out]; rfl, by rw [HE.out]; exact hw, hm⟩

theorem box_kept {base : Nat} {w w1 : World} {b p f c : Nat} {F : FixL} {C : ChL} {id : ByteArray} {v1 v2 u1 u2 : Value} {st : CSt} {o : Obj} (h : Wk base w b p f c F C id v1 v2 st) (m : Moved (w.alloc o) w1 b v1 v2 u1 u2) : w1.heap[w.heap.size]? = some o := by
  have hb := (Array.getElem?_eq_some_iff.1 h.blk).1
  rw [m.block w.heap.size (by simp) (by omega) (fun e => by have := (h.fl.lt _ e).2; omega) (fun e => by have := (h.wa.lt _ e).2; omega), heap_new]
theorem Vd_mulS {a b : Int} (h : (mulS a b).2 = true) : Vd (mulS a b).1 = true := by
  unfold mulS at h ⊢
  split at h
  · rename_i hc
    rw [if_pos hc]
    exact hc.2.2
  · cases h
theorem numSt_e {o : Ob} {F : FixL} {d : Int} {st : CSt} (h : (o.ofV F d).e ≠ 0) : numSt o F d st = st := by unfold numSt; rw [if_neg (by simp [h])]
theorem numSt_is {o : Ob} {F : FixL} {d : Int} {st : CSt} (h : (o.ofV F d).is = true) : numSt o F d st = st := by unfold numSt; rw [if_neg (by simp [h])]
theorem numSt_no {o : Ob} {F : FixL} {d : Int} {st : CSt} (h : (o.ofV F d).e = 0) (h2 : (o.ofV F d).is = false) : numSt o F d st = (st.1, waitsFor st.2 d (o.needs F d)) := by unfold numSt; rw [if_pos ⟨h, h2⟩]
section
variable {F : FixL} {C : ChL} {id : ByteArray} {o : Ob} {t l r : Te} {d k : Int} {st : CSt}
theorem sc_e (h : (o.ofV F d).e ≠ 0) : (Te.scale o t).walk F C id d k st = ((o.ofV F d).e, st) := by simp only [Te.walk]; rw [if_pos h]
theorem sc_w (h : (o.ofV F d).e = 0) (h2 : (o.ofV F d).is = false) : (Te.scale o t).walk F C id d k st = (0, (st.1, waitsFor st.2 d (o.needs F d))) := by simp only [Te.walk]; rw [if_neg (by simp [h]), if_pos h2]
theorem sc_o (h : (o.ofV F d).e = 0) (h2 : (o.ofV F d).is = true) (h3 : (mulS k (o.ofV F d).n).2 = false) : (Te.scale o t).walk F C id d k st = (6, st) := by simp only [Te.walk]; rw [if_neg (by simp [h]), if_neg (by simp [h2]), if_pos h3]
theorem sc_z (h : (o.ofV F d).e = 0) (h2 : (o.ofV F d).is = true) (h3 : (mulS k (o.ofV F d).n).2 = true) (h4 : (mulS k (o.ofV F d).n).1 = 0) : (Te.scale o t).walk F C id d k st = (0, st) := by simp only [Te.walk]; rw [if_neg (by simp [h]), if_neg (by simp [h2]), if_neg (by simp [h3]), if_pos h4]
theorem sc_g (h : (o.ofV F d).e = 0) (h2 : (o.ofV F d).is = true) (h3 : (mulS k (o.ofV F d).n).2 = true) (h4 : (mulS k (o.ofV F d).n).1 ≠ 0) : (Te.scale o t).walk F C id d k st = t.walk F C id d (mulS k (o.ofV F d).n).1 st := by simp only [Te.walk]; rw [if_neg (by simp [h]), if_neg (by simp [h2]), if_neg (by simp [h3]), if_neg h4]
theorem cd_e (h : (o.ofV F d).e ≠ 0) : (Te.cond o l r).walk F C id d k st = ((o.ofV F d).e, st) := by simp only [Te.walk]; rw [if_pos h]
theorem cd_w (h : (o.ofV F d).e = 0) (h2 : (o.ofV F d).is = false) : (Te.cond o l r).walk F C id d k st = (0, (st.1, waitsFor st.2 d (o.needs F d))) := by simp only [Te.walk]; rw [if_neg (by simp [h]), if_pos h2]
theorem cd_l (h : (o.ofV F d).e = 0) (h2 : (o.ofV F d).is = true) (h3 : 0 < (o.ofV F d).n) : (Te.cond o l r).walk F C id d k st = l.walk F C id d k st := by simp only [Te.walk]; rw [if_neg (by simp [h]), if_neg (by simp [h2]), if_pos h3]
theorem cd_r (h : (o.ofV F d).e = 0) (h2 : (o.ofV F d).is = true) (h3 : ¬ 0 < (o.ofV F d).n) : (Te.cond o l r).walk F C id d k st = r.walk F C id d k st := by simp only [Te.walk]; rw [if_neg (by simp [h]), if_neg (by simp [h2]), if_neg h3]
end

set_option maxRecDepth 100000 in
set_option maxHeartbeats 6400000 in
theorem cscale_calls (base b p f c : Nat) (F : FixL) (C : ChL) (id : ByteArray) (o : Ob) (t : Te) (Ht : IntoH base b p f c F C id t) (ho : o.wf) (ht : t.wf) (hn : o.nodes ≤ 2 ^ 32) (w : World) (v1 v2 : Value) (st : CSt) (d k : Int) (h : Wk base w b p f c F C id v1 v2 st) (hk : Vd k = true) (hR : Room st (o.nodes + t.nodes)) :
    Calls Try.prog 144 #[.pointer (some ⟨b, 0, none⟩), .agg #[o.val, t.val], .int .i64 d, .int .i64 k] w (RetW base w b p f c F C id v1 v2 ((Te.scale o t).walk F C id d k st)) := by
  obtain ⟨R1, R2⟩ := hR
  have HN := fun w' (h' : Ext w w') => cnumber_calls base w' b p f c F C id v1 v2 st o d (h.ext h') ho hn (by omega)
  have hbx := fun (w1 : World) (u1 u2 : Value) (ob : Obj) (m : Moved (w.alloc ob) w1 b v1 v2 u1 u2) => box_kept h m
  have hb := (Array.getElem?_eq_some_iff.1 h.blk).1
  have hfo := Ob.form ho
  have hft := Te.form ht
  by_cases h1 : (o.ofV F d).e = 0
  · cases h2 : (o.ofV F d).is with
    | true =>
      rw [numSt_is h2] at HN
      have HM := fun w' => mul_calls k (o.ofV F d).n w'
      cases h3 : (mulS k (o.ofV F d).n).2 with
      | true =>
        have hvm := Vd_mulS h3
        by_cases h4 : (mulS k (o.ofV F d).n).1 = 0
        · have HE := Lib.hid (sc_z (F := F) (C := C) (id := id) (t := t) (st := st) h1 h2 h3 h4)
          generalize (Te.scale o t).walk F C id d k st = q at *
          generalize o.ofV F d = kn at *
          obtain ⟨n, i, e⟩ := kn
          obtain rfl : e = 0 := h1
          obtain rfl : i = true := h2
          simp only at h3 h4 hvm HM HN
          generalize mulS k n = m at *
          obtain ⟨m1, m2⟩ := m
          obtain rfl : m2 = true := h3
          obtain rfl : m1 = 0 := h4
          generalize o.val = ov at *
          generalize t.val = tv at *
          clear Ht ho ht hk R1 R2 h
          rcases hfo with rfl | ⟨t1, x1, rfl⟩ <;> rcases hft with rfl | ⟨t2, x2, rfl⟩
          all_goals
            go_enter Try.func144, Try.ntmps144
            (go_wp2_with fail; (with_reducible refine (HN _ ((by repeat' (first | (with_reducible exact Ext.refl _) | (with_reducible assumption) | (with_reducible refine Ext.alloc ?_ _) | (with_reducible refine Ext.drew ?_) | (with_reducible refine Ext.drewN ?_ _) | (with_reducible refine Ext.setCell ?_ (by first | exact Nat.le_refl _ | (simp; done) | (simp; omega) | omega) _) | (with_reducible refine Ext.trans ?_ (by assumption)))))).mono ?_); rintro e w' ⟨u1, u2, rfl, hw, hm⟩)
            obtain ⟨g1, g2, g3⟩ := obj_cells (hbx _ _ _ _ hm)
            have q0 := g1 0 _ rfl
            have q1 := g1 1 _ rfl
            clear g1
            (go_wp2_with fail; (with_reducible refine (HM _).mono ?_); rintro e w' ⟨rfl, rfl⟩; unfold retIB)
            go_wp2
            go_ret
            exact ⟨u1, u2, by rw [HE.out]; rfl, by rw [HE.out]; exact hw, (Moved.of_ext ((by repeat' (first | (with_reducible exact Ext.refl _) | (with_reducible assumption) | (with_reducible refine Ext.alloc ?_ _) | (with_reducible refine Ext.drew ?_) | (with_reducible refine Ext.drewN ?_ _) | (with_reducible refine Ext.setCell ?_ (by first | exact Nat.le_refl _ | (simp; done) | (simp; omega) | omega) _) | (with_reducible refine Ext.trans ?_ (by assumption))))) b _ _).trans hm⟩
        · have HE := Lib.hid (sc_g (F := F) (C := C) (id := id) (t := t) (st := st) h1 h2 h3 h4)
          have HT := fun w' u1 u2 hw => Ht w' u1 u2 st d _ hw hvm ⟨by omega, by omega⟩
          generalize t.walk F C id d (mulS k (o.ofV F d).n).1 st = q2 at *
          generalize (Te.scale o t).walk F C id d k st = q at *
          generalize o.ofV F d = kn at *
          obtain ⟨n, i, e⟩ := kn
          obtain rfl : e = 0 := h1
          obtain rfl : i = true := h2
          simp only at h3 h4 hvm HM HN HT HE
          generalize mulS k n = m at *
          obtain ⟨m1, m2⟩ := m
          obtain rfl : m2 = true := h3
          simp only at h4 HT
          have hz : (m1 == 0) = false := by simpa using h4
          generalize o.val = ov at *
          generalize t.val = tv at *
          clear Ht ho ht hk R1 R2 h
          rcases hfo with rfl | ⟨t1, x1, rfl⟩ <;> rcases hft with rfl | ⟨t2, x2, rfl⟩
          all_goals
            go_enter Try.func144, Try.ntmps144
            (go_wp2_with fail; (with_reducible refine (HN _ ((by repeat' (first | (with_reducible exact Ext.refl _) | (with_reducible assumption) | (with_reducible refine Ext.alloc ?_ _) | (with_reducible refine Ext.drew ?_) | (with_reducible refine Ext.drewN ?_ _) | (with_reducible refine Ext.setCell ?_ (by first | exact Nat.le_refl _ | (simp; done) | (simp; omega) | omega) _) | (with_reducible refine Ext.trans ?_ (by assumption)))))).mono ?_); rintro e w' ⟨u1, u2, rfl, hw, hm⟩)
            obtain ⟨g1, g2, g3⟩ := obj_cells (hbx _ _ _ _ hm)
            have q0 := g1 0 _ rfl
            have q1 := g1 1 _ rfl
            clear g1
            (go_wp2_with fail; (with_reducible refine (HM _).mono ?_); rintro e w' ⟨rfl, rfl⟩; unfold retIB)
            (go_wp2_with fail; (with_reducible refine (HT _ _ _ hw).mono ?_); rintro e w' ⟨t1, t2, rfl, hw2, hm2⟩)
            go_wp2
            go_ret
            exact ⟨t1, t2, by rw [HE.out]; rfl, by rw [HE.out]; exact hw2, ((Moved.of_ext ((by repeat' (first | (with_reducible exact Ext.refl _) | (with_reducible assumption) | (with_reducible refine Ext.alloc ?_ _) | (with_reducible refine Ext.drew ?_) | (with_reducible refine Ext.drewN ?_ _) | (with_reducible refine Ext.setCell ?_ (by first | exact Nat.le_refl _ | (simp; done) | (simp; omega) | omega) _) | (with_reducible refine Ext.trans ?_ (by assumption))))) b _ _).trans hm).trans hm2⟩
      | false =>
        have HE := Lib.hid (sc_o (F := F) (C := C) (id := id) (t := t) (st := st) h1 h2 h3)
        generalize (Te.scale o t).walk F C id d k st = q at *
        generalize o.ofV F d = kn at *
        obtain ⟨n, i, e⟩ := kn
        obtain rfl : e = 0 := h1
        obtain rfl : i = true := h2
        simp only at h3 HM HN
        generalize mulS k n = m at *
        obtain ⟨m1, m2⟩ := m
        obtain rfl : m2 = false := h3
        generalize o.val = ov at *
        generalize t.val = tv at *
        clear Ht ho ht hk R1 R2 h
        rcases hfo with rfl | ⟨t1, x1, rfl⟩ <;> rcases hft with rfl | ⟨t2, x2, rfl⟩
        all_goals
          go_enter Try.func144, Try.ntmps144
          (go_wp2_with fail; (with_reducible refine (HN _ ((by repeat' (first | (with_reducible exact Ext.refl _) | (with_reducible assumption) | (with_reducible refine Ext.alloc ?_ _) | (with_reducible refine Ext.drew ?_) | (with_reducible refine Ext.drewN ?_ _) | (with_reducible refine Ext.setCell ?_ (by first | exact Nat.le_refl _ | (simp; done) | (simp; omega) | omega) _) | (with_reducible refine Ext.trans ?_ (by assumption)))))).mono ?_); rintro e w' ⟨u1, u2, rfl, hw, hm⟩)
          obtain ⟨g1, g2, g3⟩ := obj_cells (hbx _ _ _ _ hm)
          have q0 := g1 0 _ rfl
          have q1 := g1 1 _ rfl
          clear g1
          (go_wp2_with fail; (with_reducible refine (HM _).mono ?_); rintro e w' ⟨rfl, rfl⟩; unfold retIB)
          go_wp2
          go_ret
          exact ⟨u1, u2, by rw [HE.out]; rfl, by rw [HE.out]; exact hw, (Moved.of_ext ((by repeat' (first | (with_reducible exact Ext.refl _) | (with_reducible assumption) | (with_reducible refine Ext.alloc ?_ _) | (with_reducible refine Ext.drew ?_) | (with_reducible refine Ext.drewN ?_ _) | (with_reducible refine Ext.setCell ?_ (by first | exact Nat.le_refl _ | (simp; done) | (simp; omega) | omega) _) | (with_reducible refine Ext.trans ?_ (by assumption))))) b _ _).trans hm⟩
    | false =>
      have HE := Lib.hid (sc_w (F := F) (C := C) (id := id) (t := t) (k := k) (st := st) h1 h2)
      rw [numSt_no h1 h2] at HN
      generalize o.needs F d = N at *
      generalize (Te.scale o t).walk F C id d k st = q at *
      generalize o.ofV F d = kn at *
      obtain ⟨n, i, e⟩ := kn
      obtain rfl : e = 0 := h1
      obtain rfl : i = false := h2
      generalize o.val = ov at *
      generalize t.val = tv at *
      clear Ht ho ht hk R1 R2 h
      rcases hfo with rfl | ⟨t1, x1, rfl⟩ <;> rcases hft with rfl | ⟨t2, x2, rfl⟩
      all_goals
        go_enter Try.func144, Try.ntmps144
        (go_wp2_with fail; (with_reducible refine (HN _ ((by repeat' (first | (with_reducible exact Ext.refl _) | (with_reducible assumption) | (with_reducible refine Ext.alloc ?_ _) | (with_reducible refine Ext.drew ?_) | (with_reducible refine Ext.drewN ?_ _) | (with_reducible refine Ext.setCell ?_ (by first | exact Nat.le_refl _ | (simp; done) | (simp; omega) | omega) _) | (with_reducible refine Ext.trans ?_ (by assumption)))))).mono ?_); rintro e w' ⟨u1, u2, rfl, hw, hm⟩)
        obtain ⟨g1, g2, g3⟩ := obj_cells (hbx _ _ _ _ hm)
        have q0 := g1 0 _ rfl
        have q1 := g1 1 _ rfl
        clear g1
        go_wp2
        go_ret
        exact ⟨u1, u2, by rw [HE.out]; rfl, by rw [HE.out]; exact hw, (Moved.of_ext ((by repeat' (first | (with_reducible exact Ext.refl _) | (with_reducible assumption) | (with_reducible refine Ext.alloc ?_ _) | (with_reducible refine Ext.drew ?_) | (with_reducible refine Ext.drewN ?_ _) | (with_reducible refine Ext.setCell ?_ (by first | exact Nat.le_refl _ | (simp; done) | (simp; omega) | omega) _) | (with_reducible refine Ext.trans ?_ (by assumption))))) b _ _).trans hm⟩
  · have HE := Lib.hid (sc_e (F := F) (C := C) (id := id) (t := t) (k := k) (st := st) h1)
    rw [numSt_e h1] at HN
    have hne : ((o.ofV F d).e != 0) = true := by simpa using h1
    generalize (Te.scale o t).walk F C id d k st = q at *
    generalize o.ofV F d = kn at *
    obtain ⟨n, i, e⟩ := kn
    simp only at h1 hne HN
    generalize o.val = ov at *
    generalize t.val = tv at *
    clear Ht ho ht hk R1 R2 h
    rcases hfo with rfl | ⟨t1, x1, rfl⟩ <;> rcases hft with rfl | ⟨t2, x2, rfl⟩
    all_goals
      go_enter Try.func144, Try.ntmps144
      (go_wp2_with fail; (with_reducible refine (HN _ ((by repeat' (first | (with_reducible exact Ext.refl _) | (with_reducible assumption) | (with_reducible refine Ext.alloc ?_ _) | (with_reducible refine Ext.drew ?_) | (with_reducible refine Ext.drewN ?_ _) | (with_reducible refine Ext.setCell ?_ (by first | exact Nat.le_refl _ | (simp; done) | (simp; omega) | omega) _) | (with_reducible refine Ext.trans ?_ (by assumption)))))).mono ?_); rintro e w' ⟨u1, u2, rfl, hw, hm⟩)
      obtain ⟨g1, g2, g3⟩ := obj_cells (hbx _ _ _ _ hm)
      have q0 := g1 0 _ rfl
      have q1 := g1 1 _ rfl
      clear g1
      go_wp2
      go_ret
      exact ⟨u1, u2, by rw [HE.out]; rfl, by rw [HE.out]; exact hw, (Moved.of_ext ((by repeat' (first | (with_reducible exact Ext.refl _) | (with_reducible assumption) | (with_reducible refine Ext.alloc ?_ _) | (with_reducible refine Ext.drew ?_) | (with_reducible refine Ext.drewN ?_ _) | (with_reducible refine Ext.setCell ?_ (by first | exact Nat.le_refl _ | (simp; done) | (simp; omega) | omega) _) | (with_reducible refine Ext.trans ?_ (by assumption))))) b _ _).trans hm⟩

set_option maxRecDepth 100000 in
set_option maxHeartbeats 6400000 in
theorem ctest_calls (base b p f c : Nat) (F : FixL) (C : ChL) (id : ByteArray) (o : Ob) (l r : Te) (Hl : IntoH base b p f c F C id l) (Hr : IntoH base b p f c F C id r) (ho : o.wf) (hl : l.wf) (hr : r.wf) (hn : o.nodes ≤ 2 ^ 32) (w : World) (v1 v2 : Value) (st : CSt) (d k : Int) (h : Wk base w b p f c F C id v1 v2 st) (hk : Vd k = true) (hR : Room st (o.nodes + (l.nodes + r.nodes))) :
    Calls Try.prog 145 #[.pointer (some ⟨b, 0, none⟩), .agg #[o.val, l.val, r.val], .int .i64 d, .int .i64 k] w (RetW base w b p f c F C id v1 v2 ((Te.cond o l r).walk F C id d k st)) := by
  obtain ⟨R1, R2⟩ := hR
  have HN := fun w' (h' : Ext w w') => cnumber_calls base w' b p f c F C id v1 v2 st o d (h.ext h') ho hn (by omega)
  have hbx := fun (w1 : World) (u1 u2 : Value) (ob : Obj) (m : Moved (w.alloc ob) w1 b v1 v2 u1 u2) => box_kept h m
  have hb := (Array.getElem?_eq_some_iff.1 h.blk).1
  have hfo := Ob.form ho
  have hfl := Te.form hl
  have hfr := Te.form hr
  by_cases h1 : (o.ofV F d).e = 0
  · cases h2 : (o.ofV F d).is with
    | true =>
      rw [numSt_is h2] at HN
      by_cases h3 : 0 < (o.ofV F d).n
      · have HE := Lib.hid (cd_l (F := F) (C := C) (id := id) (l := l) (r := r) (k := k) (st := st) h1 h2 h3)
        have HT := fun w' u1 u2 hw => Hl w' u1 u2 st d k hw hk ⟨by omega, by omega⟩
        generalize l.walk F C id d k st = q2 at *
        generalize (Te.cond o l r).walk F C id d k st = q at *
        generalize o.ofV F d = kn at *
        obtain ⟨n, i, e⟩ := kn
        obtain rfl : e = 0 := h1
        obtain rfl : i = true := h2
        simp only at h3 HN HE
        generalize o.val = ov at *
        generalize l.val = lv at *
        generalize r.val = rv at *
        clear Hl Hr ho hl hr hk R1 R2 h
        rcases hfo with rfl | ⟨t1, x1, rfl⟩ <;> rcases hfl with rfl | ⟨t2, x2, rfl⟩ <;> rcases hfr with rfl | ⟨t3, x3, rfl⟩
        all_goals
          go_enter Try.func145, Try.ntmps145
          (go_wp2_with fail; (with_reducible refine (HN _ ((by repeat' (first | (with_reducible exact Ext.refl _) | (with_reducible assumption) | (with_reducible refine Ext.alloc ?_ _) | (with_reducible refine Ext.drew ?_) | (with_reducible refine Ext.drewN ?_ _) | (with_reducible refine Ext.setCell ?_ (by first | exact Nat.le_refl _ | (simp; done) | (simp; omega) | omega) _) | (with_reducible refine Ext.trans ?_ (by assumption)))))).mono ?_); rintro e w' ⟨u1, u2, rfl, hw, hm⟩)
          obtain ⟨g1, g2, g3⟩ := obj_cells (hbx _ _ _ _ hm)
          have q0 := g1 0 _ rfl
          have q1 := g1 1 _ rfl
          have q2 := g1 2 _ rfl
          clear g1
          (go_wp2_with fail; (with_reducible refine (HT _ _ _ hw).mono ?_); rintro e w' ⟨t1, t2, rfl, hw2, hm2⟩)
          go_wp2
          go_ret
          exact ⟨t1, t2, by rw [HE.out]; rfl, by rw [HE.out]; exact hw2, ((Moved.of_ext ((by repeat' (first | (with_reducible exact Ext.refl _) | (with_reducible assumption) | (with_reducible refine Ext.alloc ?_ _) | (with_reducible refine Ext.drew ?_) | (with_reducible refine Ext.drewN ?_ _) | (with_reducible refine Ext.setCell ?_ (by first | exact Nat.le_refl _ | (simp; done) | (simp; omega) | omega) _) | (with_reducible refine Ext.trans ?_ (by assumption))))) b _ _).trans hm).trans hm2⟩
      · have HE := Lib.hid (cd_r (F := F) (C := C) (id := id) (l := l) (r := r) (k := k) (st := st) h1 h2 h3)
        have HT := fun w' u1 u2 hw => Hr w' u1 u2 st d k hw hk ⟨by omega, by omega⟩
        generalize r.walk F C id d k st = q2 at *
        generalize (Te.cond o l r).walk F C id d k st = q at *
        generalize o.ofV F d = kn at *
        obtain ⟨n, i, e⟩ := kn
        obtain rfl : e = 0 := h1
        obtain rfl : i = true := h2
        simp only at h3 HN HE
        generalize o.val = ov at *
        generalize l.val = lv at *
        generalize r.val = rv at *
        clear Hl Hr ho hl hr hk R1 R2 h
        rcases hfo with rfl | ⟨t1, x1, rfl⟩ <;> rcases hfl with rfl | ⟨t2, x2, rfl⟩ <;> rcases hfr with rfl | ⟨t3, x3, rfl⟩
        all_goals
          go_enter Try.func145, Try.ntmps145
          (go_wp2_with fail; (with_reducible refine (HN _ ((by repeat' (first | (with_reducible exact Ext.refl _) | (with_reducible assumption) | (with_reducible refine Ext.alloc ?_ _) | (with_reducible refine Ext.drew ?_) | (with_reducible refine Ext.drewN ?_ _) | (with_reducible refine Ext.setCell ?_ (by first | exact Nat.le_refl _ | (simp; done) | (simp; omega) | omega) _) | (with_reducible refine Ext.trans ?_ (by assumption)))))).mono ?_); rintro e w' ⟨u1, u2, rfl, hw, hm⟩)
          obtain ⟨g1, g2, g3⟩ := obj_cells (hbx _ _ _ _ hm)
          have q0 := g1 0 _ rfl
          have q1 := g1 1 _ rfl
          have q2 := g1 2 _ rfl
          clear g1
          (go_wp2_with fail; (with_reducible refine (HT _ _ _ hw).mono ?_); rintro e w' ⟨t1, t2, rfl, hw2, hm2⟩)
          go_wp2
          go_ret
          exact ⟨t1, t2, by rw [HE.out]; rfl, by rw [HE.out]; exact hw2, ((Moved.of_ext ((by repeat' (first | (with_reducible exact Ext.refl _) | (with_reducible assumption) | (with_reducible refine Ext.alloc ?_ _) | (with_reducible refine Ext.drew ?_) | (with_reducible refine Ext.drewN ?_ _) | (with_reducible refine Ext.setCell ?_ (by first | exact Nat.le_refl _ | (simp; done) | (simp; omega) | omega) _) | (with_reducible refine Ext.trans ?_ (by assumption))))) b _ _).trans hm).trans hm2⟩
    | false =>
      have HE := Lib.hid (cd_w (F := F) (C := C) (id := id) (l := l) (r := r) (k := k) (st := st) h1 h2)
      rw [numSt_no h1 h2] at HN
      generalize o.needs F d = N at *
      generalize (Te.cond o l r).walk F C id d k st = q at *
      generalize o.ofV F d = kn at *
      obtain ⟨n, i, e⟩ := kn
      obtain rfl : e = 0 := h1
      obtain rfl : i = false := h2
      generalize o.val = ov at *
      generalize l.val = lv at *
      generalize r.val = rv at *
      clear Hl Hr ho hl hr hk R1 R2 h
      rcases hfo with rfl | ⟨t1, x1, rfl⟩ <;> rcases hfl with rfl | ⟨t2, x2, rfl⟩ <;> rcases hfr with rfl | ⟨t3, x3, rfl⟩
      all_goals
        go_enter Try.func145, Try.ntmps145
        (go_wp2_with fail; (with_reducible refine (HN _ ((by repeat' (first | (with_reducible exact Ext.refl _) | (with_reducible assumption) | (with_reducible refine Ext.alloc ?_ _) | (with_reducible refine Ext.drew ?_) | (with_reducible refine Ext.drewN ?_ _) | (with_reducible refine Ext.setCell ?_ (by first | exact Nat.le_refl _ | (simp; done) | (simp; omega) | omega) _) | (with_reducible refine Ext.trans ?_ (by assumption)))))).mono ?_); rintro e w' ⟨u1, u2, rfl, hw, hm⟩)
        obtain ⟨g1, g2, g3⟩ := obj_cells (hbx _ _ _ _ hm)
        have q0 := g1 0 _ rfl
        have q1 := g1 1 _ rfl
        have q2 := g1 2 _ rfl
        clear g1
        go_wp2
        go_ret
        exact ⟨u1, u2, by rw [HE.out]; rfl, by rw [HE.out]; exact hw, (Moved.of_ext ((by repeat' (first | (with_reducible exact Ext.refl _) | (with_reducible assumption) | (with_reducible refine Ext.alloc ?_ _) | (with_reducible refine Ext.drew ?_) | (with_reducible refine Ext.drewN ?_ _) | (with_reducible refine Ext.setCell ?_ (by first | exact Nat.le_refl _ | (simp; done) | (simp; omega) | omega) _) | (with_reducible refine Ext.trans ?_ (by assumption))))) b _ _).trans hm⟩
  · have HE := Lib.hid (cd_e (F := F) (C := C) (id := id) (l := l) (r := r) (k := k) (st := st) h1)
    rw [numSt_e h1] at HN
    have hne : ((o.ofV F d).e != 0) = true := by simpa using h1
    generalize (Te.cond o l r).walk F C id d k st = q at *
    generalize o.ofV F d = kn at *
    obtain ⟨n, i, e⟩ := kn
    simp only at h1 hne HN
    generalize o.val = ov at *
    generalize l.val = lv at *
    generalize r.val = rv at *
    clear Hl Hr ho hl hr hk R1 R2 h
    rcases hfo with rfl | ⟨t1, x1, rfl⟩ <;> rcases hfl with rfl | ⟨t2, x2, rfl⟩ <;> rcases hfr with rfl | ⟨t3, x3, rfl⟩
    all_goals
      go_enter Try.func145, Try.ntmps145
      (go_wp2_with fail; (with_reducible refine (HN _ ((by repeat' (first | (with_reducible exact Ext.refl _) | (with_reducible assumption) | (with_reducible refine Ext.alloc ?_ _) | (with_reducible refine Ext.drew ?_) | (with_reducible refine Ext.drewN ?_ _) | (with_reducible refine Ext.setCell ?_ (by first | exact Nat.le_refl _ | (simp; done) | (simp; omega) | omega) _) | (with_reducible refine Ext.trans ?_ (by assumption)))))).mono ?_); rintro e w' ⟨u1, u2, rfl, hw, hm⟩)
      obtain ⟨g1, g2, g3⟩ := obj_cells (hbx _ _ _ _ hm)
      have q0 := g1 0 _ rfl
      have q1 := g1 1 _ rfl
      have q2 := g1 2 _ rfl
      clear g1
      go_wp2
      go_ret
      exact ⟨u1, u2, by rw [HE.out]; rfl, by rw [HE.out]; exact hw, (Moved.of_ext ((by repeat' (first | (with_reducible exact Ext.refl _) | (with_reducible assumption) | (with_reducible refine Ext.alloc ?_ _) | (with_reducible refine Ext.drew ?_) | (with_reducible refine Ext.drewN ?_ _) | (with_reducible refine Ext.setCell ?_ (by first | exact Nat.le_refl _ | (simp; done) | (simp; omega) | omega) _) | (with_reducible refine Ext.trans ?_ (by assumption))))) b _ _).trans hm⟩

end Go.Proofs.Ytgjjngkmbplijaa
