/- Texts put together: RVal, RNeeds. -/
import Derived.Test.YtgjjngkmbplijaaZRw
import Derived.Test.YtgjjngkmbplijaaYVL1
import Derived.Test.YtgjjngkmbplijaaZRf
import Derived.Test.YtgjjngkmbplijaaYRef5
import Derived.Test.YtgjjngkmbplijaaZVa
/- The document's answer: what a number is (ref04.Value), on its tree. Printed by wip/src/mkrval.py. -/
namespace Go.Proofs.Ytgjjngkmbplijaa
open Go.RowKit
set_option linter.unusedSimpArgs false
set_option linter.unusedVariables false

theorem Vd_neg3 {k : Int} (h : Vd k = true) : Vd (-k) = true := by rw [Vd_iff] at *; omega
theorem told_vd {p : Int × Bool} (h : Vd p.1 = true) : Vd (toldK p).n = true := by
  unfold toldK; split
  · exact h
  · exact (by decide : Vd 0 = true)
theorem pair_vd {put : Int → Int → Int × Bool} {a b : Kn} (h : Vd (put a.n b.n).1 = true) : Vd (pairK put a b).n = true := by
  unfold pairK; split
  · exact (by decide : Vd 0 = true)
  split
  · exact (by decide : Vd 0 = true)
  · exact told_vd h
theorem addS_vd (a b : Int) : Vd (addS a b).1 = true := by unfold addS; split; rename_i h; exact h.2.2; decide
theorem mulS_vd (a b : Int) : Vd (mulS a b).1 = true := by unfold mulS; split; rename_i h; exact h.2.2; decide
/-- What is known of a right number is an amount. -/
theorem Ob.value_vd {F : FixL} {d : Int} (hF : ∀ x ∈ F, Vd x.2 = true) : (o : Ob) → o.formed = true → Vd (o.value F d).n = true
  | .const n, h => h
  | .fix s, h => by
    simp only [Ob.value]
    cases e : F.lookup (s, d) with
    | none => decide
    | some x =>
      have : ∀ (l : FixL), (∀ y ∈ l, Vd y.2 = true) → l.lookup (s, d) = some x → Vd x = true := by
        intro l
        induction l with
        | nil => intro _ h; cases h
        | cons y r ih =>
          intro hl hy
          obtain ⟨k, z⟩ := y
          rw [List.lookup_cons] at hy
          split at hy
          · injection hy with hy; subst hy; exact hl _ (List.mem_cons_self ..)
          · exact ih (fun y hy => hl y (List.mem_cons_of_mem _ hy)) hy
      exact this F hF e
  | .add l r, h => pair_vd (addS_vd _ _)
  | .mul l r, h => pair_vd (mulS_vd _ _)
  | .max l r, h => by
    simp only [Ob.formed, Bool.and_eq_true] at h
    have h1 := l.value_vd (d := d) hF h.1
    have h2 := r.value_vd (d := d) hF h.2
    refine pair_vd ?_
    show Vd (Max.max _ _) = true
    rw [Vd_iff] at *
    omega
  | .neg o, h => by
    simp only [Ob.formed] at h
    have h1 := o.value_vd (d := d) hF h
    simp only [Ob.value]
    unfold negK
    split
    · exact (by decide : Vd 0 = true)
    · refine told_vd ?_
      unfold negS
      rw [if_pos h1]
      exact Vd_neg3 h1
  | .odd _, h => by simp [Ob.formed] at h
/-- The document's answer on a number's tree. -/
def RvAt (base p : Nat) (v1 v2 : Value) (F : FixL) (C : ChL) (d : Int) (o : Ob) : Prop := ∀ (h : HT) (q : Nat → Prop) (w : World), h.tr = o.tr → h.In q w → RWld base w p v1 v2 F C →
  Calls Try.prog 70 #[h.val, .int .i64 d, .pointer (some ⟨p, 0, none⟩)] w fun e w' => RetKn3 w (o.value F d) e w'
section
variable {base p : Nat} {v1 v2 : Value} {F : FixL} {C : ChL} {d : Int}
set_option maxRecDepth 100000 in
set_option maxHeartbeats 800000 in
theorem rval_const (n : Int) : RvAt base p v1 v2 F C d (.const n) := by
  intro h q w ht hin hW
  obtain ⟨h1, h2, h3, h4⟩ := HT.tr_inv ht
  unfold HT.val
  rw [h1, h2, h3]
  simp only [Ob.value]
  clear h1 h2 h3 h4 hin hW ht
  go_enter Try.func70, Try.ntmps70
  go_wp2
  go_ret3
  exact ⟨rfl, (by repeat' (first | (with_reducible exact Ext.refl _) | (with_reducible assumption) | (with_reducible refine Ext.alloc ?_ _) | (with_reducible refine Ext.drew ?_) | (with_reducible refine Ext.drewN ?_ _) | (with_reducible refine Ext.setCell ?_ (by first | exact Nat.le_refl _ | (simp; done) | (simp; omega) | omega) _) | (with_reducible refine Ext.trans ?_ (by assumption))))⟩
set_option maxRecDepth 100000 in
set_option maxHeartbeats 800000 in
theorem rval_fix (hl : F.length ≤ 2 ^ 33) (s : ByteArray) : RvAt base p v1 v2 F C d (.fix s) := by
  intro h q w ht hin hW
  obtain ⟨h1, h2, h3, h4⟩ := HT.tr_inv ht
  have HA := fun W (hE : Ext w W) => rfixed_calls base W p v1 v2 F C s d (hW.ext hE) hl
  unfold HT.val
  rw [h1, h2, h3]
  simp only [Ob.value]
  generalize (F.lookup (s, d)).getD 0 = z at *
  generalize (F.lookup (s, d)).isSome = ok at *
  clear h1 h2 h3 h4 hin hW ht
  go_enter Try.func70, Try.ntmps70
  (go_wp2_with fail; (with_reducible refine (HA _ ((by repeat' (first | (with_reducible exact Ext.refl _) | (with_reducible assumption) | (with_reducible refine Ext.alloc ?_ _) | (with_reducible refine Ext.drew ?_) | (with_reducible refine Ext.drewN ?_ _) | (with_reducible refine Ext.setCell ?_ (by first | exact Nat.le_refl _ | (simp; done) | (simp; omega) | omega) _) | (with_reducible refine Ext.trans ?_ (by assumption)))))).mono ?_); rintro e w' ⟨rfl, hx4⟩)
  go_wp2
  go_ret3
  exact ⟨rfl, (by repeat' (first | (with_reducible exact Ext.refl _) | (with_reducible assumption) | (with_reducible refine Ext.alloc ?_ _) | (with_reducible refine Ext.drew ?_) | (with_reducible refine Ext.drewN ?_ _) | (with_reducible refine Ext.setCell ?_ (by first | exact Nat.le_refl _ | (simp; done) | (simp; omega) | omega) _) | (with_reducible refine Ext.trans ?_ (by assumption))))⟩
set_option maxRecDepth 100000 in
set_option maxHeartbeats 1600000 in
theorem rval_neg (o : Ob) (hv : Vd (o.value F d).n = true) (H1 : RvAt base p v1 v2 F C d o) : RvAt base p v1 v2 F C d (.neg o) := by
  intro h q w ht hin hW
  obtain ⟨h1, h2, h3, h4⟩ := HT.tr_inv ht
  obtain ⟨x, hk, hx⟩ := map_one h4
  obtain ⟨g, x', ha, hg, hx', hin1, c0, c1, c2, c3⟩ := hin.at (i := 0) (by rw [hk]; simp)
  rw [hk] at hx'
  obtain rfl : x = x' := by simpa using hx'
  have HA := fun W (hE : Ext w W) => H1 x q W hx (hin1.ext hE) (hW.ext hE)
  unfold HT.val at *
  rw [h1, h2, h3, ha, hk]
  simp only [List.length_cons, List.length_nil]
  have hgw := World.block_lt_of_cell? w _ c0
  have ta := o.value_tri (F := F) (d := d)
  rw [show (Ob.neg o).value F d = negK (o.value F d) from rfl]
  clear h1 h2 h3 h4 hin hW ht hk hx hx' hin1 ha hg H1
  generalize o.value F d = a at *
  generalize x.kd = k0 at *
  generalize x.s = k1 at *
  generalize x.n = k2 at *
  generalize x.a = k3 at *
  generalize x.k.length = k4 at *
  generalize x.c = k5 at *
  simp only [Nat.zero_mul, Nat.zero_add] at c0 c1 c2 c3 hgw
  have tn : (∃ n, a = ⟨n, true, 0⟩ ∧ negK a = ⟨-n, true, 0⟩ ∧ -1000000000000 ≤ n ∧ n ≤ 1000000000000) ∨ (a = ⟨0, false, 0⟩ ∧ negK a = ⟨0, false, 0⟩) ∨ (a = ⟨0, false, 6⟩ ∧ negK a = ⟨0, false, 6⟩) := by
    rcases ta with ⟨n, rfl⟩ | rfl | rfl
    · have hv2 := (Vd_iff n).1 hv
      exact .inl ⟨n, rfl, by rw [negK_ok rfl rfl]; simp only [negS]; rw [if_pos hv]; rfl, hv2.1, hv2.2⟩
    · exact .inr (.inl ⟨rfl, rfl⟩)
    · exact .inr (.inr ⟨rfl, rfl⟩)
  clear ta hv
  rcases tn with ⟨n, rfl, e, n1, n2⟩ | ⟨rfl, e⟩ | ⟨rfl, e⟩
  all_goals
    rw [e]
    clear e
    go_enter Try.func70, Try.ntmps70
    (go_wp2_with fail; (with_reducible refine (HA _ ((by repeat' (first | (with_reducible exact Ext.refl _) | (with_reducible assumption) | (with_reducible refine Ext.alloc ?_ _) | (with_reducible refine Ext.drew ?_) | (with_reducible refine Ext.drewN ?_ _) | (with_reducible refine Ext.setCell ?_ (by first | exact Nat.le_refl _ | (simp; done) | (simp; omega) | omega) _) | (with_reducible refine Ext.trans ?_ (by assumption)))))).mono ?_); rintro e w' ⟨rfl, hx4⟩)
    obtain ⟨d0, df, dl⟩ := obj_cells (hx4.lit (heap_new w _))
    have e0 := d0 0 _ rfl
    have e3 := d0 3 _ rfl
    have hW4 := Lib.hid (show Ext w w' from ((by repeat' (first | (with_reducible exact Ext.refl _) | (with_reducible assumption) | (with_reducible refine Ext.alloc ?_ _) | (with_reducible refine Ext.drew ?_) | (with_reducible refine Ext.drewN ?_ _) | (with_reducible refine Ext.setCell ?_ (by first | exact Nat.le_refl _ | (simp; done) | (simp; omega) | omega) _) | (with_reducible refine Ext.trans ?_ (by assumption))))))
    clear HA
  · have hn1 : -9223372036854775808 ≤ -n := by omega
    have hn2 : -n ≤ 9223372036854775807 := by omega
    have hwr := IntKind.wrap_i64 (-n)
    rw [show (-n + 9223372036854775808) % 18446744073709551616 - 9223372036854775808 = -n by omega] at hwr
    go_wp2
    go_ret3
    exact ⟨by first | rfl | (simp only [hwr]), hW4.out⟩
  · go_wp2
    go_ret3
    exact ⟨rfl, hW4.out⟩
  · go_wp2
    go_ret3
    exact ⟨rfl, hW4.out⟩
set_option maxRecDepth 100000 in
set_option maxHeartbeats 3200000 in
theorem rval_add (l r : Ob) (H1 : RvAt base p v1 v2 F C d l) (H2 : RvAt base p v1 v2 F C d r) : RvAt base p v1 v2 F C d (.add l r) := by
  intro h q w ht hin hW
  obtain ⟨h1, h2, h3, h4⟩ := HT.tr_inv ht
  obtain ⟨x, y, hk, hx, hy⟩ := map_two h4
  obtain ⟨g, x', ha, hg, hx', hin1, c0, c1, c2, c3⟩ := hin.at (i := 0) (by rw [hk]; simp)
  obtain ⟨g', y', ha', _, hy', hin2, c4, c5, c6, c7⟩ := hin.at (i := 1) (by rw [hk]; simp)
  rw [hk] at hx' hy'
  obtain rfl : x = x' := by simpa using hx'
  obtain rfl : y = y' := by simpa using hy'
  obtain rfl : g = g' := by rw [ha] at ha'; injection ha' with e; injection e
  have HA := fun W (hE : Ext w W) => H1 x q W hx (hin1.ext hE) (hW.ext hE)
  have HB := fun W (hE : Ext w W) => H2 y q W hy (hin2.ext hE) (hW.ext hE)
  unfold HT.val at *
  rw [h1, h2, h3, ha, hk]
  simp only [List.length_cons, List.length_nil]
  have hgw := World.block_lt_of_cell? w _ c0
  have ta := l.value_tri (F := F) (d := d)
  have tb := r.value_tri (F := F) (d := d)
  rw [show (Ob.add l r).value F d = pairK addS (l.value F d) (r.value F d) from rfl]
  clear h1 h2 h3 h4 hin hW ht hk hx hx' hin1 hy hy' hin2 ha ha' hg H1 H2
  generalize l.value F d = a at *
  generalize r.value F d = b at *
  generalize x.kd = k0 at *
  generalize x.s = k1 at *
  generalize x.n = k2 at *
  generalize x.a = k3 at *
  generalize x.k.length = k4 at *
  generalize x.c = k5 at *
  generalize y.kd = m0 at *
  generalize y.s = m1 at *
  generalize y.n = m2 at *
  generalize y.a = m3 at *
  generalize y.k.length = m4 at *
  generalize y.c = m5 at *
  generalize h.c = hc at *
  simp only [Nat.zero_mul, Nat.one_mul, Nat.zero_add, Nat.reduceAdd] at c0 c1 c2 c3 c4 c5 c6 c7 hgw
  rcases ta with ⟨n, rfl⟩ | rfl | rfl
  · rcases tb with ⟨m, rfl⟩ | rfl | rfl
    · rw [pairK_ok rfl rfl rfl rfl]
      obtain ⟨z, ok, hz⟩ : ∃ z ok, addS n m = (z, ok) := ⟨_, _, rfl⟩
      have HP := fun W => radd_calls n m W
      rw [hz] at HP
      simp only [hz]
      clear hz
      rcases (by omega : m ≤ n ∨ ¬ m ≤ n) with hmn | hmn <;> cases ok
      all_goals
        go_enter Try.func70, Try.ntmps70
        (go_wp2_with fail; (with_reducible refine (HA _ ((by repeat' (first | (with_reducible exact Ext.refl _) | (with_reducible assumption) | (with_reducible refine Ext.alloc ?_ _) | (with_reducible refine Ext.drew ?_) | (with_reducible refine Ext.drewN ?_ _) | (with_reducible refine Ext.setCell ?_ (by first | exact Nat.le_refl _ | (simp; done) | (simp; omega) | omega) _) | (with_reducible refine Ext.trans ?_ (by assumption)))))).mono ?_); rintro e w' ⟨rfl, hx4⟩)
        obtain ⟨d0, df, dl⟩ := obj_cells (hx4.lit (heap_new w _))
        have e0 := d0 0 _ rfl
        have e3 := d0 3 _ rfl
        have hE4 : Ext w w' := ((by repeat' (first | (with_reducible exact Ext.refl _) | (with_reducible assumption) | (with_reducible refine Ext.alloc ?_ _) | (with_reducible refine Ext.drew ?_) | (with_reducible refine Ext.drewN ?_ _) | (with_reducible refine Ext.setCell ?_ (by first | exact Nat.le_refl _ | (simp; done) | (simp; omega) | omega) _) | (with_reducible refine Ext.trans ?_ (by assumption)))))
        have c4 := hE4.cell c4
        have c5 := hE4.cell c5
        have c6 := hE4.cell c6
        have c7 := hE4.cell c7
        (go_wp2_with fail; (with_reducible refine (HB _ ((by repeat' (first | (with_reducible exact Ext.refl _) | (with_reducible assumption) | (with_reducible refine Ext.alloc ?_ _) | (with_reducible refine Ext.drew ?_) | (with_reducible refine Ext.drewN ?_ _) | (with_reducible refine Ext.setCell ?_ (by first | exact Nat.le_refl _ | (simp; done) | (simp; omega) | omega) _) | (with_reducible refine Ext.trans ?_ (by assumption)))))).mono ?_); rintro e w' ⟨rfl, hx5⟩)
        have e0 := hx5.cell e0
        have hW5 := Lib.hid (hE4.trans hx5)
        clear HA HB hE4 hx4 hx5 d0 df dl
        unfold retIB at HP
        (go_wp2_with fail; (with_reducible refine (HP _).mono ?_); rintro e w' ⟨rfl, rfl⟩)
        go_wp2
        go_ret3
        exact ⟨rfl, hW5.out⟩
    · rw [show pairK addS ⟨n, true, 0⟩ ⟨0, false, 0⟩ = ⟨0, false, 0⟩ from rfl]
      go_enter Try.func70, Try.ntmps70
      (go_wp2_with fail; (with_reducible refine (HA _ ((by repeat' (first | (with_reducible exact Ext.refl _) | (with_reducible assumption) | (with_reducible refine Ext.alloc ?_ _) | (with_reducible refine Ext.drew ?_) | (with_reducible refine Ext.drewN ?_ _) | (with_reducible refine Ext.setCell ?_ (by first | exact Nat.le_refl _ | (simp; done) | (simp; omega) | omega) _) | (with_reducible refine Ext.trans ?_ (by assumption)))))).mono ?_); rintro e w' ⟨rfl, hx4⟩)
      obtain ⟨d0, df, dl⟩ := obj_cells (hx4.lit (heap_new w _))
      have e0 := d0 0 _ rfl
      have e3 := d0 3 _ rfl
      have hE4 : Ext w w' := ((by repeat' (first | (with_reducible exact Ext.refl _) | (with_reducible assumption) | (with_reducible refine Ext.alloc ?_ _) | (with_reducible refine Ext.drew ?_) | (with_reducible refine Ext.drewN ?_ _) | (with_reducible refine Ext.setCell ?_ (by first | exact Nat.le_refl _ | (simp; done) | (simp; omega) | omega) _) | (with_reducible refine Ext.trans ?_ (by assumption)))))
      have c4 := hE4.cell c4
      have c5 := hE4.cell c5
      have c6 := hE4.cell c6
      have c7 := hE4.cell c7
      (go_wp2_with fail; (with_reducible refine (HB _ ((by repeat' (first | (with_reducible exact Ext.refl _) | (with_reducible assumption) | (with_reducible refine Ext.alloc ?_ _) | (with_reducible refine Ext.drew ?_) | (with_reducible refine Ext.drewN ?_ _) | (with_reducible refine Ext.setCell ?_ (by first | exact Nat.le_refl _ | (simp; done) | (simp; omega) | omega) _) | (with_reducible refine Ext.trans ?_ (by assumption)))))).mono ?_); rintro e w' ⟨rfl, hx5⟩)
      have e0 := hx5.cell e0
      have hW5 := Lib.hid (hE4.trans hx5)
      clear HA HB hE4 hx4 hx5 d0 df dl
      go_wp2
      go_ret3
      exact ⟨rfl, hW5.out⟩
    · rw [show pairK addS ⟨n, true, 0⟩ ⟨0, false, 6⟩ = ⟨0, false, 6⟩ from rfl]
      go_enter Try.func70, Try.ntmps70
      (go_wp2_with fail; (with_reducible refine (HA _ ((by repeat' (first | (with_reducible exact Ext.refl _) | (with_reducible assumption) | (with_reducible refine Ext.alloc ?_ _) | (with_reducible refine Ext.drew ?_) | (with_reducible refine Ext.drewN ?_ _) | (with_reducible refine Ext.setCell ?_ (by first | exact Nat.le_refl _ | (simp; done) | (simp; omega) | omega) _) | (with_reducible refine Ext.trans ?_ (by assumption)))))).mono ?_); rintro e w' ⟨rfl, hx4⟩)
      obtain ⟨d0, df, dl⟩ := obj_cells (hx4.lit (heap_new w _))
      have e0 := d0 0 _ rfl
      have e3 := d0 3 _ rfl
      have hE4 : Ext w w' := ((by repeat' (first | (with_reducible exact Ext.refl _) | (with_reducible assumption) | (with_reducible refine Ext.alloc ?_ _) | (with_reducible refine Ext.drew ?_) | (with_reducible refine Ext.drewN ?_ _) | (with_reducible refine Ext.setCell ?_ (by first | exact Nat.le_refl _ | (simp; done) | (simp; omega) | omega) _) | (with_reducible refine Ext.trans ?_ (by assumption)))))
      have c4 := hE4.cell c4
      have c5 := hE4.cell c5
      have c6 := hE4.cell c6
      have c7 := hE4.cell c7
      (go_wp2_with fail; (with_reducible refine (HB _ ((by repeat' (first | (with_reducible exact Ext.refl _) | (with_reducible assumption) | (with_reducible refine Ext.alloc ?_ _) | (with_reducible refine Ext.drew ?_) | (with_reducible refine Ext.drewN ?_ _) | (with_reducible refine Ext.setCell ?_ (by first | exact Nat.le_refl _ | (simp; done) | (simp; omega) | omega) _) | (with_reducible refine Ext.trans ?_ (by assumption)))))).mono ?_); rintro e w' ⟨rfl, hx5⟩)
      have e0 := hx5.cell e0
      have hW5 := Lib.hid (hE4.trans hx5)
      clear HA HB hE4 hx4 hx5 d0 df dl
      go_wp2
      go_ret3
      exact ⟨rfl, hW5.out⟩
  · rcases tb with ⟨m, rfl⟩ | rfl | rfl
    · rw [show pairK addS ⟨0, false, 0⟩ ⟨m, true, 0⟩ = ⟨0, false, 0⟩ from rfl]
      go_enter Try.func70, Try.ntmps70
      (go_wp2_with fail; (with_reducible refine (HA _ ((by repeat' (first | (with_reducible exact Ext.refl _) | (with_reducible assumption) | (with_reducible refine Ext.alloc ?_ _) | (with_reducible refine Ext.drew ?_) | (with_reducible refine Ext.drewN ?_ _) | (with_reducible refine Ext.setCell ?_ (by first | exact Nat.le_refl _ | (simp; done) | (simp; omega) | omega) _) | (with_reducible refine Ext.trans ?_ (by assumption)))))).mono ?_); rintro e w' ⟨rfl, hx4⟩)
      obtain ⟨d0, df, dl⟩ := obj_cells (hx4.lit (heap_new w _))
      have e0 := d0 0 _ rfl
      have e3 := d0 3 _ rfl
      have hE4 : Ext w w' := ((by repeat' (first | (with_reducible exact Ext.refl _) | (with_reducible assumption) | (with_reducible refine Ext.alloc ?_ _) | (with_reducible refine Ext.drew ?_) | (with_reducible refine Ext.drewN ?_ _) | (with_reducible refine Ext.setCell ?_ (by first | exact Nat.le_refl _ | (simp; done) | (simp; omega) | omega) _) | (with_reducible refine Ext.trans ?_ (by assumption)))))
      have c4 := hE4.cell c4
      have c5 := hE4.cell c5
      have c6 := hE4.cell c6
      have c7 := hE4.cell c7
      (go_wp2_with fail; (with_reducible refine (HB _ ((by repeat' (first | (with_reducible exact Ext.refl _) | (with_reducible assumption) | (with_reducible refine Ext.alloc ?_ _) | (with_reducible refine Ext.drew ?_) | (with_reducible refine Ext.drewN ?_ _) | (with_reducible refine Ext.setCell ?_ (by first | exact Nat.le_refl _ | (simp; done) | (simp; omega) | omega) _) | (with_reducible refine Ext.trans ?_ (by assumption)))))).mono ?_); rintro e w' ⟨rfl, hx5⟩)
      have e0 := hx5.cell e0
      have hW5 := Lib.hid (hE4.trans hx5)
      clear HA HB hE4 hx4 hx5 d0 df dl
      go_wp2
      go_ret3
      exact ⟨rfl, hW5.out⟩
    · rw [show pairK addS ⟨0, false, 0⟩ ⟨0, false, 0⟩ = ⟨0, false, 0⟩ from rfl]
      go_enter Try.func70, Try.ntmps70
      (go_wp2_with fail; (with_reducible refine (HA _ ((by repeat' (first | (with_reducible exact Ext.refl _) | (with_reducible assumption) | (with_reducible refine Ext.alloc ?_ _) | (with_reducible refine Ext.drew ?_) | (with_reducible refine Ext.drewN ?_ _) | (with_reducible refine Ext.setCell ?_ (by first | exact Nat.le_refl _ | (simp; done) | (simp; omega) | omega) _) | (with_reducible refine Ext.trans ?_ (by assumption)))))).mono ?_); rintro e w' ⟨rfl, hx4⟩)
      obtain ⟨d0, df, dl⟩ := obj_cells (hx4.lit (heap_new w _))
      have e0 := d0 0 _ rfl
      have e3 := d0 3 _ rfl
      have hE4 : Ext w w' := ((by repeat' (first | (with_reducible exact Ext.refl _) | (with_reducible assumption) | (with_reducible refine Ext.alloc ?_ _) | (with_reducible refine Ext.drew ?_) | (with_reducible refine Ext.drewN ?_ _) | (with_reducible refine Ext.setCell ?_ (by first | exact Nat.le_refl _ | (simp; done) | (simp; omega) | omega) _) | (with_reducible refine Ext.trans ?_ (by assumption)))))
      have c4 := hE4.cell c4
      have c5 := hE4.cell c5
      have c6 := hE4.cell c6
      have c7 := hE4.cell c7
      (go_wp2_with fail; (with_reducible refine (HB _ ((by repeat' (first | (with_reducible exact Ext.refl _) | (with_reducible assumption) | (with_reducible refine Ext.alloc ?_ _) | (with_reducible refine Ext.drew ?_) | (with_reducible refine Ext.drewN ?_ _) | (with_reducible refine Ext.setCell ?_ (by first | exact Nat.le_refl _ | (simp; done) | (simp; omega) | omega) _) | (with_reducible refine Ext.trans ?_ (by assumption)))))).mono ?_); rintro e w' ⟨rfl, hx5⟩)
      have e0 := hx5.cell e0
      have hW5 := Lib.hid (hE4.trans hx5)
      clear HA HB hE4 hx4 hx5 d0 df dl
      go_wp2
      go_ret3
      exact ⟨rfl, hW5.out⟩
    · rw [show pairK addS ⟨0, false, 0⟩ ⟨0, false, 6⟩ = ⟨0, false, 6⟩ from rfl]
      go_enter Try.func70, Try.ntmps70
      (go_wp2_with fail; (with_reducible refine (HA _ ((by repeat' (first | (with_reducible exact Ext.refl _) | (with_reducible assumption) | (with_reducible refine Ext.alloc ?_ _) | (with_reducible refine Ext.drew ?_) | (with_reducible refine Ext.drewN ?_ _) | (with_reducible refine Ext.setCell ?_ (by first | exact Nat.le_refl _ | (simp; done) | (simp; omega) | omega) _) | (with_reducible refine Ext.trans ?_ (by assumption)))))).mono ?_); rintro e w' ⟨rfl, hx4⟩)
      obtain ⟨d0, df, dl⟩ := obj_cells (hx4.lit (heap_new w _))
      have e0 := d0 0 _ rfl
      have e3 := d0 3 _ rfl
      have hE4 : Ext w w' := ((by repeat' (first | (with_reducible exact Ext.refl _) | (with_reducible assumption) | (with_reducible refine Ext.alloc ?_ _) | (with_reducible refine Ext.drew ?_) | (with_reducible refine Ext.drewN ?_ _) | (with_reducible refine Ext.setCell ?_ (by first | exact Nat.le_refl _ | (simp; done) | (simp; omega) | omega) _) | (with_reducible refine Ext.trans ?_ (by assumption)))))
      have c4 := hE4.cell c4
      have c5 := hE4.cell c5
      have c6 := hE4.cell c6
      have c7 := hE4.cell c7
      (go_wp2_with fail; (with_reducible refine (HB _ ((by repeat' (first | (with_reducible exact Ext.refl _) | (with_reducible assumption) | (with_reducible refine Ext.alloc ?_ _) | (with_reducible refine Ext.drew ?_) | (with_reducible refine Ext.drewN ?_ _) | (with_reducible refine Ext.setCell ?_ (by first | exact Nat.le_refl _ | (simp; done) | (simp; omega) | omega) _) | (with_reducible refine Ext.trans ?_ (by assumption)))))).mono ?_); rintro e w' ⟨rfl, hx5⟩)
      have e0 := hx5.cell e0
      have hW5 := Lib.hid (hE4.trans hx5)
      clear HA HB hE4 hx4 hx5 d0 df dl
      go_wp2
      go_ret3
      exact ⟨rfl, hW5.out⟩
  · rw [show pairK addS ⟨0, false, 6⟩ b = ⟨0, false, 6⟩ from rfl]
    go_enter Try.func70, Try.ntmps70
    (go_wp2_with fail; (with_reducible refine (HA _ ((by repeat' (first | (with_reducible exact Ext.refl _) | (with_reducible assumption) | (with_reducible refine Ext.alloc ?_ _) | (with_reducible refine Ext.drew ?_) | (with_reducible refine Ext.drewN ?_ _) | (with_reducible refine Ext.setCell ?_ (by first | exact Nat.le_refl _ | (simp; done) | (simp; omega) | omega) _) | (with_reducible refine Ext.trans ?_ (by assumption)))))).mono ?_); rintro e w' ⟨rfl, hx4⟩)
    obtain ⟨d0, df, dl⟩ := obj_cells (hx4.lit (heap_new w _))
    have e0 := d0 0 _ rfl
    have e3 := d0 3 _ rfl
    have hE4 : Ext w w' := ((by repeat' (first | (with_reducible exact Ext.refl _) | (with_reducible assumption) | (with_reducible refine Ext.alloc ?_ _) | (with_reducible refine Ext.drew ?_) | (with_reducible refine Ext.drewN ?_ _) | (with_reducible refine Ext.setCell ?_ (by first | exact Nat.le_refl _ | (simp; done) | (simp; omega) | omega) _) | (with_reducible refine Ext.trans ?_ (by assumption)))))
    have hW5 := Lib.hid hE4
    clear HA HB
    go_wp2
    go_ret3
    exact ⟨rfl, hW5.out⟩
set_option maxRecDepth 100000 in
set_option maxHeartbeats 3200000 in
theorem rval_mul (l r : Ob) (H1 : RvAt base p v1 v2 F C d l) (H2 : RvAt base p v1 v2 F C d r) : RvAt base p v1 v2 F C d (.mul l r) := by
  intro h q w ht hin hW
  obtain ⟨h1, h2, h3, h4⟩ := HT.tr_inv ht
  obtain ⟨x, y, hk, hx, hy⟩ := map_two h4
  obtain ⟨g, x', ha, hg, hx', hin1, c0, c1, c2, c3⟩ := hin.at (i := 0) (by rw [hk]; simp)
  obtain ⟨g', y', ha', _, hy', hin2, c4, c5, c6, c7⟩ := hin.at (i := 1) (by rw [hk]; simp)
  rw [hk] at hx' hy'
  obtain rfl : x = x' := by simpa using hx'
  obtain rfl : y = y' := by simpa using hy'
  obtain rfl : g = g' := by rw [ha] at ha'; injection ha' with e; injection e
  have HA := fun W (hE : Ext w W) => H1 x q W hx (hin1.ext hE) (hW.ext hE)
  have HB := fun W (hE : Ext w W) => H2 y q W hy (hin2.ext hE) (hW.ext hE)
  unfold HT.val at *
  rw [h1, h2, h3, ha, hk]
  simp only [List.length_cons, List.length_nil]
  have hgw := World.block_lt_of_cell? w _ c0
  have ta := l.value_tri (F := F) (d := d)
  have tb := r.value_tri (F := F) (d := d)
  rw [show (Ob.mul l r).value F d = pairK mulS (l.value F d) (r.value F d) from rfl]
  clear h1 h2 h3 h4 hin hW ht hk hx hx' hin1 hy hy' hin2 ha ha' hg H1 H2
  generalize l.value F d = a at *
  generalize r.value F d = b at *
  generalize x.kd = k0 at *
  generalize x.s = k1 at *
  generalize x.n = k2 at *
  generalize x.a = k3 at *
  generalize x.k.length = k4 at *
  generalize x.c = k5 at *
  generalize y.kd = m0 at *
  generalize y.s = m1 at *
  generalize y.n = m2 at *
  generalize y.a = m3 at *
  generalize y.k.length = m4 at *
  generalize y.c = m5 at *
  generalize h.c = hc at *
  simp only [Nat.zero_mul, Nat.one_mul, Nat.zero_add, Nat.reduceAdd] at c0 c1 c2 c3 c4 c5 c6 c7 hgw
  rcases ta with ⟨n, rfl⟩ | rfl | rfl
  · rcases tb with ⟨m, rfl⟩ | rfl | rfl
    · rw [pairK_ok rfl rfl rfl rfl]
      obtain ⟨z, ok, hz⟩ : ∃ z ok, mulS n m = (z, ok) := ⟨_, _, rfl⟩
      have HP := fun W => rmul_calls n m W
      rw [hz] at HP
      simp only [hz]
      clear hz
      rcases (by omega : m ≤ n ∨ ¬ m ≤ n) with hmn | hmn <;> cases ok
      all_goals
        go_enter Try.func70, Try.ntmps70
        (go_wp2_with fail; (with_reducible refine (HA _ ((by repeat' (first | (with_reducible exact Ext.refl _) | (with_reducible assumption) | (with_reducible refine Ext.alloc ?_ _) | (with_reducible refine Ext.drew ?_) | (with_reducible refine Ext.drewN ?_ _) | (with_reducible refine Ext.setCell ?_ (by first | exact Nat.le_refl _ | (simp; done) | (simp; omega) | omega) _) | (with_reducible refine Ext.trans ?_ (by assumption)))))).mono ?_); rintro e w' ⟨rfl, hx4⟩)
        obtain ⟨d0, df, dl⟩ := obj_cells (hx4.lit (heap_new w _))
        have e0 := d0 0 _ rfl
        have e3 := d0 3 _ rfl
        have hE4 : Ext w w' := ((by repeat' (first | (with_reducible exact Ext.refl _) | (with_reducible assumption) | (with_reducible refine Ext.alloc ?_ _) | (with_reducible refine Ext.drew ?_) | (with_reducible refine Ext.drewN ?_ _) | (with_reducible refine Ext.setCell ?_ (by first | exact Nat.le_refl _ | (simp; done) | (simp; omega) | omega) _) | (with_reducible refine Ext.trans ?_ (by assumption)))))
        have c4 := hE4.cell c4
        have c5 := hE4.cell c5
        have c6 := hE4.cell c6
        have c7 := hE4.cell c7
        (go_wp2_with fail; (with_reducible refine (HB _ ((by repeat' (first | (with_reducible exact Ext.refl _) | (with_reducible assumption) | (with_reducible refine Ext.alloc ?_ _) | (with_reducible refine Ext.drew ?_) | (with_reducible refine Ext.drewN ?_ _) | (with_reducible refine Ext.setCell ?_ (by first | exact Nat.le_refl _ | (simp; done) | (simp; omega) | omega) _) | (with_reducible refine Ext.trans ?_ (by assumption)))))).mono ?_); rintro e w' ⟨rfl, hx5⟩)
        have e0 := hx5.cell e0
        have hW5 := Lib.hid (hE4.trans hx5)
        clear HA HB hE4 hx4 hx5 d0 df dl
        unfold retIB at HP
        (go_wp2_with fail; (with_reducible refine (HP _).mono ?_); rintro e w' ⟨rfl, rfl⟩)
        go_wp2
        go_ret3
        exact ⟨rfl, hW5.out⟩
    · rw [show pairK mulS ⟨n, true, 0⟩ ⟨0, false, 0⟩ = ⟨0, false, 0⟩ from rfl]
      go_enter Try.func70, Try.ntmps70
      (go_wp2_with fail; (with_reducible refine (HA _ ((by repeat' (first | (with_reducible exact Ext.refl _) | (with_reducible assumption) | (with_reducible refine Ext.alloc ?_ _) | (with_reducible refine Ext.drew ?_) | (with_reducible refine Ext.drewN ?_ _) | (with_reducible refine Ext.setCell ?_ (by first | exact Nat.le_refl _ | (simp; done) | (simp; omega) | omega) _) | (with_reducible refine Ext.trans ?_ (by assumption)))))).mono ?_); rintro e w' ⟨rfl, hx4⟩)
      obtain ⟨d0, df, dl⟩ := obj_cells (hx4.lit (heap_new w _))
      have e0 := d0 0 _ rfl
      have e3 := d0 3 _ rfl
      have hE4 : Ext w w' := ((by repeat' (first | (with_reducible exact Ext.refl _) | (with_reducible assumption) | (with_reducible refine Ext.alloc ?_ _) | (with_reducible refine Ext.drew ?_) | (with_reducible refine Ext.drewN ?_ _) | (with_reducible refine Ext.setCell ?_ (by first | exact Nat.le_refl _ | (simp; done) | (simp; omega) | omega) _) | (with_reducible refine Ext.trans ?_ (by assumption)))))
      have c4 := hE4.cell c4
      have c5 := hE4.cell c5
      have c6 := hE4.cell c6
      have c7 := hE4.cell c7
      (go_wp2_with fail; (with_reducible refine (HB _ ((by repeat' (first | (with_reducible exact Ext.refl _) | (with_reducible assumption) | (with_reducible refine Ext.alloc ?_ _) | (with_reducible refine Ext.drew ?_) | (with_reducible refine Ext.drewN ?_ _) | (with_reducible refine Ext.setCell ?_ (by first | exact Nat.le_refl _ | (simp; done) | (simp; omega) | omega) _) | (with_reducible refine Ext.trans ?_ (by assumption)))))).mono ?_); rintro e w' ⟨rfl, hx5⟩)
      have e0 := hx5.cell e0
      have hW5 := Lib.hid (hE4.trans hx5)
      clear HA HB hE4 hx4 hx5 d0 df dl
      go_wp2
      go_ret3
      exact ⟨rfl, hW5.out⟩
    · rw [show pairK mulS ⟨n, true, 0⟩ ⟨0, false, 6⟩ = ⟨0, false, 6⟩ from rfl]
      go_enter Try.func70, Try.ntmps70
      (go_wp2_with fail; (with_reducible refine (HA _ ((by repeat' (first | (with_reducible exact Ext.refl _) | (with_reducible assumption) | (with_reducible refine Ext.alloc ?_ _) | (with_reducible refine Ext.drew ?_) | (with_reducible refine Ext.drewN ?_ _) | (with_reducible refine Ext.setCell ?_ (by first | exact Nat.le_refl _ | (simp; done) | (simp; omega) | omega) _) | (with_reducible refine Ext.trans ?_ (by assumption)))))).mono ?_); rintro e w' ⟨rfl, hx4⟩)
      obtain ⟨d0, df, dl⟩ := obj_cells (hx4.lit (heap_new w _))
      have e0 := d0 0 _ rfl
      have e3 := d0 3 _ rfl
      have hE4 : Ext w w' := ((by repeat' (first | (with_reducible exact Ext.refl _) | (with_reducible assumption) | (with_reducible refine Ext.alloc ?_ _) | (with_reducible refine Ext.drew ?_) | (with_reducible refine Ext.drewN ?_ _) | (with_reducible refine Ext.setCell ?_ (by first | exact Nat.le_refl _ | (simp; done) | (simp; omega) | omega) _) | (with_reducible refine Ext.trans ?_ (by assumption)))))
      have c4 := hE4.cell c4
      have c5 := hE4.cell c5
      have c6 := hE4.cell c6
      have c7 := hE4.cell c7
      (go_wp2_with fail; (with_reducible refine (HB _ ((by repeat' (first | (with_reducible exact Ext.refl _) | (with_reducible assumption) | (with_reducible refine Ext.alloc ?_ _) | (with_reducible refine Ext.drew ?_) | (with_reducible refine Ext.drewN ?_ _) | (with_reducible refine Ext.setCell ?_ (by first | exact Nat.le_refl _ | (simp; done) | (simp; omega) | omega) _) | (with_reducible refine Ext.trans ?_ (by assumption)))))).mono ?_); rintro e w' ⟨rfl, hx5⟩)
      have e0 := hx5.cell e0
      have hW5 := Lib.hid (hE4.trans hx5)
      clear HA HB hE4 hx4 hx5 d0 df dl
      go_wp2
      go_ret3
      exact ⟨rfl, hW5.out⟩
  · rcases tb with ⟨m, rfl⟩ | rfl | rfl
    · rw [show pairK mulS ⟨0, false, 0⟩ ⟨m, true, 0⟩ = ⟨0, false, 0⟩ from rfl]
      go_enter Try.func70, Try.ntmps70
      (go_wp2_with fail; (with_reducible refine (HA _ ((by repeat' (first | (with_reducible exact Ext.refl _) | (with_reducible assumption) | (with_reducible refine Ext.alloc ?_ _) | (with_reducible refine Ext.drew ?_) | (with_reducible refine Ext.drewN ?_ _) | (with_reducible refine Ext.setCell ?_ (by first | exact Nat.le_refl _ | (simp; done) | (simp; omega) | omega) _) | (with_reducible refine Ext.trans ?_ (by assumption)))))).mono ?_); rintro e w' ⟨rfl, hx4⟩)
      obtain ⟨d0, df, dl⟩ := obj_cells (hx4.lit (heap_new w _))
      have e0 := d0 0 _ rfl
      have e3 := d0 3 _ rfl
      have hE4 : Ext w w' := ((by repeat' (first | (with_reducible exact Ext.refl _) | (with_reducible assumption) | (with_reducible refine Ext.alloc ?_ _) | (with_reducible refine Ext.drew ?_) | (with_reducible refine Ext.drewN ?_ _) | (with_reducible refine Ext.setCell ?_ (by first | exact Nat.le_refl _ | (simp; done) | (simp; omega) | omega) _) | (with_reducible refine Ext.trans ?_ (by assumption)))))
      have c4 := hE4.cell c4
      have c5 := hE4.cell c5
      have c6 := hE4.cell c6
      have c7 := hE4.cell c7
      (go_wp2_with fail; (with_reducible refine (HB _ ((by repeat' (first | (with_reducible exact Ext.refl _) | (with_reducible assumption) | (with_reducible refine Ext.alloc ?_ _) | (with_reducible refine Ext.drew ?_) | (with_reducible refine Ext.drewN ?_ _) | (with_reducible refine Ext.setCell ?_ (by first | exact Nat.le_refl _ | (simp; done) | (simp; omega) | omega) _) | (with_reducible refine Ext.trans ?_ (by assumption)))))).mono ?_); rintro e w' ⟨rfl, hx5⟩)
      have e0 := hx5.cell e0
      have hW5 := Lib.hid (hE4.trans hx5)
      clear HA HB hE4 hx4 hx5 d0 df dl
      go_wp2
      go_ret3
      exact ⟨rfl, hW5.out⟩
    · rw [show pairK mulS ⟨0, false, 0⟩ ⟨0, false, 0⟩ = ⟨0, false, 0⟩ from rfl]
      go_enter Try.func70, Try.ntmps70
      (go_wp2_with fail; (with_reducible refine (HA _ ((by repeat' (first | (with_reducible exact Ext.refl _) | (with_reducible assumption) | (with_reducible refine Ext.alloc ?_ _) | (with_reducible refine Ext.drew ?_) | (with_reducible refine Ext.drewN ?_ _) | (with_reducible refine Ext.setCell ?_ (by first | exact Nat.le_refl _ | (simp; done) | (simp; omega) | omega) _) | (with_reducible refine Ext.trans ?_ (by assumption)))))).mono ?_); rintro e w' ⟨rfl, hx4⟩)
      obtain ⟨d0, df, dl⟩ := obj_cells (hx4.lit (heap_new w _))
      have e0 := d0 0 _ rfl
      have e3 := d0 3 _ rfl
      have hE4 : Ext w w' := ((by repeat' (first | (with_reducible exact Ext.refl _) | (with_reducible assumption) | (with_reducible refine Ext.alloc ?_ _) | (with_reducible refine Ext.drew ?_) | (with_reducible refine Ext.drewN ?_ _) | (with_reducible refine Ext.setCell ?_ (by first | exact Nat.le_refl _ | (simp; done) | (simp; omega) | omega) _) | (with_reducible refine Ext.trans ?_ (by assumption)))))
      have c4 := hE4.cell c4
      have c5 := hE4.cell c5
      have c6 := hE4.cell c6
      have c7 := hE4.cell c7
      (go_wp2_with fail; (with_reducible refine (HB _ ((by repeat' (first | (with_reducible exact Ext.refl _) | (with_reducible assumption) | (with_reducible refine Ext.alloc ?_ _) | (with_reducible refine Ext.drew ?_) | (with_reducible refine Ext.drewN ?_ _) | (with_reducible refine Ext.setCell ?_ (by first | exact Nat.le_refl _ | (simp; done) | (simp; omega) | omega) _) | (with_reducible refine Ext.trans ?_ (by assumption)))))).mono ?_); rintro e w' ⟨rfl, hx5⟩)
      have e0 := hx5.cell e0
      have hW5 := Lib.hid (hE4.trans hx5)
      clear HA HB hE4 hx4 hx5 d0 df dl
      go_wp2
      go_ret3
      exact ⟨rfl, hW5.out⟩
    · rw [show pairK mulS ⟨0, false, 0⟩ ⟨0, false, 6⟩ = ⟨0, false, 6⟩ from rfl]
      go_enter Try.func70, Try.ntmps70
      (go_wp2_with fail; (with_reducible refine (HA _ ((by repeat' (first | (with_reducible exact Ext.refl _) | (with_reducible assumption) | (with_reducible refine Ext.alloc ?_ _) | (with_reducible refine Ext.drew ?_) | (with_reducible refine Ext.drewN ?_ _) | (with_reducible refine Ext.setCell ?_ (by first | exact Nat.le_refl _ | (simp; done) | (simp; omega) | omega) _) | (with_reducible refine Ext.trans ?_ (by assumption)))))).mono ?_); rintro e w' ⟨rfl, hx4⟩)
      obtain ⟨d0, df, dl⟩ := obj_cells (hx4.lit (heap_new w _))
      have e0 := d0 0 _ rfl
      have e3 := d0 3 _ rfl
      have hE4 : Ext w w' := ((by repeat' (first | (with_reducible exact Ext.refl _) | (with_reducible assumption) | (with_reducible refine Ext.alloc ?_ _) | (with_reducible refine Ext.drew ?_) | (with_reducible refine Ext.drewN ?_ _) | (with_reducible refine Ext.setCell ?_ (by first | exact Nat.le_refl _ | (simp; done) | (simp; omega) | omega) _) | (with_reducible refine Ext.trans ?_ (by assumption)))))
      have c4 := hE4.cell c4
      have c5 := hE4.cell c5
      have c6 := hE4.cell c6
      have c7 := hE4.cell c7
      (go_wp2_with fail; (with_reducible refine (HB _ ((by repeat' (first | (with_reducible exact Ext.refl _) | (with_reducible assumption) | (with_reducible refine Ext.alloc ?_ _) | (with_reducible refine Ext.drew ?_) | (with_reducible refine Ext.drewN ?_ _) | (with_reducible refine Ext.setCell ?_ (by first | exact Nat.le_refl _ | (simp; done) | (simp; omega) | omega) _) | (with_reducible refine Ext.trans ?_ (by assumption)))))).mono ?_); rintro e w' ⟨rfl, hx5⟩)
      have e0 := hx5.cell e0
      have hW5 := Lib.hid (hE4.trans hx5)
      clear HA HB hE4 hx4 hx5 d0 df dl
      go_wp2
      go_ret3
      exact ⟨rfl, hW5.out⟩
  · rw [show pairK mulS ⟨0, false, 6⟩ b = ⟨0, false, 6⟩ from rfl]
    go_enter Try.func70, Try.ntmps70
    (go_wp2_with fail; (with_reducible refine (HA _ ((by repeat' (first | (with_reducible exact Ext.refl _) | (with_reducible assumption) | (with_reducible refine Ext.alloc ?_ _) | (with_reducible refine Ext.drew ?_) | (with_reducible refine Ext.drewN ?_ _) | (with_reducible refine Ext.setCell ?_ (by first | exact Nat.le_refl _ | (simp; done) | (simp; omega) | omega) _) | (with_reducible refine Ext.trans ?_ (by assumption)))))).mono ?_); rintro e w' ⟨rfl, hx4⟩)
    obtain ⟨d0, df, dl⟩ := obj_cells (hx4.lit (heap_new w _))
    have e0 := d0 0 _ rfl
    have e3 := d0 3 _ rfl
    have hE4 : Ext w w' := ((by repeat' (first | (with_reducible exact Ext.refl _) | (with_reducible assumption) | (with_reducible refine Ext.alloc ?_ _) | (with_reducible refine Ext.drew ?_) | (with_reducible refine Ext.drewN ?_ _) | (with_reducible refine Ext.setCell ?_ (by first | exact Nat.le_refl _ | (simp; done) | (simp; omega) | omega) _) | (with_reducible refine Ext.trans ?_ (by assumption)))))
    have hW5 := Lib.hid hE4
    clear HA HB
    go_wp2
    go_ret3
    exact ⟨rfl, hW5.out⟩
set_option maxRecDepth 100000 in
set_option maxHeartbeats 3200000 in
theorem rval_max (l r : Ob) (H1 : RvAt base p v1 v2 F C d l) (H2 : RvAt base p v1 v2 F C d r) : RvAt base p v1 v2 F C d (.max l r) := by
  intro h q w ht hin hW
  obtain ⟨h1, h2, h3, h4⟩ := HT.tr_inv ht
  obtain ⟨x, y, hk, hx, hy⟩ := map_two h4
  obtain ⟨g, x', ha, hg, hx', hin1, c0, c1, c2, c3⟩ := hin.at (i := 0) (by rw [hk]; simp)
  obtain ⟨g', y', ha', _, hy', hin2, c4, c5, c6, c7⟩ := hin.at (i := 1) (by rw [hk]; simp)
  rw [hk] at hx' hy'
  obtain rfl : x = x' := by simpa using hx'
  obtain rfl : y = y' := by simpa using hy'
  obtain rfl : g = g' := by rw [ha] at ha'; injection ha' with e; injection e
  have HA := fun W (hE : Ext w W) => H1 x q W hx (hin1.ext hE) (hW.ext hE)
  have HB := fun W (hE : Ext w W) => H2 y q W hy (hin2.ext hE) (hW.ext hE)
  unfold HT.val at *
  rw [h1, h2, h3, ha, hk]
  simp only [List.length_cons, List.length_nil]
  have hgw := World.block_lt_of_cell? w _ c0
  have ta := l.value_tri (F := F) (d := d)
  have tb := r.value_tri (F := F) (d := d)
  rw [show (Ob.max l r).value F d = pairK maxS (l.value F d) (r.value F d) from rfl]
  clear h1 h2 h3 h4 hin hW ht hk hx hx' hin1 hy hy' hin2 ha ha' hg H1 H2
  generalize l.value F d = a at *
  generalize r.value F d = b at *
  generalize x.kd = k0 at *
  generalize x.s = k1 at *
  generalize x.n = k2 at *
  generalize x.a = k3 at *
  generalize x.k.length = k4 at *
  generalize x.c = k5 at *
  generalize y.kd = m0 at *
  generalize y.s = m1 at *
  generalize y.n = m2 at *
  generalize y.a = m3 at *
  generalize y.k.length = m4 at *
  generalize y.c = m5 at *
  generalize h.c = hc at *
  simp only [Nat.zero_mul, Nat.one_mul, Nat.zero_add, Nat.reduceAdd] at c0 c1 c2 c3 c4 c5 c6 c7 hgw
  rcases ta with ⟨n, rfl⟩ | rfl | rfl
  · rcases tb with ⟨m, rfl⟩ | rfl | rfl
    · rw [pairK_ok rfl rfl rfl rfl]
      rcases (by omega : m ≤ n ∨ ¬ m ≤ n) with hmn | hmn
      all_goals
        go_enter Try.func70, Try.ntmps70
        (go_wp2_with fail; (with_reducible refine (HA _ ((by repeat' (first | (with_reducible exact Ext.refl _) | (with_reducible assumption) | (with_reducible refine Ext.alloc ?_ _) | (with_reducible refine Ext.drew ?_) | (with_reducible refine Ext.drewN ?_ _) | (with_reducible refine Ext.setCell ?_ (by first | exact Nat.le_refl _ | (simp; done) | (simp; omega) | omega) _) | (with_reducible refine Ext.trans ?_ (by assumption)))))).mono ?_); rintro e w' ⟨rfl, hx4⟩)
        obtain ⟨d0, df, dl⟩ := obj_cells (hx4.lit (heap_new w _))
        have e0 := d0 0 _ rfl
        have e3 := d0 3 _ rfl
        have hE4 : Ext w w' := ((by repeat' (first | (with_reducible exact Ext.refl _) | (with_reducible assumption) | (with_reducible refine Ext.alloc ?_ _) | (with_reducible refine Ext.drew ?_) | (with_reducible refine Ext.drewN ?_ _) | (with_reducible refine Ext.setCell ?_ (by first | exact Nat.le_refl _ | (simp; done) | (simp; omega) | omega) _) | (with_reducible refine Ext.trans ?_ (by assumption)))))
        have c4 := hE4.cell c4
        have c5 := hE4.cell c5
        have c6 := hE4.cell c6
        have c7 := hE4.cell c7
        (go_wp2_with fail; (with_reducible refine (HB _ ((by repeat' (first | (with_reducible exact Ext.refl _) | (with_reducible assumption) | (with_reducible refine Ext.alloc ?_ _) | (with_reducible refine Ext.drew ?_) | (with_reducible refine Ext.drewN ?_ _) | (with_reducible refine Ext.setCell ?_ (by first | exact Nat.le_refl _ | (simp; done) | (simp; omega) | omega) _) | (with_reducible refine Ext.trans ?_ (by assumption)))))).mono ?_); rintro e w' ⟨rfl, hx5⟩)
        have e0 := hx5.cell e0
        have hW5 := Lib.hid (hE4.trans hx5)
        clear HA HB hE4 hx4 hx5 d0 df dl
        go_wp2
        go_ret3
        exact ⟨by simp [toldK, maxS, Int.max_def] <;> omega, hW5.out⟩
    · rw [show pairK maxS ⟨n, true, 0⟩ ⟨0, false, 0⟩ = ⟨0, false, 0⟩ from rfl]
      go_enter Try.func70, Try.ntmps70
      (go_wp2_with fail; (with_reducible refine (HA _ ((by repeat' (first | (with_reducible exact Ext.refl _) | (with_reducible assumption) | (with_reducible refine Ext.alloc ?_ _) | (with_reducible refine Ext.drew ?_) | (with_reducible refine Ext.drewN ?_ _) | (with_reducible refine Ext.setCell ?_ (by first | exact Nat.le_refl _ | (simp; done) | (simp; omega) | omega) _) | (with_reducible refine Ext.trans ?_ (by assumption)))))).mono ?_); rintro e w' ⟨rfl, hx4⟩)
      obtain ⟨d0, df, dl⟩ := obj_cells (hx4.lit (heap_new w _))
      have e0 := d0 0 _ rfl
      have e3 := d0 3 _ rfl
      have hE4 : Ext w w' := ((by repeat' (first | (with_reducible exact Ext.refl _) | (with_reducible assumption) | (with_reducible refine Ext.alloc ?_ _) | (with_reducible refine Ext.drew ?_) | (with_reducible refine Ext.drewN ?_ _) | (with_reducible refine Ext.setCell ?_ (by first | exact Nat.le_refl _ | (simp; done) | (simp; omega) | omega) _) | (with_reducible refine Ext.trans ?_ (by assumption)))))
      have c4 := hE4.cell c4
      have c5 := hE4.cell c5
      have c6 := hE4.cell c6
      have c7 := hE4.cell c7
      (go_wp2_with fail; (with_reducible refine (HB _ ((by repeat' (first | (with_reducible exact Ext.refl _) | (with_reducible assumption) | (with_reducible refine Ext.alloc ?_ _) | (with_reducible refine Ext.drew ?_) | (with_reducible refine Ext.drewN ?_ _) | (with_reducible refine Ext.setCell ?_ (by first | exact Nat.le_refl _ | (simp; done) | (simp; omega) | omega) _) | (with_reducible refine Ext.trans ?_ (by assumption)))))).mono ?_); rintro e w' ⟨rfl, hx5⟩)
      have e0 := hx5.cell e0
      have hW5 := Lib.hid (hE4.trans hx5)
      clear HA HB hE4 hx4 hx5 d0 df dl
      go_wp2
      go_ret3
      exact ⟨rfl, hW5.out⟩
    · rw [show pairK maxS ⟨n, true, 0⟩ ⟨0, false, 6⟩ = ⟨0, false, 6⟩ from rfl]
      go_enter Try.func70, Try.ntmps70
      (go_wp2_with fail; (with_reducible refine (HA _ ((by repeat' (first | (with_reducible exact Ext.refl _) | (with_reducible assumption) | (with_reducible refine Ext.alloc ?_ _) | (with_reducible refine Ext.drew ?_) | (with_reducible refine Ext.drewN ?_ _) | (with_reducible refine Ext.setCell ?_ (by first | exact Nat.le_refl _ | (simp; done) | (simp; omega) | omega) _) | (with_reducible refine Ext.trans ?_ (by assumption)))))).mono ?_); rintro e w' ⟨rfl, hx4⟩)
      obtain ⟨d0, df, dl⟩ := obj_cells (hx4.lit (heap_new w _))
      have e0 := d0 0 _ rfl
      have e3 := d0 3 _ rfl
      have hE4 : Ext w w' := ((by repeat' (first | (with_reducible exact Ext.refl _) | (with_reducible assumption) | (with_reducible refine Ext.alloc ?_ _) | (with_reducible refine Ext.drew ?_) | (with_reducible refine Ext.drewN ?_ _) | (with_reducible refine Ext.setCell ?_ (by first | exact Nat.le_refl _ | (simp; done) | (simp; omega) | omega) _) | (with_reducible refine Ext.trans ?_ (by assumption)))))
      have c4 := hE4.cell c4
      have c5 := hE4.cell c5
      have c6 := hE4.cell c6
      have c7 := hE4.cell c7
      (go_wp2_with fail; (with_reducible refine (HB _ ((by repeat' (first | (with_reducible exact Ext.refl _) | (with_reducible assumption) | (with_reducible refine Ext.alloc ?_ _) | (with_reducible refine Ext.drew ?_) | (with_reducible refine Ext.drewN ?_ _) | (with_reducible refine Ext.setCell ?_ (by first | exact Nat.le_refl _ | (simp; done) | (simp; omega) | omega) _) | (with_reducible refine Ext.trans ?_ (by assumption)))))).mono ?_); rintro e w' ⟨rfl, hx5⟩)
      have e0 := hx5.cell e0
      have hW5 := Lib.hid (hE4.trans hx5)
      clear HA HB hE4 hx4 hx5 d0 df dl
      go_wp2
      go_ret3
      exact ⟨rfl, hW5.out⟩
  · rcases tb with ⟨m, rfl⟩ | rfl | rfl
    · rw [show pairK maxS ⟨0, false, 0⟩ ⟨m, true, 0⟩ = ⟨0, false, 0⟩ from rfl]
      go_enter Try.func70, Try.ntmps70
      (go_wp2_with fail; (with_reducible refine (HA _ ((by repeat' (first | (with_reducible exact Ext.refl _) | (with_reducible assumption) | (with_reducible refine Ext.alloc ?_ _) | (with_reducible refine Ext.drew ?_) | (with_reducible refine Ext.drewN ?_ _) | (with_reducible refine Ext.setCell ?_ (by first | exact Nat.le_refl _ | (simp; done) | (simp; omega) | omega) _) | (with_reducible refine Ext.trans ?_ (by assumption)))))).mono ?_); rintro e w' ⟨rfl, hx4⟩)
      obtain ⟨d0, df, dl⟩ := obj_cells (hx4.lit (heap_new w _))
      have e0 := d0 0 _ rfl
      have e3 := d0 3 _ rfl
      have hE4 : Ext w w' := ((by repeat' (first | (with_reducible exact Ext.refl _) | (with_reducible assumption) | (with_reducible refine Ext.alloc ?_ _) | (with_reducible refine Ext.drew ?_) | (with_reducible refine Ext.drewN ?_ _) | (with_reducible refine Ext.setCell ?_ (by first | exact Nat.le_refl _ | (simp; done) | (simp; omega) | omega) _) | (with_reducible refine Ext.trans ?_ (by assumption)))))
      have c4 := hE4.cell c4
      have c5 := hE4.cell c5
      have c6 := hE4.cell c6
      have c7 := hE4.cell c7
      (go_wp2_with fail; (with_reducible refine (HB _ ((by repeat' (first | (with_reducible exact Ext.refl _) | (with_reducible assumption) | (with_reducible refine Ext.alloc ?_ _) | (with_reducible refine Ext.drew ?_) | (with_reducible refine Ext.drewN ?_ _) | (with_reducible refine Ext.setCell ?_ (by first | exact Nat.le_refl _ | (simp; done) | (simp; omega) | omega) _) | (with_reducible refine Ext.trans ?_ (by assumption)))))).mono ?_); rintro e w' ⟨rfl, hx5⟩)
      have e0 := hx5.cell e0
      have hW5 := Lib.hid (hE4.trans hx5)
      clear HA HB hE4 hx4 hx5 d0 df dl
      go_wp2
      go_ret3
      exact ⟨rfl, hW5.out⟩
    · rw [show pairK maxS ⟨0, false, 0⟩ ⟨0, false, 0⟩ = ⟨0, false, 0⟩ from rfl]
      go_enter Try.func70, Try.ntmps70
      (go_wp2_with fail; (with_reducible refine (HA _ ((by repeat' (first | (with_reducible exact Ext.refl _) | (with_reducible assumption) | (with_reducible refine Ext.alloc ?_ _) | (with_reducible refine Ext.drew ?_) | (with_reducible refine Ext.drewN ?_ _) | (with_reducible refine Ext.setCell ?_ (by first | exact Nat.le_refl _ | (simp; done) | (simp; omega) | omega) _) | (with_reducible refine Ext.trans ?_ (by assumption)))))).mono ?_); rintro e w' ⟨rfl, hx4⟩)
      obtain ⟨d0, df, dl⟩ := obj_cells (hx4.lit (heap_new w _))
      have e0 := d0 0 _ rfl
      have e3 := d0 3 _ rfl
      have hE4 : Ext w w' := ((by repeat' (first | (with_reducible exact Ext.refl _) | (with_reducible assumption) | (with_reducible refine Ext.alloc ?_ _) | (with_reducible refine Ext.drew ?_) | (with_reducible refine Ext.drewN ?_ _) | (with_reducible refine Ext.setCell ?_ (by first | exact Nat.le_refl _ | (simp; done) | (simp; omega) | omega) _) | (with_reducible refine Ext.trans ?_ (by assumption)))))
      have c4 := hE4.cell c4
      have c5 := hE4.cell c5
      have c6 := hE4.cell c6
      have c7 := hE4.cell c7
      (go_wp2_with fail; (with_reducible refine (HB _ ((by repeat' (first | (with_reducible exact Ext.refl _) | (with_reducible assumption) | (with_reducible refine Ext.alloc ?_ _) | (with_reducible refine Ext.drew ?_) | (with_reducible refine Ext.drewN ?_ _) | (with_reducible refine Ext.setCell ?_ (by first | exact Nat.le_refl _ | (simp; done) | (simp; omega) | omega) _) | (with_reducible refine Ext.trans ?_ (by assumption)))))).mono ?_); rintro e w' ⟨rfl, hx5⟩)
      have e0 := hx5.cell e0
      have hW5 := Lib.hid (hE4.trans hx5)
      clear HA HB hE4 hx4 hx5 d0 df dl
      go_wp2
      go_ret3
      exact ⟨rfl, hW5.out⟩
    · rw [show pairK maxS ⟨0, false, 0⟩ ⟨0, false, 6⟩ = ⟨0, false, 6⟩ from rfl]
      go_enter Try.func70, Try.ntmps70
      (go_wp2_with fail; (with_reducible refine (HA _ ((by repeat' (first | (with_reducible exact Ext.refl _) | (with_reducible assumption) | (with_reducible refine Ext.alloc ?_ _) | (with_reducible refine Ext.drew ?_) | (with_reducible refine Ext.drewN ?_ _) | (with_reducible refine Ext.setCell ?_ (by first | exact Nat.le_refl _ | (simp; done) | (simp; omega) | omega) _) | (with_reducible refine Ext.trans ?_ (by assumption)))))).mono ?_); rintro e w' ⟨rfl, hx4⟩)
      obtain ⟨d0, df, dl⟩ := obj_cells (hx4.lit (heap_new w _))
      have e0 := d0 0 _ rfl
      have e3 := d0 3 _ rfl
      have hE4 : Ext w w' := ((by repeat' (first | (with_reducible exact Ext.refl _) | (with_reducible assumption) | (with_reducible refine Ext.alloc ?_ _) | (with_reducible refine Ext.drew ?_) | (with_reducible refine Ext.drewN ?_ _) | (with_reducible refine Ext.setCell ?_ (by first | exact Nat.le_refl _ | (simp; done) | (simp; omega) | omega) _) | (with_reducible refine Ext.trans ?_ (by assumption)))))
      have c4 := hE4.cell c4
      have c5 := hE4.cell c5
      have c6 := hE4.cell c6
      have c7 := hE4.cell c7
      (go_wp2_with fail; (with_reducible refine (HB _ ((by repeat' (first | (with_reducible exact Ext.refl _) | (with_reducible assumption) | (with_reducible refine Ext.alloc ?_ _) | (with_reducible refine Ext.drew ?_) | (with_reducible refine Ext.drewN ?_ _) | (with_reducible refine Ext.setCell ?_ (by first | exact Nat.le_refl _ | (simp; done) | (simp; omega) | omega) _) | (with_reducible refine Ext.trans ?_ (by assumption)))))).mono ?_); rintro e w' ⟨rfl, hx5⟩)
      have e0 := hx5.cell e0
      have hW5 := Lib.hid (hE4.trans hx5)
      clear HA HB hE4 hx4 hx5 d0 df dl
      go_wp2
      go_ret3
      exact ⟨rfl, hW5.out⟩
  · rw [show pairK maxS ⟨0, false, 6⟩ b = ⟨0, false, 6⟩ from rfl]
    go_enter Try.func70, Try.ntmps70
    (go_wp2_with fail; (with_reducible refine (HA _ ((by repeat' (first | (with_reducible exact Ext.refl _) | (with_reducible assumption) | (with_reducible refine Ext.alloc ?_ _) | (with_reducible refine Ext.drew ?_) | (with_reducible refine Ext.drewN ?_ _) | (with_reducible refine Ext.setCell ?_ (by first | exact Nat.le_refl _ | (simp; done) | (simp; omega) | omega) _) | (with_reducible refine Ext.trans ?_ (by assumption)))))).mono ?_); rintro e w' ⟨rfl, hx4⟩)
    obtain ⟨d0, df, dl⟩ := obj_cells (hx4.lit (heap_new w _))
    have e0 := d0 0 _ rfl
    have e3 := d0 3 _ rfl
    have hE4 : Ext w w' := ((by repeat' (first | (with_reducible exact Ext.refl _) | (with_reducible assumption) | (with_reducible refine Ext.alloc ?_ _) | (with_reducible refine Ext.drew ?_) | (with_reducible refine Ext.drewN ?_ _) | (with_reducible refine Ext.setCell ?_ (by first | exact Nat.le_refl _ | (simp; done) | (simp; omega) | omega) _) | (with_reducible refine Ext.trans ?_ (by assumption)))))
    have hW5 := Lib.hid hE4
    clear HA HB
    go_wp2
    go_ret3
    exact ⟨rfl, hW5.out⟩
theorem rval_calls (hl : F.length ≤ 2 ^ 33) (hF : ∀ x ∈ F, Vd x.2 = true) : (o : Ob) → o.formed = true → RvAt base p v1 v2 F C d o
  | .const n, _ => rval_const n
  | .fix s, _ => rval_fix hl s
  | .neg o, h => rval_neg o (o.value_vd hF (by simpa [Ob.formed] using h)) (rval_calls hl hF o (by simpa [Ob.formed] using h))
  | .add l r, h => by simp only [Ob.formed, Bool.and_eq_true] at h; exact rval_add l r (rval_calls hl hF l h.1) (rval_calls hl hF r h.2)
  | .mul l r, h => by simp only [Ob.formed, Bool.and_eq_true] at h; exact rval_mul l r (rval_calls hl hF l h.1) (rval_calls hl hF r h.2)
  | .max l r, h => by simp only [Ob.formed, Bool.and_eq_true] at h; exact rval_max l r (rval_calls hl hF l h.1) (rval_calls hl hF r h.2)
  | .odd _, h => by simp [Ob.formed] at h
end

end Go.Proofs.Ytgjjngkmbplijaa

/- The document's answer: what a number needs (ref04.Needs), on its tree. -/
namespace Go.Proofs.Ytgjjngkmbplijaa
open Go.RowKit
set_option linter.unusedSimpArgs false
set_option linter.unusedVariables false

set_option maxRecDepth 100000 in
set_option maxHeartbeats 1600000 in
theorem rneeds_calls (base p : Nat) (v1 v2 : Value) (F : FixL) (C : ChL) (d : Int) (o : Ob) (h : HT) (q : Nat → Prop) (w : World) (ht : h.tr = o.tr) (hin : h.In q w) (hn : o.nodes ≤ 2 ^ 28) (hc : o.checked = 0) (hl : F.length ≤ 2 ^ 33) (hW : RWld base w p v1 v2 F C) :
    Calls Try.prog 71 #[h.val, .int .i64 d, .pointer (some ⟨p, 0, none⟩)] w fun e w' => RetOwn w 9 1 (o.needs F d).length (strVals (o.needs F d)) e w' := by
  have H2 := fun w' (hE : Ext w w') => rNames_calls h q w' (hin.ext hE) (by rw [ht]; have := o.tr_every; omega)
  rw [ht, Ob.tr_names] at H2
  have HE := Lib.hid (show o.needs F d = notFixed F d o.names by unfold Ob.needs; rw [if_pos hc])
  have HL : o.names.length ≤ 2 ^ 32 := Nat.le_trans o.names_len (by omega)
  unfold HT.val at *
  generalize o.needs F d = q at *
  generalize o.names = N at *
  generalize h.kd = k0 at *
  generalize h.s = k1 at *
  generalize h.n = k2 at *
  generalize h.a = k3 at *
  generalize h.k.length = k4 at *
  generalize h.c = k5 at *
  clear ht hin hn hc
  have HW := Lib.hid hW
  clear hW
  go_enter Try.func71, Try.ntmps71
  (go_wp2_with fail; (with_reducible refine (H2 _ ((by repeat' (first | (with_reducible exact Ext.refl _) | (with_reducible assumption) | (with_reducible refine Ext.alloc ?_ _) | (with_reducible refine Ext.drew ?_) | (with_reducible refine Ext.drewN ?_ _) | (with_reducible refine Ext.setCell ?_ (by first | exact Nat.le_refl _ | (simp; done) | (simp; omega) | omega) _) | (with_reducible refine Ext.trans ?_ (by assumption)))))).mono ?_); rintro e w' ⟨nv, rfl, hno, hy⟩)
  obtain ⟨A, c2, rfl, hnc, hcm⟩ := own_form hno
  have hxy : Ext w w' := ((by repeat' (first | (with_reducible exact Ext.refl _) | (with_reducible assumption) | (with_reducible refine Ext.alloc ?_ _) | (with_reducible refine Ext.drew ?_) | (with_reducible refine Ext.drewN ?_ _) | (with_reducible refine Ext.setCell ?_ (by first | exact Nat.le_refl _ | (simp; done) | (simp; omega) | omega) _) | (with_reducible refine Ext.trans ?_ (by assumption)))))
  have hno0 := Lib.hid (own_mono (base' := w.heap.size) hno (by simp))
  unfold maxLen at hcm
  clear hno H2
  go_wp2_with fail
  go_loopw [15, 7] (fun i out wr => ∃ (j : Nat) (A1 : Option Addr) (C1 : Nat) (L : List ByteArray), j ≤ N.length ∧ i = .int .i64 j ∧ out = .slice A1 L.length C1 ∧ L = notFixed F d (N.take j) ∧ Ext w wr ∧
    wr.ownsRow w.heap.size 9 1 (.slice A1 L.length C1) L.length (strVals L) ∧ wr.ownsRow w.heap.size 9 1 (.slice A N.length c2) N.length (strVals N) ∧ ((Value.slice A N.length c2).ownBlock = none ∨ (Value.slice A N.length c2).ownBlock ≠ (Value.slice A1 L.length C1).ownBlock)) (fun i _ _ => N.length - (intOf i).toNat)
  case atStart => exact ⟨0, none, 0, [], by omega, rfl, rfl, rfl, hxy, World.ownsRow_nil _ _ _ _, hno0.out, by cases A with | none => exact .inl rfl | some a => exact .inr (by simp [Value.ownBlock])⟩
  case round =>
    obtain ⟨j, A1, C1, L, hj, rfl, rfl, hL, hE, hown, hno, hne⟩ := hrel
    by_cases hlt : j < N.length
    · obtain ⟨s, e1, hv⟩ := strVals_at hlt
      obtain ⟨ad2, u, rfl, hu, hc2⟩ := (Rd.of_own hno).at1 hlt
      obtain rfl : Value.string s = u := by rw [hv] at hu; injection hu
      have HF := rfixed_calls base wr p v1 v2 F C s d (HW.out.ext hE) hl
      have hj0 := Lib.hid (show j + 1 ≤ N.length from hlt)
      have hS := notFixed_take (F := F) (d := d) e1
      rw [← hL] at hS
      have hMl : L.length ≤ j := by rw [hL]; exact Nat.le_trans (notFixed_len _ _ _) (List.length_take_le _ _)
      have h63 : L.length + 1 ≤ maxLen := by unfold maxLen; omega
      have hby : (L.length + 1) * 16 ≤ 140737488355328 := by omega
      have hrel := Lib.hid (And.intro hE (And.intro hown (And.intro hno hne)))
      clear hv hu e1 hL hno hne hE hown
      cases hb : (F.lookup (s, d)).isSome with
      | true =>
        rw [hb, if_pos rfl, List.append_nil] at hS
        have hS := Lib.hid hS
        rw [hb] at HF
        (go_wp2_with fail; (with_reducible refine (HF).mono ?_); rintro e w' ⟨rfl, hx5⟩)
        have hx6 := Lib.hid hx5
        clear HF hx5
        go_wp2_with fail
        go_roundw
        case rel => exact ⟨j + 1, A1, C1, L, hj0.out, by go_num, rfl, hS.out.symm, hrel.out.1.trans hx6.out, hx6.out.own hrel.out.2.1, hx6.out.own hrel.out.2.2.1, hrel.out.2.2.2⟩
        case measure => simp [intOf]; omega
      | false =>
        rw [hb, if_neg (by decide)] at hS
        have hS := Lib.hid hS
        rw [hb] at HF
        (go_wp2_with fail; (with_reducible refine (HF).mono ?_); rintro e w' ⟨rfl, hx5⟩)
        have hx6 := Lib.hid hx5
        clear HF hx5
        have hown := hx6.out.own hrel.out.2.1
        have hle := (hrel.out.1.trans hx6.out).le
        go_wp2_with (at_builtin; refine wpList_app elemStr rfl _ _ rfl w.heap.size (.slice A1 L.length C1) L.length (strVals L) rfl (hown.alloc _) _ 1 1 [.string s] rfl (Rd.new _ #[.string s] _ 1 1 rfl) (by simp [Value.oneCell']) h63 hby (by simp; omega) ?_; intro v1 w1 hown1 hg1 hat1)
        have hno5 := hx6.out.own hrel.out.2.2.1
        have hno6 := Lib.hid ((hno5.alloc _).kept hg1 hrel.out.2.2.2)
        have hne6 := Lib.hid (own_ne (hno5.alloc _) hrel.out.2.2.2 hat1)
        have hE6 := Lib.hid (((hrel.out.1.trans hx6.out).alloc _).grown hg1 (fun k hk => (hown.lt k hk).1))
        obtain ⟨A6, C6, rfl, h6, h7⟩ := own_form hown1
        have e7 := Lib.hid (show (L ++ [s]).length = L.length + 1 by simp)
        have hown6 := Lib.hid hown1
        clear hown1 hg1 hat1 h63 hby hown hno5
        go_wp2_with fail
        go_roundw
        case rel => exact ⟨j + 1, A6, C6, L ++ [s], hj0.out, by go_num, by rw [e7.out], hS.out.symm, hE6.out, by rw [e7.out, strVals_app]; exact hown6.out, hno6.out, by rw [e7.out]; exact hne6.out⟩
        case measure => simp [intOf]; omega
    · obtain rfl : j = N.length := by omega
      rw [List.take_length, ← HE.out] at hL
      subst hL
      clear hno hne
      go_wp2
      apply bodyPost_ret
      · exact results_tmp rfl _ _ _
      · rfl
      exact ⟨_, rfl, hown, hE⟩

end Go.Proofs.Ytgjjngkmbplijaa
