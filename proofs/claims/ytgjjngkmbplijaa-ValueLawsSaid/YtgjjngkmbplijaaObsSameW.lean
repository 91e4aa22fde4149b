/- The walk of the law ObsSame. -/
import Derived.Test.YtgjjngkmbplijaaPlayObs
namespace Go.Proofs.Ytgjjngkmbplijaa
open Go.RowKit
set_option linter.unusedSimpArgs false
set_option linter.unusedVariables false

theorem Ob.same_nodes {a b : Ob} (h : a.same b = true) : a.nodes = b.nodes := by
  induction a generalizing b with
  | const n => cases b <;> simp [Ob.same] at h; rfl
  | fix s => cases b <;> simp [Ob.same] at h; rfl
  | odd v => cases b <;> simp [Ob.same] at h
  | neg o ih => cases b <;> simp [Ob.same] at h; simp [Ob.nodes, ih h]
  | _ l r ihl ihr => cases b <;> simp [Ob.same] at h; simp [Ob.nodes, ihl h.1, ihr h.2]
theorem Ob.neg_same (o : Ob) : (Ob.neg o).same o = false := by
  cases h : (Ob.neg o).same o with
  | false => rfl
  | true => have := Ob.same_nodes h; simp only [Ob.nodes] at this; omega
theorem Ob.form_clean {o : Ob} (h : o.clean) : ∃ t x, o.val = .iface t x := by
  cases o with
  | odd v => exact h.elim
  | _ => exact ⟨_, _, rfl⟩
theorem osame_any (a b : Ob) (ha : a.wf) (hb : b.wf) (r : Bool) (h : a.same b = r) (w : World) : Calls Try.prog 55 #[a.val, b.val] w fun e w' => RetB w r e w' := by
  subst h
  exact osame_calls _ a b w (Nat.lt_succ_self _) ha hb
theorem oddNil : (Ob.odd .nilIface).wf := .inl rfl

set_option maxRecDepth 100000 in
set_option maxHeartbeats 3200000 in
theorem obsSame_walk (p : Pl) (n : Int) (w : World) (hp : p.In (· < w.heap.size) w) (hn : (Lit.int .i64 n).wf = true) : Calls Try.prog 9 #[p.val, .int .i64 n] w fun e w' => e = .returned (.bool true) ∧ Ext w w' := by
  have hb := i64_of hn
  obtain ⟨o, ho⟩ := obsT_ok p 4 0 16
  have H1 := fun W (hW : Ext w W) => number_calls p W ((hp.ext hW).weak (fun y hy => Nat.lt_of_lt_of_le hy hW.le))
  have H2 := fun (h : HT) (q : Nat → Prop) (W : World) (e : h.tr = (obsT p 4 0 16).1) (hin : h.In q W) => pobs_at ho.is ho.wf h q W e hin
  have hm0 : 0 ≤ n % 100 := Int.emod_nonneg _ (by omega)
  have hm1 : n % 100 < 100 := Int.emod_lt_of_pos _ (by omega)
  have HW := fun W => within_calls n 100 W (by omega) (by omega) hb.1 hb.2
  generalize n % 100 = m at *
  have c0 : (Ob.const m).wf := ⟨by omega, by omega⟩
  have c1 : (Ob.const (m + 1)).wf := ⟨by omega, by omega⟩
  have hwf := ho.wf
  have hcl := ho.clean
  have S1 := osame_any o o hwf hwf true (o.same_refl hcl)
  have S2 := osame_any (.add o (.const m)) (.add o (.const m)) ⟨hwf, c0⟩ ⟨hwf, c0⟩ true (by simp [Ob.same, o.same_refl hcl])
  have S3 := osame_any (.add o (.const m)) (.add o (.const (m + 1))) ⟨hwf, c0⟩ ⟨hwf, c1⟩ false (by simp [Ob.same]; intro; omega)
  have S4 := osame_any (.mul o (.const m)) (.add o (.const m)) ⟨hwf, c0⟩ ⟨hwf, c0⟩ false (by simp [Ob.same])
  have S5 := osame_any (.max (.const m) (.const (m + 1))) (.max (.const (m + 1)) (.const m)) ⟨c0, c1⟩ ⟨c1, c0⟩ false (by simp [Ob.same]; intro; omega)
  have S6 := osame_any (.neg o) o hwf hwf false o.neg_same
  have S7 := osame_any (.fix ⟨#[97]⟩) (.fix ⟨#[98]⟩) (by show ByteArray.size _ ≤ 1000; decide) (by show ByteArray.size _ ≤ 1000; decide) false (by decide)
  have S8 := osame_any o (.odd .nilIface) hwf oddNil false (by cases o <;> simp [Ob.same])
  simp only [Ob.val] at S2 S3 S4 S5 S6 S7 S8
  obtain ⟨t, x, e⟩ := Ob.form_clean hcl
  have H2' := fun (h : HT) (q : Nat → Prop) (W : World) (e : h.tr = (obsT p 4 0 16).1) (hin : h.In q W) => H2 h q W e hin
  rw [e] at S1 S2 S3 S4 S6 S8
  simp only [e] at H2'
  clear H2 c0 c1 hwf hcl e hn hb ho hp
  generalize (obsT p 4 0 16).1 = T at *
  unfold Pl.val at *
  go_enter Try.func9, Try.ntmps9
  go_wp2_with fail
  go_region_held3 (fun W => W.cell? ⟨w.heap.size, 0, none⟩ = some (.slice p.a p.n p.c) ∧ W.cell? ⟨w.heap.size, 1, none⟩ = some (.slice p.a2 p.n2 p.c2)) (go_keep)
    (first | (go_at_call 54; (with_reducible refine (H1 _ ((by repeat' (first | (with_reducible exact Ext.refl _) | (with_reducible assumption) | (with_reducible refine Ext.alloc ?_ _) | (with_reducible refine Ext.drew ?_) | (with_reducible refine Ext.drewN ?_ _) | (with_reducible refine Ext.setCell ?_ (by first | exact Nat.le_refl _ | (simp; done) | (simp; omega) | omega) _) | (with_reducible refine Ext.trans ?_ (by assumption)))))).mono ?_); rintro e w5 ⟨h5, rfl, ht5, hi5, hv5⟩; obtain ⟨hc5, hf5⟩ := hv5.cells; have hbl5 : w.heap.size < w5.heap.size := by { have := hv5.le; (try simp at this); omega }) | (go_at_call 53; (with_reducible refine (H2' _ _ _ (by assumption) (by assumption)).mono ?_); rintro e w6 ⟨rfl, hv6⟩; obtain ⟨hc6, hf6⟩ := hv6.cells; have hbl6 : w.heap.size < w6.heap.size := by { have := hv6.le; (try simp at this); omega }))
  clear H1 H2'
  (go_wp2_with fail; (with_reducible refine (HW _).mono ?_); rintro e w' ⟨rfl, rfl⟩)
  (go_wp2_with fail; (with_reducible refine (S1 _).mono ?_); rintro e w' ⟨rfl, hx1⟩)
  have q1 : w'.cell? ⟨w6.heap.size, 0, none⟩ = some (.int .i64 m) := hx1.cell (by simp [World.cell?_alloc_new])
  have q2 : w'.cell? ⟨w6.heap.size + 1, 0, none⟩ = some (.int .i64 (m + 1)) := hx1.cell (by simp [World.cell?_alloc_new])
  (go_wp2_with fail; (with_reducible refine (S2 _).mono ?_); rintro e w' ⟨rfl, hx2⟩)
  replace q1 := hx2.cell q1
  replace q2 := hx2.cell q2
  (go_wp2_with fail; (with_reducible refine (S3 _).mono ?_); rintro e w' ⟨rfl, hx3⟩)
  replace q1 := hx3.cell q1
  replace q2 := hx3.cell q2
  (go_wp2_with fail; (with_reducible refine (S4 _).mono ?_); rintro e w' ⟨rfl, hx4⟩)
  replace q1 := hx4.cell q1
  replace q2 := hx4.cell q2
  (go_wp2_with fail; (with_reducible refine (S5 _).mono ?_); rintro e w' ⟨rfl, hx5⟩)
  replace q1 := hx5.cell q1
  replace q2 := hx5.cell q2
  (go_wp2_with fail; (with_reducible refine (S6 _).mono ?_); rintro e w' ⟨rfl, hx6⟩)
  (go_wp2_with fail; (with_reducible refine (S7 _).mono ?_); rintro e w' ⟨rfl, hx7⟩)
  (go_wp2_with fail; (with_reducible refine (S8 _).mono ?_); rintro e w' ⟨rfl, hx8⟩)
  (go_wp2_with fail; (with_reducible refine (wakes04_calls _).mono ?_); rintro e w' ⟨rfl, hx9⟩)
  go_wp2
  go_ret
  exact ⟨rfl, (by repeat' (first | (with_reducible exact Ext.refl _) | (with_reducible assumption) | (with_reducible refine Ext.alloc ?_ _) | (with_reducible refine Ext.drew ?_) | (with_reducible refine Ext.drewN ?_ _) | (with_reducible refine Ext.setCell ?_ (by first | exact Nat.le_refl _ | (simp; done) | (simp; omega) | omega) _) | (with_reducible refine Ext.trans ?_ (by assumption))))⟩

end Go.Proofs.Ytgjjngkmbplijaa
