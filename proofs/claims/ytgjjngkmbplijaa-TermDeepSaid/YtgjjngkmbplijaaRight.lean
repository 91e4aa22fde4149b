/- Package play: the right contract of a plan. -/
import Derived.Test.YtgjjngkmbplijaaRef4
import Derived.Test.YtgjjngkmbplijaaMTermE
namespace Go.Proofs.Ytgjjngkmbplijaa
open Go.RowKit
set_option linter.unusedSimpArgs false
set_option linter.unusedVariables false

theorem Te.tr_form (t : Te) : t.tr.form false = t.formed := by
  induction t <;> simp [Te.tr, Tr.form, Tr.formL, Tr.selfOk, Tr.numFirst, Te.formed, Ob.tr_form, dayB, *]
theorem Te.tr_check (t : Te) : t.tr.check false = t.checked := by
  unfold Tr.check Te.checked
  rw [Te.tr_form, Te.tr_nodes, Te.tr_depth, Te.tr_labels]
theorem Te.form_cl {o : Te} (h : o.clean) : ∃ t x, o.val = .iface t x := by
  cases o with
  | odd v => exact h.elim
  | _ => exact ⟨_, _, rfl⟩
def usd1 : ByteArray := ⟨#[117, 115, 100]⟩
/-- The right contract of a plan, as a tree. -/
def rightT (p : Pl) : Tr := if (conT p).check false = 0 then conT p else .mk 2 ⟨#[117, 115, 100]⟩ 0 []
theorem rightT_ok (p : Pl) : ∃ o, TeOk (rightT p) 5 o ∧ o.checked = 0 := by
  unfold rightT
  by_cases h : (conT p).check false = 0
  · rw [if_pos h]
    obtain ⟨o, ho⟩ := conT_ok p
    refine ⟨o, ho, ?_⟩
    rw [← o.tr_check, ho.tr]; exact h
  · rw [if_neg h]
    refine ⟨.one ⟨#[117, 115, 100]⟩, ⟨.one _ _ _, ?_, trivial, rfl, by simp only [Te.nodes]; omega, by simp only [Te.depth]; omega⟩, by decide +kernel⟩
    show ByteArray.size _ ≤ 1000
    decide

set_option maxRecDepth 100000 in
set_option maxHeartbeats 3200000 in
theorem right_tree (p : Pl) (w : World) (hp : p.In (· < w.heap.size) w) : Calls Try.prog 67 #[p.val] w fun e w' => RetH w (rightT p) e w' := by
  have hx : Ext w ((w.alloc (.cells #[.slice p.a p.n p.c, .slice p.a2 p.n2 p.c2] 72)).alloc fourZ) := ((Ext.refl w).alloc _).alloc _
  obtain ⟨o, ho⟩ := conT_ok p
  have hcon := contract_calls p _ ((hp.ext hx).weak (fun y hy => Nat.lt_of_lt_of_le hy hx.le))
  have hno : o.nodes ≤ 1000 := by have := ho.nodes; omega
  have hlb : o.labels.length ≤ 1000 := Nat.le_trans o.labels_len hno
  have hck := fun (h : HT) (q : Nat → Prop) (W : World) (e : h.tr = conT p) (hin : h.In q W) => show Calls Try.prog 58 #[h.val, .bool false] W fun e w' => e = .returned (.int .i64 ((conT p).check false)) ∧ Ext W w' by
    have := rcheck_calls h q W false hin (by rw [e, ← ho.tr]; exact Te.tr_short ho.wf) (by rw [e, ← ho.tr, Te.tr_nodes]; omega) (by rw [e, ← ho.tr, Te.tr_labels]; omega)
    rwa [e] at this
  have hs : ((w.alloc (.cells #[.slice p.a p.n p.c, .slice p.a2 p.n2 p.c2] 72)).alloc fourZ).heap.size = w.heap.size + 1 + 1 := by simp
  have hF : Four ((w.alloc (.cells #[.slice p.a p.n p.c, .slice p.a2 p.n2 p.c2] 72)).alloc fourZ) (w.heap.size + 1) := ⟨_, _, _, _, by
    have h := heap_alloc_new (w.alloc (.cells #[.slice p.a p.n p.c, .slice p.a2 p.n2 p.c2] 72)) fourZ
    have e : (w.alloc (.cells #[.slice p.a p.n p.c, .slice p.a2 p.n2 p.c2] 72)).heap.size = w.heap.size + 1 := by simp
    rwa [e] at h⟩
  have HH := Lib.hid (And.intro hF (And.intro hx hs))
  have hR := Lib.hid (show rightT p = if (conT p).check false = 0 then conT p else .mk 2 ⟨#[117, 115, 100]⟩ 0 [] from rfl)
  generalize rightT p = R at *
  generalize (conT p).check false = ck at *
  clear hp hx ho hno hlb hF hs
  unfold Pl.val at *
  generalize conT p = T at *
  go_enter Try.func67, Try.ntmps67
  (go_wp2_with fail; (with_reducible refine (hcon).mono ?_); rintro e w' ⟨t, rfl, ht, hin, hx3⟩)
  have hle := hx3.le
  rw [HH.out.2.2] at hle
  have hF3 := HH.out.1.ext hx3
  have hE3 := HH.out.2.1.trans hx3
  have hin3 := hin.weak (q' := fun x => w.heap.size ≤ x ∧ x ≠ w.heap.size + 1) (fun y hy => by rw [HH.out.2.2] at hy; omega)
  have hck1 := fun W (hW : Ext w' W) => hck t _ W ht (hin.ext hW)
  have HE := Lib.hid (And.intro hF3 (And.intro hE3 (And.intro hin3 ht)))
  clear hcon hck hin hin3 ht hF3 hE3 hx3
  unfold HT.val at *
  (go_wp2_with fail; (with_reducible refine (hck1 _ ((by repeat' (first | (with_reducible exact Ext.refl _) | (with_reducible assumption) | (with_reducible refine Ext.alloc ?_ _) | (with_reducible refine Ext.drew ?_) | (with_reducible refine Ext.drewN ?_ _) | (with_reducible refine Ext.setCell ?_ (by first | exact Nat.le_refl _ | (simp; done) | (simp; omega) | omega) _) | (with_reducible refine Ext.trans ?_ (by assumption)))))).mono ?_); rintro e w4 ⟨rfl, hx4⟩)
  clear hck1
  have c0 : w4.cell? ⟨w'.heap.size, 0, none⟩ = some (.int .i64 t.kd) := hx4.cell (by rw [World.cell?_alloc_new]; rfl)
  have c1 : w4.cell? ⟨w'.heap.size, 1, none⟩ = some (.string t.s) := hx4.cell (by rw [World.cell?_alloc_new]; rfl)
  have c2 : w4.cell? ⟨w'.heap.size, 2, none⟩ = some (.int .i64 t.n) := hx4.cell (by rw [World.cell?_alloc_new]; rfl)
  have c3 : w4.cell? ⟨w'.heap.size, 3, none⟩ = some (.slice t.a t.k.length t.c) := hx4.cell (by rw [World.cell?_alloc_new]; rfl)
  have hE4 : Ext w' w4 := ((by repeat' (first | (with_reducible exact Ext.refl _) | (with_reducible assumption) | (with_reducible refine Ext.alloc ?_ _) | (with_reducible refine Ext.drew ?_) | (with_reducible refine Ext.drewN ?_ _) | (with_reducible refine Ext.setCell ?_ (by first | exact Nat.le_refl _ | (simp; done) | (simp; omega) | omega) _) | (with_reducible refine Ext.trans ?_ (by assumption)))))
  have hF4 := HE.out.1.ext hE4
  have hX4 := HE.out.2.1.trans hE4
  have hI4 := HE.out.2.2.1.ext hE4
  obtain ⟨⟨y0, d0⟩, ⟨y1, d1⟩, ⟨y2, d2⟩, ⟨y3, d3⟩, hfz⟩ := hF4.cells
  have HQ := Lib.hid (And.intro hF4 (And.intro hX4 (And.intro hI4 HE.out.2.2.2)))
  clear hE4 hF4 hX4 hI4 hx4 HE HH
  by_cases hck0 : ck = 0
  · subst hck0
    have hR := Lib.hid (show R = T by rw [hR.out, if_pos rfl])
    go_wp2
    apply bodyPost_ret (v := t.val)
    · exact put4_at HQ.out.1 t _ 0 _ 2 rfl rfl
    · rfl
    exact ⟨t, rfl, by rw [hR.out]; exact HQ.out.2.2.2, ((HQ.out.2.2.1.grown (fun y hy => hy.2) (put4_grown _ _ _ _ _ _)).weak (fun y hy => hy.1)), put4_ext HQ.out.2.1 (by omega) _ _ _ _⟩
  · have hR := Lib.hid (show R = .mk 2 ⟨#[117, 115, 100]⟩ 0 [] by rw [hR.out, if_neg hck0])
    have hne : (ck != 0) = true := by simpa using hck0
    go_wp2
    apply bodyPost_ret (v := (HT.mk 2 ⟨#[117, 115, 100]⟩ 0 none 0 []).val)
    · exact put4_at HQ.out.1 (HT.mk 2 ⟨#[117, 115, 100]⟩ 0 none 0 []) _ 0 _ 2 rfl rfl
    · rfl
    exact ⟨_, rfl, by rw [hR.out, HT.tr_eq]; rfl, HT.leaf_in _ _ _ _ _, put4_ext HQ.out.2.1 (by omega) _ _ _ _⟩

end Go.Proofs.Ytgjjngkmbplijaa
