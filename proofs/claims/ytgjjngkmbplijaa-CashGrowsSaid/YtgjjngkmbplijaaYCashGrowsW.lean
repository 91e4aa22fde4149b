/- The walk of the law CashGrows. Printed by wip/src/mkcgrows.py. -/
import Derived.Test.YtgjjngkmbplijaaZRf
import Derived.Test.YtgjjngkmbplijaaZPt
import Derived.Test.YtgjjngkmbplijaaYKn10
import Derived.Test.YtgjjngkmbplijaaZFa
import Derived.Deep.CutRange

namespace Go.Proofs.Ytgjjngkmbplijaa
open Go.RowKit
set_option linter.unusedSimpArgs false
set_option linter.unusedVariables false

theorem name_tt : isName ⟨#[116]⟩ = true := by decide +kernel
/-- One operation of a region turns the world, all others leave it. -/
def G2 (i0 : Nat) (A B : World → Prop) (l : Array Bool) (W : World) : Prop := (¬ Dn l i0 ∧ A W) ∨ (Dn l i0 ∧ B W)
theorem G2.keep {i0 i : Nat} {A B : World → Prop} {l : Array Bool} {W : World} (h : G2 i0 A B l W) (hi : i ≠ i0) : G2 i0 A B (l.setIfInBounds i true) W := by
  rcases h with ⟨h1, h2⟩ | ⟨h1, h2⟩
  · exact .inl ⟨fun hd => h1 (hd.set hi), h2⟩
  · exact .inr ⟨h1.keep, h2⟩
theorem G2.go {i0 : Nat} {A B : World → Prop} {l : Array Bool} {W : World} (hs : i0 < l.size) (hB : B W) : G2 i0 A B (l.setIfInBounds i0 true) W := .inr ⟨Dn.of_true hs, hB⟩
theorem G2.pre {i0 : Nat} {A B : World → Prop} {l : Array Bool} {W : World} (h : G2 i0 A B l W) (hn : ¬ Dn l i0) : A W := by
  rcases h with ⟨_, h2⟩ | ⟨h1, _⟩
  · exact h2
  · exact absurd h1 hn
theorem G2.post {i0 : Nat} {A B : World → Prop} {l : Array Bool} {W : World} (h : G2 i0 A B l W) (hn : Dn l i0) : B W := by
  rcases h with ⟨h1, _⟩ | ⟨_, h2⟩
  · exact absurd hn h1
  · exact h2
theorem own_fix2 {w0 w : World} {p f c : Nat} {F : FixL} {C : ChL} (s : ByteArray) (d v : Int) (h : Own w0 w p f c F C) :
    Calls Try.prog 35 #[.pointer (some ⟨p, 0, none⟩), .string s, .int .i64 d, .int .i64 v] w fun e w' => e = .returned (.int .i64 (fixRes F s d v)) ∧ Own w0 w' p f c (fixNew F s d v) C ∧ w.grownBy w' (some f) :=
  (fix_calls p f c F C s d v w h.wld).mono fun e w' ⟨he, hW, hg⟩ => ⟨he, h.step (.inl rfl) hW hg, hg⟩
theorem own_ch2 {w0 w : World} {p f c : Nat} {F : FixL} {C : ChL} (s t : ByteArray) (k d : Int) (h : Own w0 w p f c F C) :
    Calls Try.prog 36 #[.pointer (some ⟨p, 0, none⟩), .string s, .string t, .int .i64 k, .int .i64 d] w fun e w' => e = .returned (.int .i64 (chRes C s t k d)) ∧ Own w0 w' p f c F (chNew C s t k d) ∧ w.grownBy w' (some c) :=
  (choose_calls p f c F C s t k d w h.wld).mono fun e w' ⟨he, hW, hg⟩ => ⟨he, h.step (.inr rfl) hW hg, hg⟩
theorem Wa.same_fields {x y : Wa} (h : x.same y = true) : x.ch = y.ch ∧ x.name = y.name ∧ x.label = y.label ∧ x.day = y.day := by
  simp only [Wa.same, Bool.and_eq_true, beq_iff_eq] at h
  exact ⟨h.1, h.2.1, h.2.2.1, h.2.2.2.1⟩
theorem Fl.same_eq {x y : Fl} (h : x.same y = true) : x = y := by
  obtain ⟨a1, a2, a3⟩ := x
  obtain ⟨b1, b2, b3⟩ := y
  simp only [Fl.same, Bool.and_eq_true, beq_iff_eq] at h
  obtain ⟨rfl, rfl, rfl⟩ := h
  rfl
theorem Fl.same_ne {x y : Fl} (h : x.same y = false) : x ≠ y := by
  rintro rfl
  simp [Fl.same] at h
/-- Going through b, a's payments are met one by one. -/
theorem sub_hit {a b : List Fl} {j k : Nat} {x y : Fl} (h : List.Sublist (a.drop k) (b.drop j)) (hx : b[j]? = some x) (hy : a[k]? = some y) (e : x = y) : List.Sublist (a.drop (k + 1)) (b.drop (j + 1)) := by
  obtain ⟨h1, e1⟩ := List.getElem?_eq_some_iff.1 hx
  obtain ⟨h2, e2⟩ := List.getElem?_eq_some_iff.1 hy
  rw [List.drop_eq_getElem_cons h1, List.drop_eq_getElem_cons h2, e1, e2, e] at h
  exact List.cons_sublist_cons.1 h
theorem sub_miss {a b : List Fl} {j k : Nat} {x y : Fl} (h : List.Sublist (a.drop k) (b.drop j)) (hx : b[j]? = some x) (hy : a[k]? = some y) (e : x ≠ y) : List.Sublist (a.drop k) (b.drop (j + 1)) := by
  obtain ⟨h1, e1⟩ := List.getElem?_eq_some_iff.1 hx
  obtain ⟨h2, e2⟩ := List.getElem?_eq_some_iff.1 hy
  rw [List.drop_eq_getElem_cons h1, e1] at h
  have h3 := List.drop_eq_getElem_cons h2
  rw [h3, e2] at h ⊢
  cases h with
  | cons _ h => exact h
  | cons_cons _ _ => exact absurd rfl e
theorem sub_done {a b : List Fl} {j k : Nat} (h : List.Sublist (a.drop k) (b.drop j)) (hk : a.length ≤ k) : List.Sublist (a.drop k) (b.drop (j + 1)) := by
  rw [List.drop_of_length_le hk]
  exact List.nil_sublist _
theorem sub_end {a b : List Fl} {k : Nat} (h : List.Sublist (a.drop k) (b.drop b.length)) : a.length ≤ k := by
  rw [List.drop_length] at h
  have := List.sublist_nil.1 h
  have h2 := congrArg List.length this
  rw [List.length_drop] at h2
  simp at h2
  omega
/-- What comes to be known in the copy: the answer, and what is known then. -/
structure Grown (F : FixL) (C : ChL) (y : Wa) (r : Int) (F' : FixL) (C' : ChL) : Prop where
  res : r = 0 ∨ r = 5
  fx : ∃ G, F' = F ++ G
  ch : ∃ D, C' = C ++ D
  ok : choicesOk C'
  gone : r = 0 → ∀ z : Wa, z.open F' C' ⟨#[116]⟩ → z.same y = false ∨ z.ch = true
theorem grown_ch {F : FixL} {C : ChL} {y : Wa} (hC : choicesOk C) (ho : y.open F C ⟨#[116]⟩) (hy : y.ch = true) (k : Int) (hk : k = 0 ∨ k = 1) : Grown F C y (chRes C ⟨#[116]⟩ y.label k y.day) F (chNew C ⟨#[116]⟩ y.label k y.day) := by
  obtain ⟨hd, h⟩ := ho
  rcases h with ⟨_, h1, h2⟩ | ⟨h1, _⟩
  · obtain ⟨e1, e2⟩ := chRes_ok (C := C) name_tt h1 ((sideB_iff k).2 hk) hd (by rw [h2]; rfl)
    rw [e1]
    refine ⟨.inl rfl, ⟨[], by simp⟩, ⟨_, e2⟩, choicesOk_new hC _ _ _ _, fun _ z hz => ?_⟩
    cases hs : z.same y with
    | false => exact .inl rfl
    | true => exact .inr ((Wa.same_fields hs).1.trans hy)
  · rw [hy] at h1; cases h1
theorem grown_fx {F : FixL} {C : ChL} {y : Wa} (hC : choicesOk C) (ho : y.open F C ⟨#[116]⟩) (hy : y.ch = false) (v : Int) (hv : Vd v = true) : Grown F C y (fixRes F y.name y.day v) (fixNew F y.name y.day v) C := by
  obtain ⟨hd, h⟩ := ho
  rcases h with ⟨h1, _⟩ | ⟨_, h1, h2⟩
  · rw [hy] at h1; cases h1
  · by_cases hl : F.length < 32
    · obtain ⟨e1, e2⟩ := fixRes_ok (F := F) h1 hd hv (by rw [h2]; rfl) hl
      rw [e1, e2]
      refine ⟨.inl rfl, ⟨_, rfl⟩, ⟨[], by simp⟩, hC, fun _ z hz => ?_⟩
      cases hs : z.same y with
      | false => exact .inl rfl
      | true =>
        obtain ⟨s1, s2, s3, s4⟩ := Wa.same_fields hs
        obtain ⟨_, hz⟩ := hz
        rcases hz with ⟨q1, _⟩ | ⟨_, _, q3⟩
        · exact .inr q1
        · rw [s2, s4, List.lookup_append, h2] at q3
          simp [List.lookup] at q3
    · obtain ⟨e1, e2⟩ := fixRes_limit (F := F) h1 hd hv (by rw [h2]; rfl) (by omega)
      rw [e1, e2]
      exact ⟨.inr rfl, ⟨[], by simp⟩, ⟨[], by simp⟩, hC, fun h => by cases h⟩

set_option maxRecDepth 100000 in
set_option maxHeartbeats 12800000 in
theorem cashGrows_walk (p : Pl) (a1 : Option Addr) (n1 c1 : Nat) (l1 : List Int) (a2 : Option Addr) (n2 c2 : Nat) (l2 : List Int) (day value : Int) (w : World) (hp : p.In (· < w.heap.size) w) (hl1 : InInts w a1 n1 c1 l1) (hl2 : InInts w a2 n2 c2 l2) (hd : (Lit.int .i64 day).wf = true) (hvv : (Lit.int .i64 value).wf = true) :
    Calls Try.prog 32 #[p.val, .slice a1 n1 c1, .slice a2 n2 c2, .int .i64 day, .int .i64 value] w fun e w' => e = .returned (.bool true) ∧ Ext w w' := by
  have hb1 := i64_of hvv
  have hb2 := i64_of hd
  have HW5 := fun W => within_calls day 5 W (by omega) (by omega) hb2.1 hb2.2
  have HWn := fun (n : Nat) (h1 : 1 ≤ n) (h2 : n ≤ 1000) W => within_calls value (n : Int) W (by omega) (by omega) hb1.1 hb1.2
  have HW2 := fun W => within_calls value 2 W (by omega) (by omega) hb1.1 hb1.2
  have HW20 := fun W => within_calls value 20 W (by omega) (by omega) hb1.1 hb1.2
  have m3 : 0 ≤ day % 5 := Int.emod_nonneg _ (by omega)
  have m4 : day % 5 < 5 := Int.emod_lt_of_pos _ (by omega)
  generalize day % 5 = d at *
  have hdB : dayB d = true := (dayB_iff d).2 (by omega)
  obtain ⟨o, ho, hoc⟩ := rightT_ok p
  have hwf := ho.wf
  obtain ⟨f1, hnd, f3, f4⟩ := Te.checked_form hoc
  have P1 := fun W (hW : Ext w W) => right_tree p W ((hp.ext hW).weak (fun y hy => Nat.lt_of_lt_of_le hy hW.le))
  have P2 := fun (h : HT) (r : Nat → Prop) (W : World) (e : h.tr = rightT p) (hin : h.In r W) => pterm_at ho.is hwf h r W e hin
  have K1 := fun W (hW : Ext w W) => known10_calls W a1 n1 c1 l1 a2 n2 c2 l2 ⟨hl1.1.ext hW, hl1.2⟩ ⟨hl2.1.ext hW, hl2.2⟩
  have HA := fun (F : FixL) (C : ChL) (p f c : Nat) W (hW : Wld W p f c F C) => cof_calls p f c F C ⟨#[116]⟩ o d W hwf (by omega) hW
  have hways := Lib.hid (fun (F : FixL) (C : ChL) => cashOf_ways (F := F) (C := C) (id := ⟨#[116]⟩) hoc hdB)
  have hopen := Lib.hid (fun (F : FixL) (C : ChL) (hC : choicesOk C) => o.walk_open (F := F) (id := ⟨#[116]⟩) hC.days f1 d 1 ([], []) hdB (by simp))
  have hgrow := Lib.hid (fun (F G : FixL) (C D : ChL) => o.walk_grows (F := F) (C := C) (id := ⟨#[116]⟩) (G := G) (D := D) (o.nums_ok f1 hnd f3) d 1)
  have hlen := Lib.hid (fun (F : FixL) (C : ChL) => o.walk_lens (F := F) (C := C) (id := ⟨#[116]⟩) d 1)
  obtain ⟨kx, vx, ex⟩ := Te.form_cl ho.clean
  have hEf := Lib.hid eql_flow
  have hEw := Lib.hid eql_wait
  have f2 := held_flow.2
  have f5 := held_wait.2
  simp only [ex] at P2 HA
  clear hvv hd hb1 hb2 hp hl1 hl2 ho hoc hwf ex hdB f1 f3 f4
  generalize rightT p = T at *
  unfold Pl.val at *
  go_enter Try.func32, Try.ntmps32
  (go_wp2_with fail; (with_reducible refine (P1 _ ((by repeat' (first | (with_reducible exact Ext.refl _) | (with_reducible assumption) | (with_reducible refine Ext.alloc ?_ _) | (with_reducible refine Ext.drew ?_) | (with_reducible refine Ext.drewN ?_ _) | (with_reducible refine Ext.setCell ?_ (by first | exact Nat.le_refl _ | (simp; done) | (simp; omega) | omega) _) | (with_reducible refine Ext.trans ?_ (by assumption)))))).mono ?_); rintro e w3 ⟨h3, rfl, ht3, hi3, hx3⟩)
  (go_wp2_with fail; (with_reducible refine (P2 _ _ _ ht3 hi3).mono ?_); rintro e w4 ⟨rfl, hx4⟩)
  have hE4 : Ext w w4 := ((by repeat' (first | (with_reducible exact Ext.refl _) | (with_reducible assumption) | (with_reducible refine Ext.alloc ?_ _) | (with_reducible refine Ext.drew ?_) | (with_reducible refine Ext.drewN ?_ _) | (with_reducible refine Ext.setCell ?_ (by first | exact Nat.le_refl _ | (simp; done) | (simp; omega) | omega) _) | (with_reducible refine Ext.trans ?_ (by assumption)))))
  clear P1 P2 ht3 hi3 hx3 hx4
  (go_wp2_with fail; (with_reducible refine (K1 _ hE4).mono ?_); rintro e w6 ⟨P, f, c, q, v1, v2, F, C, rfl, hTw, hCk⟩)
  have hO6 := hTw.a
  have hCk := Lib.hid hCk
  have hE4 := Lib.hid hE4
  clear K1 hTw
  generalize hw5 : w4 = w5 at *
  clear hw5
  (go_wp2_with fail; (with_reducible refine (HW5 _).mono ?_); rintro e w' ⟨rfl, rfl⟩)
  (go_wp2_with fail; (with_reducible refine (HA F C P f c _ hO6.wld).mono ?_); rintro e w7 ⟨u1, u2, rfl, hfa, hwa, hx7⟩)
  obtain ⟨A1, C1, rfl, ha1, ha2⟩ := own_form hfa
  obtain ⟨A2, C2, rfl, ha3, ha4⟩ := own_form hwa
  unfold maxLen at ha2 ha4
  have hO7 := hO6.keep hx7
  clear HW5
  rcases hways.out F C with ⟨e1, _⟩ | ⟨e1, e0⟩
  · rw [e1] at hfa hwa ⊢
    have hO7 := Lib.hid hO7
    clear hfa hwa hO6 HA HW2 HW20 HWn e1
    (go_wp2_with fail; (with_reducible refine (wakes10_calls _).mono ?_); rintro e w' ⟨rfl, hx8⟩)
    go_wp2
    go_ret
    exact ⟨rfl, hE4.out.trans (hO7.out.ext.trans hx8)⟩
  have hop := hopen.out F C hCk.out
  have hgr := fun G D => hgrow.out F G C D e0
  obtain ⟨hl1', hl2'⟩ := hlen.out F C
  rw [e1] at hfa hwa ha1 ha3 ⊢
  rw [e0]
  generalize o.walk F C ⟨#[116]⟩ d 1 ([], []) = A at *
  obtain ⟨Ae, Af, Aw⟩ := A
  simp only at *
  subst e0
  clear e1 hO6
  by_cases hw0 : Aw.length = 0
  · have hw0' : ((Aw.length : Int) == 0) = true := by rw [hw0]; rfl
    have hO7 := Lib.hid hO7
    clear hfa hwa HA HW2 HW20 HWn hop hgr
    (go_wp2_with fail; (with_reducible refine (wakes10_calls _).mono ?_); rintro e w' ⟨rfl, hx8⟩)
    go_wp2
    go_ret
    exact ⟨rfl, hE4.out.trans (hO7.out.ext.trans hx8)⟩
  have hw0' : ((Aw.length : Int) == 0) = false := beq_eq_false_iff_ne.2 (by omega)
  (go_wp2_with fail; (with_reducible refine (clone_own hO7).mono ?_); rintro e w8 ⟨P', f', c', rfl, hK, _, g1, g2, g3, hx8⟩)
  have hfa8 := Lib.hid (hx8.own hfa)
  have hwa8 := hx8.own hwa
  have hfab := Lib.hid (fun (g : Nat) (h : (Value.slice A1 Af.length C1).ownBlock = some g) => (hfa.lt g h).2)
  have hltK := hK.wld.lts
  have hKh := Lib.hid hK
  have hge := Lib.hid (And.intro g2 g3)
  have hb7 := Lib.hid hO7.ext.le
  clear hfa hwa hO7 hx7 hx8 g1 g2 g3 hK
  have hwn := HWn Aw.length (by omega) (by omega)
  obtain ⟨kk, hkk, hkl⟩ : ∃ kk : Nat, value % (Aw.length : Int) = kk ∧ kk < Aw.length := by
    have q1 : 0 ≤ value % (Aw.length : Int) := Int.emod_nonneg _ (by omega)
    have q2 : value % (Aw.length : Int) < Aw.length := Int.emod_lt_of_pos _ (by omega)
    generalize value % (Aw.length : Int) = z at q1 q2
    exact ⟨z.toNat, by omega, by omega⟩
  rw [hkk] at hwn
  have ey : Aw[kk]? = some Aw[kk] := List.getElem?_eq_getElem hkl
  generalize Aw[kk] = y at ey
  have hyo := Lib.hid (hop y (List.mem_of_getElem? ey))
  obtain ⟨g2, rfl, y0, y1, y2, y3, y4⟩ := wa_at hwa8 ey hkl
  have hki : (kk : Int) < (Aw.length : Int) := by omega
  have hki0 : (0 : Int) ≤ (kk : Int) := by omega
  clear hop ey HWn hkk
  (go_wp2_with fail; (with_reducible refine (hwn _).mono ?_); rintro e w' ⟨rfl, rfl⟩)
  clear hwn
  go_upto_if 68 with fail
  have hx9 : Ext w8 (w8.alloc (.cells #[.bool y.ch, .string y.name, .string y.label, .int .i64 y.day, .int .i64 y.side] 152)) := (Ext.refl w8).alloc _
  have hK9 := Lib.hid (hKh.out.keep hx9)
  have hf9 := Lib.hid (hx9.own hfa8.out)
  have z0 : (w8.alloc (.cells #[.bool y.ch, .string y.name, .string y.label, .int .i64 y.day, .int .i64 y.side] 152)).cell? ⟨w8.heap.size, 0, none⟩ = some (.bool y.ch) := by rw [World.cell?_alloc_new]; rfl
  have z1 : (w8.alloc (.cells #[.bool y.ch, .string y.name, .string y.label, .int .i64 y.day, .int .i64 y.side] 152)).cell? ⟨w8.heap.size, 1, none⟩ = some (.string y.name) := by rw [World.cell?_alloc_new]; rfl
  have z2 : (w8.alloc (.cells #[.bool y.ch, .string y.name, .string y.label, .int .i64 y.day, .int .i64 y.side] 152)).cell? ⟨w8.heap.size, 2, none⟩ = some (.string y.label) := by rw [World.cell?_alloc_new]; rfl
  have z3 : (w8.alloc (.cells #[.bool y.ch, .string y.name, .string y.label, .int .i64 y.day, .int .i64 y.side] 152)).cell? ⟨w8.heap.size, 3, none⟩ = some (.int .i64 y.day) := by rw [World.cell?_alloc_new]; rfl
  have z4 : (w8.alloc (.cells #[.bool y.ch, .string y.name, .string y.label, .int .i64 y.day, .int .i64 y.side] 152)).cell? ⟨w8.heap.size, 4, none⟩ = some (.int .i64 y.side) := by rw [World.cell?_alloc_new]; rfl
  have hbc : w8.heap.size ≠ c' := by omega
  have hbf : w8.heap.size ≠ f' := by omega
  clear y0 y1 y2 y3 y4 hfa8 hwa8 hKh hx9 hltK
  generalize (w8.alloc (.cells #[.bool y.ch, .string y.name, .string y.label, .int .i64 y.day, .int .i64 y.side] 152)) = w9 at *
  generalize w8.heap.size = bx at *
  have y0 := z0
  have y1 := z1
  have y2 := z2
  have y3 := z3
  have y4 := z4
  clear z0 z1 z2 z3 z4
  go_cut [19] from 27 to 85 (fun v wx => ∃ r F' C', v = .int .i64 r ∧ Grown F C y r F' C' ∧ Own w5 wx P' f' c' F' C' ∧ (w9.grownBy wx (some f') ∨ w9.grownBy wx (some c')))
  case first =>
    clear HA hgr
    cases hch : y.ch with
    | true =>
      rw [hch] at y0
      go_upto_region 15 with fail
      refine wp_region_slots 8 [0, 1, 2, 3, 4, 5, 6, 7] _ [69, 70, 71, 72, 73, 74, 75, 76] (fun i _ u => u = ([.pointer (some ⟨P', 0, none⟩), .pointer (some ⟨bx, 2, none⟩), .string y.label, .int .i64 value, .int .i64 (value % 2), .pointer (some ⟨bx, 3, none⟩), .int .i64 y.day, .int .i64 (chRes C ⟨#[116]⟩ y.label (value % 2) y.day)] : List Value).getD i undef) (G2 7 (Ext w9) (fun W => w9.grownBy W (some c') ∧ Own w5 W P' f' c' F (chNew C ⟨#[116]⟩ y.label (value % 2) y.day))) (by kernel_rfl) rfl (by kernel_rfl) (by kernel_rfl) rfl rfl rfl (by decide) rfl ?_ ?_ ?_
      · exact .inl ⟨dn_none _ _, (Ext.refl _).drew⟩
      · refine slots_cons rfl ?_ (slots_cons rfl ?_ (slots_cons rfl ?_ (slots_cons rfl ?_ (slots_cons rfl ?_ (slots_cons rfl ?_ (slots_cons rfl ?_ (slots_cons rfl ?_ slots_nil)))))))
        · intro l a W hs ho hG hd hne K' hK
          have b17 : a.tmps[17]?.getD undef = .pointer (some ⟨P', 0, none⟩) := ho.ev 17 rfl
          clear hd ho hne
          go_simp
          exact hK _ _ rfl (hG.keep (by decide)) (fun j' v' _ hf => hf)
        · intro l a W hs ho hG hd hne K' hK
          have b18 : a.tmps[18]?.getD undef = .pointer (some ⟨bx, 0, none⟩) := ho.ev 18 rfl
          clear hd ho hne
          go_simp
          exact hK _ _ rfl (hG.keep (by decide)) (fun j' v' _ hf => hf)
        · intro l a W hs ho hG hd hne K' hK
          have e1 : a.tmps[70]?.getD undef = .pointer (some ⟨bx, 2, none⟩) := hd ⟨1, .data⟩ (by simp) rfl
          have hcl : W.cell? ⟨bx, 2, none⟩ = some (.string y.label) := by
            rcases hG with ⟨_, h⟩ | ⟨_, h⟩
            · exact h.cell y2
            · exact h.1.cell y2 (by intro e; injection e with e; exact hbc e)
          clear hd ho hne
          go_simp
          exact hK _ _ rfl (hG.keep (by decide)) (fun j' v' _ hf => hf)
        · intro l a W hs ho hG hd hne K' hK
          have b4 : a.tmps[4]?.getD undef = .int .i64 value := ho.ev 4 rfl
          clear hd ho hne
          go_simp
          exact hK _ _ rfl (hG.keep (by decide)) (fun j' v' _ hf => hf)
        · intro l a W hs ho hG hd hne K' hK
          have e3 : a.tmps[72]?.getD undef = .int .i64 value := hd ⟨3, .data⟩ (by simp) rfl
          clear hd ho hne
          go_simp
          go_at_call 34
          (with_reducible refine (HW2 W).mono ?_)
          rintro e W2 ⟨rfl, rfl⟩
          go_simp
          exact hK _ _ rfl (hG.keep (by decide)) (fun j' v' _ hf => hf)
        · intro l a W hs ho hG hd hne K' hK
          have b18 : a.tmps[18]?.getD undef = .pointer (some ⟨bx, 0, none⟩) := ho.ev 18 rfl
          clear hd ho hne
          go_simp
          exact hK _ _ rfl (hG.keep (by decide)) (fun j' v' _ hf => hf)
        · intro l a W hs ho hG hd hne K' hK
          have e5 : a.tmps[74]?.getD undef = .pointer (some ⟨bx, 3, none⟩) := hd ⟨5, .data⟩ (by simp) rfl
          have hcl : W.cell? ⟨bx, 3, none⟩ = some (.int .i64 y.day) := by
            rcases hG with ⟨_, h⟩ | ⟨_, h⟩
            · exact h.cell y3
            · exact h.1.cell y3 (by intro e; injection e with e; exact hbc e)
          clear hd ho hne
          go_simp
          exact hK _ _ rfl (hG.keep (by decide)) (fun j' v' _ hf => hf)
        · intro l a W hs ho hG hd hne K' hK
          have e0 : a.tmps[69]?.getD undef = .pointer (some ⟨P', 0, none⟩) := hd ⟨0, .data⟩ (by simp) rfl
          have e2 : a.tmps[71]?.getD undef = .string y.label := hd ⟨2, .data⟩ (by simp) rfl
          have e4 : a.tmps[73]?.getD undef = .int .i64 (value % 2) := hd ⟨4, .data⟩ (by simp) rfl
          have e6 : a.tmps[75]?.getD undef = .int .i64 y.day := hd ⟨6, .data⟩ (by simp) rfl
          have hA := hG.pre hne
          have hls : 7 < l.size := by rw [hs]; decide
          clear hd ho hne
          go_simp
          go_at_call 36
          (with_reducible refine (own_ch2 ⟨#[116]⟩ y.label (value % 2) y.day (hK9.out.keep hA)).mono ?_)
          rintro e W2 ⟨rfl, hO2, hg2⟩
          go_simp
          exact hK _ _ rfl (G2.go hls ⟨(ext_grown hA _).trans hg2, hO2⟩) (fun j' v' _ hf => hf)
      · intro l a W ho hG hall hF K' hK
        have e7 : a.tmps[76]?.getD undef = .int .i64 (chRes C ⟨#[116]⟩ y.label (value % 2) y.day) := hF 7 (by omega)
        have hB := hG.post (hall 7 (by omega))
        obtain ⟨fr, hfr⟩ : ∃ fr : Tmp → Value, a = ([69, 70, 71, 72, 73, 74, 75, 76] : List Tmp).foldl (fun b d => b.put (some d) (fr d)) _ := ⟨_, ho.puts⟩
        have hfr0 := Lib.hid hfr
        have hB0 := Lib.hid hB
        clear hfr ho hF hall hG hB
        go_simp
        refine hK _ _ ?_
        rw [hfr0.out]
        simp only [List.foldl]
        clear hfr0 hK e7
        go_wp2_with fail
        go_simp
        go_meet
        exact ⟨_, F, _, rfl, grown_ch hCk.out hyo.out hch (value % 2) (by omega), hB0.out.2, .inr hB0.out.1⟩

    | false =>
      rw [hch] at y0
      have mv1 : 0 ≤ value % 20 := Int.emod_nonneg _ (by omega)
      have mv2 : value % 20 < 20 := Int.emod_lt_of_pos _ (by omega)
      go_upto_region 16 with fail
      refine wp_region_slots 9 [0, 1, 2, 3, 4, 5, 6, 7, 8] _ [77, 78, 79, 80, 81, 82, 83, 84, 85] (fun i _ u => u = ([.pointer (some ⟨P', 0, none⟩), .pointer (some ⟨bx, 1, none⟩), .string y.name, .pointer (some ⟨bx, 3, none⟩), .int .i64 y.day, .int .i64 value, .int .i64 (value % 20), .int .i64 (value % 20 - 5), .int .i64 (fixRes F y.name y.day (value % 20 - 5))] : List Value).getD i undef) (G2 8 (Ext w9) (fun W => w9.grownBy W (some f') ∧ Own w5 W P' f' c' (fixNew F y.name y.day (value % 20 - 5)) C)) (by kernel_rfl) rfl (by kernel_rfl) (by kernel_rfl) rfl rfl rfl (by decide) rfl ?_ ?_ ?_
      · exact .inl ⟨dn_none _ _, (Ext.refl _).drew⟩
      · refine slots_cons rfl ?_ (slots_cons rfl ?_ (slots_cons rfl ?_ (slots_cons rfl ?_ (slots_cons rfl ?_ (slots_cons rfl ?_ (slots_cons rfl ?_ (slots_cons rfl ?_ (slots_cons rfl ?_ slots_nil))))))))
        · intro l a W hs ho hG hd hne K' hK
          have b17 : a.tmps[17]?.getD undef = .pointer (some ⟨P', 0, none⟩) := ho.ev 17 rfl
          clear hd ho hne
          go_simp
          exact hK _ _ rfl (hG.keep (by decide)) (fun j' v' _ hf => hf)
        · intro l a W hs ho hG hd hne K' hK
          have b18 : a.tmps[18]?.getD undef = .pointer (some ⟨bx, 0, none⟩) := ho.ev 18 rfl
          clear hd ho hne
          go_simp
          exact hK _ _ rfl (hG.keep (by decide)) (fun j' v' _ hf => hf)
        · intro l a W hs ho hG hd hne K' hK
          have e1 : a.tmps[78]?.getD undef = .pointer (some ⟨bx, 1, none⟩) := hd ⟨1, .data⟩ (by simp) rfl
          have hcl : W.cell? ⟨bx, 1, none⟩ = some (.string y.name) := by
            rcases hG with ⟨_, h⟩ | ⟨_, h⟩
            · exact h.cell y1
            · exact h.1.cell y1 (by intro e; injection e with e; exact hbf e)
          clear hd ho hne
          go_simp
          exact hK _ _ rfl (hG.keep (by decide)) (fun j' v' _ hf => hf)
        · intro l a W hs ho hG hd hne K' hK
          have b18 : a.tmps[18]?.getD undef = .pointer (some ⟨bx, 0, none⟩) := ho.ev 18 rfl
          clear hd ho hne
          go_simp
          exact hK _ _ rfl (hG.keep (by decide)) (fun j' v' _ hf => hf)
        · intro l a W hs ho hG hd hne K' hK
          have e3 : a.tmps[80]?.getD undef = .pointer (some ⟨bx, 3, none⟩) := hd ⟨3, .data⟩ (by simp) rfl
          have hcl : W.cell? ⟨bx, 3, none⟩ = some (.int .i64 y.day) := by
            rcases hG with ⟨_, h⟩ | ⟨_, h⟩
            · exact h.cell y3
            · exact h.1.cell y3 (by intro e; injection e with e; exact hbf e)
          clear hd ho hne
          go_simp
          exact hK _ _ rfl (hG.keep (by decide)) (fun j' v' _ hf => hf)
        · intro l a W hs ho hG hd hne K' hK
          have b4 : a.tmps[4]?.getD undef = .int .i64 value := ho.ev 4 rfl
          clear hd ho hne
          go_simp
          exact hK _ _ rfl (hG.keep (by decide)) (fun j' v' _ hf => hf)
        · intro l a W hs ho hG hd hne K' hK
          have e5 : a.tmps[82]?.getD undef = .int .i64 value := hd ⟨5, .data⟩ (by simp) rfl
          clear hd ho hne
          go_simp
          go_at_call 34
          (with_reducible refine (HW20 W).mono ?_)
          rintro e W2 ⟨rfl, rfl⟩
          go_simp
          exact hK _ _ rfl (hG.keep (by decide)) (fun j' v' _ hf => hf)
        · intro l a W hs ho hG hd hne K' hK
          have e6 : a.tmps[83]?.getD undef = .int .i64 (value % 20) := hd ⟨6, .data⟩ (by simp) rfl
          have hwr : IntKind.i64.wrap (value % 20 - 5) = value % 20 - 5 := wrap_id _ (by omega) (by omega)
          clear hd ho hne
          go_simp
          exact hK _ _ rfl (hG.keep (by decide)) (fun j' v' _ hf => hf)
        · intro l a W hs ho hG hd hne K' hK
          have e0 : a.tmps[77]?.getD undef = .pointer (some ⟨P', 0, none⟩) := hd ⟨0, .data⟩ (by simp) rfl
          have e2 : a.tmps[79]?.getD undef = .string y.name := hd ⟨2, .data⟩ (by simp) rfl
          have e4 : a.tmps[81]?.getD undef = .int .i64 y.day := hd ⟨4, .data⟩ (by simp) rfl
          have e7 : a.tmps[84]?.getD undef = .int .i64 (value % 20 - 5) := hd ⟨7, .data⟩ (by simp) rfl
          have hA := hG.pre hne
          have hls : 8 < l.size := by rw [hs]; decide
          clear hd ho hne
          go_simp
          go_at_call 35
          (with_reducible refine (own_fix2 y.name y.day (value % 20 - 5) (hK9.out.keep hA)).mono ?_)
          rintro e W2 ⟨rfl, hO2, hg2⟩
          go_simp
          exact hK _ _ rfl (G2.go hls ⟨(ext_grown hA _).trans hg2, hO2⟩) (fun j' v' _ hf => hf)
      · intro l a W ho hG hall hF K' hK
        have e8 : a.tmps[85]?.getD undef = .int .i64 (fixRes F y.name y.day (value % 20 - 5)) := hF 8 (by omega)
        have hB := hG.post (hall 8 (by omega))
        obtain ⟨fr, hfr⟩ : ∃ fr : Tmp → Value, a = ([77, 78, 79, 80, 81, 82, 83, 84, 85] : List Tmp).foldl (fun b d => b.put (some d) (fr d)) _ := ⟨_, ho.puts⟩
        have hfr0 := Lib.hid hfr
        have hB0 := Lib.hid hB
        clear hfr ho hF hall hG hB
        go_simp
        refine hK _ _ ?_
        rw [hfr0.out]
        simp only [List.foldl]
        clear hfr0 hK e8
        go_wp2_with fail
        go_simp
        go_meet
        exact ⟨_, _, C, rfl, grown_fx hCk.out hyo.out hch (value % 20 - 5) ((Vd_iff _).2 (by omega)), hB0.out.2, .inl hB0.out.1⟩

  case rest =>
    obtain ⟨r, F', C', rfl, hG, hO, hgg⟩ := hcut
    obtain ⟨s0, s1, s2, s3, s4⟩ : wc.cell? ⟨bx, 0, none⟩ = some (.bool y.ch) ∧ wc.cell? ⟨bx, 1, none⟩ = some (.string y.name) ∧ wc.cell? ⟨bx, 2, none⟩ = some (.string y.label) ∧ wc.cell? ⟨bx, 3, none⟩ = some (.int .i64 y.day) ∧ wc.cell? ⟨bx, 4, none⟩ = some (.int .i64 y.side) := by
      rcases hgg with hg | hg
      · exact ⟨hg.cell y0 (by intro e; injection e with e; exact hbf e), hg.cell y1 (by intro e; injection e with e; exact hbf e), hg.cell y2 (by intro e; injection e with e; exact hbf e), hg.cell y3 (by intro e; injection e with e; exact hbf e), hg.cell y4 (by intro e; injection e with e; exact hbf e)⟩
      · exact ⟨hg.cell y0 (by intro e; injection e with e; exact hbc e), hg.cell y1 (by intro e; injection e with e; exact hbc e), hg.cell y2 (by intro e; injection e with e; exact hbc e), hg.cell y3 (by intro e; injection e with e; exact hbc e), hg.cell y4 (by intro e; injection e with e; exact hbc e)⟩
    have hfc : wc.ownsRow w6.heap.size 144 3 (.slice A1 Af.length C1) Af.length (flCells Af) := by
      rcases hgg with hg | hg
      · refine hf9.out.kept hg (.inr ?_)
        intro e; have := hfab.out _ e; have := hge.out.1; omega
      · refine hf9.out.kept hg (.inr ?_)
        intro e; have := hfab.out _ e; have := hge.out.2; omega
    have hEc := Lib.hid (hE4.out.trans hO.ext)
    obtain ⟨hGr, ⟨G, hGf⟩, ⟨D, hGc⟩, hGk, hGg⟩ := hG
    have HB := fun W (hW : Ext wc W) => HA F' C' P' f' c' W (hO.wld.ext hW)
    clear hgg hf9 y0 y1 y2 y3 y4 hbc hbf hK9 HA hfab hge hb7 HW2 HW20
    rcases hGr with rfl | rfl
    case inr =>
      clear HB hfc hO hGg
      go_wp2_with fail
      (with_reducible refine (wakes10_calls _).mono ?_)
      rintro e we ⟨rfl, hxe⟩
      go_wp2
      go_ret
      exact ⟨rfl, hEc.out.trans hxe⟩
    have hGh := Lib.hid (hGg rfl)
    clear hGg
    have hopB := hopen.out F' C' hGk
    obtain ⟨hl3', hl4'⟩ := hlen.out F' C'
    have hgrB := hgr G D
    rw [← hGf, ← hGc] at hgrB
    (go_wp2_with fail; (with_reducible refine (HB _ (Ext.refl _)).mono ?_); rintro e wb ⟨u3, u4, rfl, hfb, hwb, hxb⟩)
    obtain ⟨B1, D1, rfl, hb1, hb2⟩ := own_form hfb
    obtain ⟨B2, D2, rfl, hb3, hb4⟩ := own_form hwb
    unfold maxLen at hb2 hb4
    replace s0 := hxb.cell s0
    replace s1 := hxb.cell s1
    replace s2 := hxb.cell s2
    replace s3 := hxb.cell s3
    replace s4 := hxb.cell s4
    have hfa9 := Lib.hid (hxb.own hfc)
    have hEb := Lib.hid (hEc.out.trans hxb)
    rcases hways.out F' C' with ⟨e1, _⟩ | ⟨e1, e0⟩
    · rw [e1] at hfb hwb ⊢
      clear hfb hwb HB hfc hO e1 hxb hgrB hopB
      go_wp2_with fail
      (with_reducible refine (wakes10_calls _).mono ?_)
      rintro e we ⟨rfl, hxe⟩
      go_wp2
      go_ret
      exact ⟨rfl, hEb.out.trans hxe⟩
    have hsub := hgrB e0
    rw [e1] at hfb hwb hb1 hb3 ⊢
    rw [e0]
    clear hgrB hgr HB hfc hO hxb hEc hGf hGc hGk
    generalize o.walk F' C' ⟨#[116]⟩ d 1 ([], []) = B at *
    obtain ⟨Be, Bf, Bw⟩ := B
    simp only at *
    subst e0
    have hfb0 := Lib.hid hfb
    have hwb0 := Lib.hid hwb
    have hno := Lib.hid (fun z hz => hGh.out z (hopB z hz))
    have hsub := Lib.hid hsub
    clear e1 hfb hwb hopB hGh
    go_wp2_with fail
    go_loopw [110, 23] (fun i kv wr => ∃ j k : Nat, j ≤ Bf.length ∧ k ≤ Af.length ∧ i = .int .i64 j ∧ kv = .int .i64 k ∧ List.Sublist (Af.drop k) (Bf.drop j) ∧ Ext wb wr) (fun i _ _ => Bf.length - (intOf i).toNat)
    case atStart => exact ⟨0, 0, by omega, by omega, rfl, rfl, by simpa using hsub.out, Ext.refl _⟩
    case round =>
      obtain ⟨j, k, hj, hk, rfl, rfl, hs, hx⟩ := hrel
      by_cases hlt : j < Bf.length
      · have ex : Bf[j]? = some Bf[j] := List.getElem?_eq_getElem hlt
        generalize Bf[j] = x at ex
        obtain ⟨gb, rfl, q0, q1, q2⟩ := fl_at (hx.own hfb0.out) ex hlt
        have hj0 := Lib.hid (show j + 1 ≤ Bf.length from hlt)
        have hx0 := Lib.hid hx
        have hji : (j : Int) < (Bf.length : Int) := by omega
        have hji0 : (0 : Int) ≤ (j : Int) := by omega
        by_cases hka : k < Af.length
        · have ez : Af[k]? = some Af[k] := List.getElem?_eq_getElem hka
          generalize Af[k] = z at ez
          obtain ⟨ga, rfl, r0, r1, r2⟩ := fl_at (hx.own hfa9.out) ez hka
          have hkc : (k : Int) < (Af.length : Int) := by omega
          have hkc0 : (0 : Int) ≤ (k : Int) := by omega
          have hk0 := Lib.hid (show k + 1 ≤ Af.length from hka)
          have hE := fun W => hEf.out x z W
          cases hsm : x.same z with
          | true =>
            have hs1 := Lib.hid (sub_hit hs ex ez (Fl.same_eq hsm))
            simp only [hsm, Fl.val] at hE
            clear hs ex ez hx hsm
            go_wp2_with fail
            go_quiet (fail)
            go_wp2_with fail
            go_roundw
            case rel => exact ⟨j + 1, k + 1, hj0.out, hk0.out, by go_num, by go_num, hs1.out, hx0.out.drewN _⟩
            case measure => simp [intOf]; omega
          | false =>
            have hs1 := Lib.hid (sub_miss hs ex ez (Fl.same_ne hsm))
            simp only [hsm, Fl.val] at hE
            clear hs ex ez hx hsm
            go_wp2_with fail
            go_quiet (fail)
            go_wp2_with fail
            go_roundw
            case rel => exact ⟨j + 1, k, hj0.out, Nat.le_of_succ_le hk0.out, by go_num, by go_num, hs1.out, hx0.out.drewN _⟩
            case measure => simp [intOf]; omega
        · have hs1 := Lib.hid (sub_done hs (by omega))
          have hk0 := Lib.hid hk
          have hkd : decide ((k : Int) < (Af.length : Int)) = false := by simp; omega
          clear hs ex hx
          go_wp2_with fail
          go_quiet (fail)
          go_wp2_with fail
          go_roundw
          case rel => exact ⟨j + 1, k, hj0.out, hk0.out, by go_num, by go_num, hs1.out, hx0.out.drewN _⟩
          case measure => simp [intOf]; omega
      · obtain rfl : j = Bf.length := by omega
        have hke := sub_end hs
        obtain rfl : k = Af.length := by omega
        have hx0 := Lib.hid hx
        have hfbb := Lib.hid hwb0.out
        replace s0 := hx.cell s0
        replace s1 := hx.cell s1
        replace s2 := hx.cell s2
        replace s3 := hx.cell s3
        replace s4 := hx.cell s4
        clear hs hx hke
        go_wp2_with fail
        go_loopw [133] (fun i wq => ∃ j : Nat, j ≤ Bw.length ∧ i = .int .i64 j ∧ Ext wr wq) (fun i _ => Bw.length - (intOf i).toNat)
        case atStart => exact ⟨0, by omega, rfl, Ext.refl _⟩
        case round =>
          obtain ⟨m, hm, rfl, hxm⟩ := hrel
          by_cases hlt2 : m < Bw.length
          · have ex : Bw[m]? = some Bw[m] := List.getElem?_eq_getElem hlt2
            generalize Bw[m] = z at ex
            obtain ⟨gw, rfl, q0, q1, q2, q3, q4⟩ := wa_at ((hx0.out.trans hxm).own hwb0.out) ex hlt2
            have hzz := hno.out z (List.mem_of_getElem? ex)
            have hE := fun W => hEw.out z y W
            have hj0 := Lib.hid (show m + 1 ≤ Bw.length from hlt2)
            have hxm0 := Lib.hid hxm
            have hji : (m : Int) < (Bw.length : Int) := by omega
            have hji0 : (0 : Int) ≤ (m : Int) := by omega
            replace s0 := hxm.cell s0
            replace s1 := hxm.cell s1
            replace s2 := hxm.cell s2
            replace s3 := hxm.cell s3
            replace s4 := hxm.cell s4
            have hcs : z.same y = false ∨ (z.same y = true ∧ z.ch = true) := by
              cases h : z.same y with
              | false => exact .inl rfl
              | true => rw [h] at hzz; exact .inr ⟨rfl, hzz.resolve_left (by decide)⟩
            have hba : ∀ o : Obj, (wr.alloc o).cell? ⟨bx, 0, none⟩ = some (.bool y.ch) ∧ (wr.alloc o).cell? ⟨bx, 1, none⟩ = some (.string y.name) ∧ (wr.alloc o).cell? ⟨bx, 2, none⟩ = some (.string y.label) ∧ (wr.alloc o).cell? ⟨bx, 3, none⟩ = some (.int .i64 y.day) ∧ (wr.alloc o).cell? ⟨bx, 4, none⟩ = some (.int .i64 y.side) := fun o =>
              ⟨((Ext.refl wr).alloc o).cell s0, ((Ext.refl wr).alloc o).cell s1, ((Ext.refl wr).alloc o).cell s2, ((Ext.refl wr).alloc o).cell s3, ((Ext.refl wr).alloc o).cell s4⟩
            have hba0 := fun o => (hba o).1
            have hba1 := fun o => (hba o).2.1
            have hba2 := fun o => (hba o).2.2.1
            have hba3 := fun o => (hba o).2.2.2.1
            have hba4 := fun o => (hba o).2.2.2.2
            clear hzz ex hxm hba s0 s1 s2 s3 s4
            rcases hcs with h1 | ⟨h1, h2⟩
            · simp only [h1, Wa.val] at hE
              clear h1
              go_wp2_with fail
              go_roundw
              case rel => exact ⟨m + 1, hj0.out, by go_num, hxm0.out.trans ((by repeat' (first | (with_reducible exact Ext.refl _) | (with_reducible assumption) | (with_reducible refine Ext.alloc ?_ _) | (with_reducible refine Ext.drew ?_) | (with_reducible refine Ext.drewN ?_ _) | (with_reducible refine Ext.setCell ?_ (by first | exact Nat.le_refl _ | (simp; done) | (simp; omega) | omega) _) | (with_reducible refine Ext.trans ?_ (by assumption)))))⟩
              case measure => simp [intOf]; omega
            · simp only [h1, Wa.val, h2] at hE q0
              clear h1
              go_wp2_with fail
              go_roundw
              case rel => exact ⟨m + 1, hj0.out, by go_num, hxm0.out.trans ((by repeat' (first | (with_reducible exact Ext.refl _) | (with_reducible assumption) | (with_reducible refine Ext.alloc ?_ _) | (with_reducible refine Ext.drew ?_) | (with_reducible refine Ext.drewN ?_ _) | (with_reducible refine Ext.setCell ?_ (by first | exact Nat.le_refl _ | (simp; done) | (simp; omega) | omega) _) | (with_reducible refine Ext.trans ?_ (by assumption)))))⟩
              case measure => simp [intOf]; omega
          · obtain rfl : m = Bw.length := by omega
            have hxm0 := Lib.hid hxm
            clear hxm
            (go_wp2_with fail; (with_reducible refine (wakes10_calls _).mono ?_); rintro e w' ⟨rfl, hx8⟩)
            go_wp2
            go_ret
            exact ⟨rfl, ((hEb.out.trans hx0.out).trans hxm0.out).trans hx8⟩

end Go.Proofs.Ytgjjngkmbplijaa
