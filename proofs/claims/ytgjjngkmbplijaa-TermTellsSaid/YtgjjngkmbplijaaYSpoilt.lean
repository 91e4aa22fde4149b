/- Package play: a spoilt tree (Spoilt). -/
import Derived.Test.YtgjjngkmbplijaaYSpoil
import Derived.Test.YtgjjngkmbplijaaZRf
import Derived.Deep.RegionHeld3

namespace Go.Proofs.Ytgjjngkmbplijaa
open Go.RowKit
set_option linter.unusedSimpArgs false
set_option linter.unusedVariables false

/-- A spoilt tree comes back; nothing that was there has turned. -/
def RetSpt (q : Nat → Prop) (w : World) (t : Tr) (e : Ending) (w' : World) : Prop :=
  ∃ u : HT, e = .returned u.val ∧ Spd t u.tr ∧ u.InE (fun y => q y ∨ w.heap.size ≤ y) w' ∧ Ext w w'
set_option maxRecDepth 100000 in
set_option maxHeartbeats 1600000 in
theorem spoilt_calls (h : HT) (q : Nat → Prop) (w : World) (at0 what v : Int) (s : ByteArray) (hin : h.InE q w) (hq : ∀ y, q y → y < w.heap.size) (hev : h.tr.everyLen ≤ 2 ^ 30) (hn1 : 1 ≤ h.tr.nodes) (hn2 : h.tr.nodes ≤ 2 ^ 30)
    (a1 : -9223372036854775808 ≤ at0) (a2 : at0 ≤ 9223372036854775807) (b1 : -9223372036854775808 ≤ what) (b2 : what ≤ 9223372036854775807) (v1 : -9223372036854775808 ≤ v) (v2 : v ≤ 9223372036854775807) (hs : s.size ≤ maxLen) :
    Calls Try.prog 104 #[h.val, .int .i64 at0, .int .i64 what, .int .i64 v, .string s] w fun e w' => RetSpt q w h.tr e w' := by
  have H1 := fun W (hW : Ext w W) => rsize_calls _ h (fun _ => True) W (Nat.lt_succ_self _) (hin.ext hW).any (by omega)
  have HW := fun W => within_calls at0 h.tr.nodes W (by omega) (by omega) a1 a2
  have hm0 : 0 ≤ at0 % (h.tr.nodes : Int) := Int.emod_nonneg _ (by omega)
  have hm1 : at0 % (h.tr.nodes : Int) < h.tr.nodes := Int.emod_lt_of_pos _ (by omega)
  have H2 := fun W (hW : Ext w W) => spoil_calls _ h q W (at0 % (h.tr.nodes : Int)) what v s (Nat.lt_succ_self _) (hin.ext hW) (fun y hy => Nat.lt_of_lt_of_le (hq y hy) hW.le) hev hm0 (by omega) b1 b2 v1 v2 hs
  have hF0 : Four ((w.alloc (.cells #[.int .i64 h.kd, .string h.s, .int .i64 h.n, .slice h.a h.k.length h.c] 76)).alloc fourZ) (w.heap.size + 1) := ⟨_, _, _, _, by
    have h2 := heap_alloc_new (w.alloc (.cells #[.int .i64 h.kd, .string h.s, .int .i64 h.n, .slice h.a h.k.length h.c] 76)) fourZ
    have e : (w.alloc (.cells #[.int .i64 h.kd, .string h.s, .int .i64 h.n, .slice h.a h.k.length h.c] 76)).heap.size = w.heap.size + 1 := by simp
    rwa [e] at h2⟩
  have hB0 : ((w.alloc (.cells #[.int .i64 h.kd, .string h.s, .int .i64 h.n, .slice h.a h.k.length h.c] 76)).alloc fourZ).heap[w.heap.size]? = some (.cells #[.int .i64 h.kd, .string h.s, .int .i64 h.n, .slice h.a h.k.length h.c] 76 (0, 0)) := ((Ext.refl _).alloc _).obj (heap_alloc_new _ _)
  have hX : Ext w ((w.alloc (.cells #[.int .i64 h.kd, .string h.s, .int .i64 h.n, .slice h.a h.k.length h.c] 76)).alloc fourZ) := ((Ext.refl w).alloc _).alloc _
  have hXs : ((w.alloc (.cells #[.int .i64 h.kd, .string h.s, .int .i64 h.n, .slice h.a h.k.length h.c] 76)).alloc fourZ).heap.size = w.heap.size + 2 := by simp
  have HH := Lib.hid (And.intro hX (And.intro hXs (And.intro hF0 (And.intro hB0 hq))))
  clear hin hq hev hn1 hn2 a1 a2 b1 b2 v1 v2 hs hm0 hm1 hX hXs hF0 hB0
  generalize h.tr.nodes = nn at *
  generalize h.tr.depth = dd at *
  generalize h.tr = tt at *
  unfold HT.val at H1 H2 ⊢
  generalize h.kd = kd at *
  generalize h.s = ss at *
  generalize h.n = hn at *
  generalize h.a = ha at *
  generalize h.c = hc at *
  generalize h.k.length = hl at *
  clear h
  generalize at0 % (nn : Int) = am at *
  go_enter Try.func104, Try.ntmps104
  (go_wp2_with fail; (with_reducible refine (H1 _ ((by repeat' (first | (with_reducible exact Ext.refl _) | (with_reducible assumption) | (with_reducible refine Ext.alloc ?_ _) | (with_reducible refine Ext.drew ?_) | (with_reducible refine Ext.drewN ?_ _) | (with_reducible refine Ext.setCell ?_ (by first | exact Nat.le_refl _ | (simp; done) | (simp; omega) | omega) _) | (with_reducible refine Ext.trans ?_ (by assumption)))))).mono ?_); rintro e w' ⟨rfl, hx4⟩)
  have hE4 := HH.out.1.trans hx4
  have hF4 := HH.out.2.2.1.ext hx4
  have hB4 := hx4.obj HH.out.2.2.2.1
  have hle4 := hx4.le
  rw [HH.out.2.1] at hle4
  obtain ⟨k0, kf, kl⟩ := obj_cells hB4
  have c0 := k0 0 _ rfl
  have c1 := k0 1 _ rfl
  have c2 := k0 2 _ rfl
  have c3 := k0 3 _ rfl
  have HL := Lib.hid (And.intro hE4 (And.intro hF4 HH.out.2.2.2.2))
  clear hx4 hF4 hB4 HH H1 k0
  have hgl : w.heap.size < w'.heap.size + 1 := by omega
  have hgl0 : w.heap.size < w'.heap.size := by omega
  have hne1 : w'.heap.size ≠ w.heap.size := by omega
  have hne2 : w.heap.size ≠ w'.heap.size := by omega
  have hne3 : ¬ w'.heap.size = w.heap.size := hne1
  go_upto_region 3 with fail
  go_region_held3 (fun W => W.cell? ⟨w.heap.size, 0, none⟩ = some (.int .i64 kd) ∧ W.cell? ⟨w.heap.size, 1, none⟩ = some (.string ss) ∧ W.cell? ⟨w.heap.size, 2, none⟩ = some (.int .i64 hn) ∧ W.cell? ⟨w.heap.size, 3, none⟩ = some (.slice ha hl hc)) (go_keep)
    (first | (go_at_call 34; (with_reducible refine (HW _).mono ?_); rintro e w5 ⟨rfl, rfl⟩) | (go_at_call 134; (with_reducible refine (H2 _ ((by repeat' (first | (with_reducible exact Ext.refl _) | (with_reducible assumption) | (with_reducible refine Ext.alloc ?_ _) | (with_reducible refine Ext.drew ?_) | (with_reducible refine Ext.drewN ?_ _) | (with_reducible refine Ext.setCell ?_ (by first | exact Nat.le_refl _ | (simp; done) | (simp; omega) | omega) _) | (with_reducible refine Ext.trans ?_ (by assumption)))))).mono ?_); rintro e w6 ⟨u, b, rfl, hsp, hb1, hb2, hui, hx6⟩; obtain ⟨hcc, hff⟩ := hx6.cells; unfold HT.val))
  have hx5 : Ext w' w6 := ((by repeat' (first | (with_reducible exact Ext.refl _) | (with_reducible assumption) | (with_reducible refine Ext.alloc ?_ _) | (with_reducible refine Ext.drew ?_) | (with_reducible refine Ext.drewN ?_ _) | (with_reducible refine Ext.setCell ?_ (by first | exact Nat.le_refl _ | (simp; done) | (simp; omega) | omega) _) | (with_reducible refine Ext.trans ?_ (by assumption)))))
  have hF6 := (HL.out.2.1.ext hx5).grown (put4_grown w6 w'.heap.size u.kd u.s u.n (.slice u.a u.k.length u.c)) (by omega)
  have hB6 := ((four_at (w := w')).ext (((Ext.refl _).drew).trans hx6)).put u.kd u.s u.n (.slice u.a u.k.length u.c)
  have hI6 := (hui.weak (q' := fun y => (q y ∨ w.heap.size ≤ y) ∧ y ≠ w'.heap.size ∧ y ≠ w.heap.size + 1) (fun y hy => by
    have h3 : q y → y < w.heap.size := HL.out.2.2 y
    have h4 : (w'.alloc (.cells #[.int .i64 0, .string ⟨#[]⟩, .int .i64 0, .slice none 0 0] 76)).drew.heap.size = w'.heap.size + 1 := by simp
    rcases hy.1 with h | h
    · have := h3 h; exact ⟨.inl h, by omega, by omega⟩
    · have : w'.heap.size + 1 ≤ y := by rw [← h4]; exact h
      exact ⟨.inr (by omega), by omega, by omega⟩)).grown (fun y hy => hy.2.1) (put4_grown w6 w'.heap.size u.kd u.s u.n (.slice u.a u.k.length u.c))
  have hE6 := put4_ext (HL.out.1.trans hx5) (b := w'.heap.size) (by omega) u.kd u.s u.n (.slice u.a u.k.length u.c)
  have hfold : put4 w6 w'.heap.size u.kd u.s u.n (.slice u.a u.k.length u.c) = ((((w6.setCell ⟨w'.heap.size, 0, none⟩ (.int .i64 u.kd)).setCell ⟨w'.heap.size, 1, none⟩ (.string u.s)).setCell ⟨w'.heap.size, 2, none⟩ (.int .i64 u.n)).setCell ⟨w'.heap.size, 3, none⟩ (.slice u.a u.k.length u.c)) := rfl
  rw [← hfold]
  clear hfold
  generalize put4 w6 w'.heap.size u.kd u.s u.n (.slice u.a u.k.length u.c) = Y at *
  obtain ⟨r0, rf, rl⟩ := obj_cells hB6
  have z0 := r0 0 _ rfl
  have z1 := r0 1 _ rfl
  have z2 := r0 2 _ rfl
  have z3 := r0 3 _ rfl
  obtain ⟨⟨y0, d0⟩, ⟨y1, d1⟩, ⟨y2, d2⟩, ⟨y3, d3⟩, hfz⟩ := hF6.cells
  have HE := Lib.hid (And.intro hF6 (And.intro hE6 (And.intro hI6 hsp)))
  clear hF6 hB6 hI6 hE6 hx5 hx6 hui hsp hcc hff r0 HW H2
  go_wp2
  apply bodyPost_ret (v := u.val)
  · exact put4_at HE.out.1 u _ 0 _ 10 rfl rfl
  · rfl
  exact ⟨u, rfl, HE.out.2.2.2, ((HE.out.2.2.1.grown (fun y hy => hy.2.2) (put4_grown _ _ _ _ _ _)).weak (fun y hy => hy.1)), put4_ext HE.out.2.1 (by omega) _ _ _ _⟩

end Go.Proofs.Ytgjjngkmbplijaa
