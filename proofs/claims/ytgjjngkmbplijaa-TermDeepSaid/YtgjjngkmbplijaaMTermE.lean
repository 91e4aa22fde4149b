/- The maker of package play: contracts: all cases; the contract of a plan. -/
import Derived.Test.YtgjjngkmbplijaaMTermA
import Derived.Test.YtgjjngkmbplijaaMTermB
import Derived.Test.YtgjjngkmbplijaaMTermC
import Derived.Test.YtgjjngkmbplijaaMTermD
import Derived.Test.YtgjjngkmbplijaaMTermF
import Derived.Test.YtgjjngkmbplijaaMTermG
namespace Go.Proofs.Ytgjjngkmbplijaa
open Go.RowKit
set_option linter.unusedSimpArgs false
set_option linter.unusedVariables false

theorem mterm_calls (p : Pl) : ∀ d, d ≤ 10 → TermAt p d := by
  intro d
  induction d with
  | zero =>
    intro _ w m i left lab h hi hl1 hl2 hlab
    exact mterm_zero p w m i left lab h hi hl1 hl2
  | succ d ih =>
    intro hd w m i left lab h hi hl1 hl2 hlab
    have ih := ih (by omega)
    have hc : costM (d + 1) = 20 + 2 * costM d := rfl
    have k1 := nextN_lo p i 13 (by omega)
    have k2 := nextN_hi p i 13 (by omega)
    by_cases hlow : left - 1 ≤ 0
    · exact mterm_low p d w m i left lab h (by omega) (by omega) hl2 (by omega) hlow
    by_cases h0 : nextN p i 13 ≤ 2
    · exact mterm_mid p d w m i left lab h (by omega) (by omega) hl2 (by omega) (by omega) h0
    by_cases h1 : nextN p i 13 ≤ 4
    · exact mterm_give p d ih w m i left lab h hi hl1 hl2 hlab (by omega) (by omega) (by omega)
    by_cases h2 : nextN p i 13 ≤ 6
    · exact mterm_and p d ih w m i left lab h hi hl1 hl2 hlab (by omega) (by omega) (by omega)
    by_cases h3 : nextN p i 13 ≤ 8
    · exact mterm_or p d ih w m i left lab h hi hl1 hl2 hlab (by omega) (by omega) (by omega)
    by_cases h4 : nextN p i 13 ≤ 10
    · exact mterm_scale p d ih w m i left lab h hi hl1 hl2 hlab (by omega) (by omega) (by omega)
    by_cases h5 : nextN p i 13 = 11
    · exact mterm_when p d ih w m i left lab h hi hl1 hl2 hlab (by omega) (by omega) h5
    · exact mterm_if p d ih w m i left lab h hi hl1 hl2 hlab (by omega) (by omega) (by omega)

/-- The contract of a plan, as a tree. -/
def conT (p : Pl) : Tr := (termT p 5 0 24 0).1
theorem conT_ok (p : Pl) : ∃ o, TeOk (conT p) 5 o := termT_ok p 5 0 24 0 (by decide)

set_option maxRecDepth 100000 in
set_option maxHeartbeats 800000 in
theorem contract_calls (p : Pl) (w : World) (hp : p.In (· < w.heap.size) w) : Calls Try.prog 73 #[p.val] w fun e w' => RetH w (conT p) e w' := by
  have hx : Ext w ((w.alloc (.cells #[.slice p.a p.n p.c, .slice p.a2 p.n2 p.c2] 72)).alloc fourZ) := ((Ext.refl w).alloc _).alloc _
  have hM := mk_new hp hx 24
  have hs : ((w.alloc (.cells #[.slice p.a p.n p.c, .slice p.a2 p.n2 p.c2] 72)).alloc fourZ).heap.size = w.heap.size + 1 + 1 := by simp
  have hF : Four ((w.alloc (.cells #[.slice p.a p.n p.c, .slice p.a2 p.n2 p.c2] 72)).alloc fourZ) (w.heap.size + 1) := ⟨_, _, _, _, by
    have h := heap_alloc_new (w.alloc (.cells #[.slice p.a p.n p.c, .slice p.a2 p.n2 p.c2] 72)) fourZ
    have e : (w.alloc (.cells #[.slice p.a p.n p.c, .slice p.a2 p.n2 p.c2] 72)).heap.size = w.heap.size + 1 := by simp
    rwa [e] at h⟩
  rw [hs] at hM
  have hF2 := hF.ext ((Ext.refl _).alloc (.cells #[.slice p.a p.n p.c, .slice p.a2 p.n2 p.c2, .int .i64 0, .int .i64 24, .int .i64 0] 192))
  have hx2 := hx.alloc (.cells #[.slice p.a p.n p.c, .slice p.a2 p.n2 p.c2, .int .i64 0, .int .i64 24, .int .i64 0] 192)
  have H := mterm_calls p 5 (by decide) _ _ 0 24 0 hM (by decide) (by decide) (by decide) (by decide)
  have hs2 := hx2.le
  rw [show ((5 : Nat) : Int) = 5 from rfl] at H
  have HH := Lib.hid (And.intro hF2 hx2)
  have HL := Lib.hid hs2
  clear hp hx hM hs hF hF2 hx2 hs2
  unfold Pl.val
  unfold conT
  generalize termT p 5 0 24 0 = r at *
  go_enter Try.func73, Try.ntmps73
  (go_wp2_with fail; (with_reducible refine (H).mono ?_); rintro e w' ⟨t, rfl, ht, hin, hM2, hg2⟩)
  clear H hM2
  have hF3 := HH.out.1.grown hg2 (by omega)
  have hx3 := HH.out.2.grown hg2 (fun k e => by injection e with e; omega)
  have hin2 := hin.weak (q' := fun x => w.heap.size ≤ x ∧ x ≠ w.heap.size + 1) (fun y hy => by simp at hy; omega)
  obtain ⟨⟨y0, d0⟩, ⟨y1, d1⟩, ⟨y2, d2⟩, ⟨y3, d3⟩, hfz⟩ := hF3.cells
  have HE := Lib.hid (And.intro hF3 (And.intro hx3 (And.intro hin2 ht)))
  clear hF3 hx3 hin hin2 hg2 ht
  unfold HT.val
  go_wp2
  apply bodyPost_ret (v := t.val)
  · exact put4_at HE.out.1 t _ 0 _ 2 rfl rfl
  · rfl
  exact ⟨t, rfl, HE.out.2.2.2, ((HE.out.2.2.1.grown (fun y hy => hy.2) (put4_grown _ _ _ _ _ _)).weak (fun y hy => hy.1)), put4_ext HE.out.2.1 (by omega) _ _ _ _⟩

end Go.Proofs.Ytgjjngkmbplijaa
