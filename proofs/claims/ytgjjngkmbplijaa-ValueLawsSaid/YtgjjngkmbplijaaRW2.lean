/- The document's world (ref04.World): Fixed, Chosen. -/
import Derived.Test.YtgjjngkmbplijaaRW1
namespace Go.Proofs.Ytgjjngkmbplijaa
open Go.RowKit
set_option linter.unusedSimpArgs false
set_option linter.unusedVariables false

theorem pair_beq {α β : Type} [BEq α] [BEq β] (a c : α) (b d : β) : ((a, b) == (c, d)) = (a == c && b == d) := rfl
/-- Two texts: the same, or not, as the walk spells it. -/
theorem text_ways (x s : ByteArray) : x = s ∨ ((x.toList == s.toList) = false ∧ (s == x) = false) := by
  by_cases h : x = s
  · exact .inl h
  · exact .inr ⟨by rw [bytes_beq]; exact beq_eq_false_iff_ne.2 h, beq_eq_false_iff_ne.2 (fun e => h e.symm)⟩
theorem int_ways (x d : Int) : x = d ∨ ((x == d) = false ∧ (d == x) = false) := by
  by_cases h : x = d
  · exact .inl h
  · exact .inr ⟨beq_eq_false_iff_ne.2 h, beq_eq_false_iff_ne.2 (fun e => h e.symm)⟩

set_option maxRecDepth 100000 in
set_option maxHeartbeats 1600000 in
theorem rfixed_calls (base : Nat) (w : World) (p : Nat) (v1 v2 : Value) (F : FixL) (C : ChL) (s : ByteArray) (d : Int) (h : RWld base w p v1 v2 F C) (hl : F.length ≤ 2 ^ 33) :
    Calls Try.prog 44 #[.pointer (some ⟨p, 0, none⟩), .string s, .int .i64 d] w fun e w' => e = .returned (.tuple #[.int .i64 ((F.lookup (s, d)).getD 0), .bool (F.lookup (s, d)).isSome]) ∧ Ext w w' := by
  obtain ⟨k0, k1, kf⟩ := h.cells
  obtain ⟨A, C1, rfl, hA1, hA2⟩ := own_form h.fl
  have H := Lib.hid h.fl
  unfold maxLen at hA2
  generalize hq : F.lookup (s, d) = q
  have Hq := Lib.hid hq
  clear hq h
  go_enter Try.func44, Try.ntmps44
  go_wp2_with fail
  go_loopw [15] (fun i wr => ∃ j : Nat, j ≤ F.length ∧ i = .int .i64 j ∧ (F.take j).lookup (s, d) = none ∧ Ext w wr) (fun i _ => F.length - (intOf i).toNat)
  case atStart => exact ⟨0, by omega, rfl, rfl, Ext.refl _⟩
  case round =>
    obtain ⟨j, hj, rfl, hno, hx⟩ := hrel
    by_cases hlt : j < F.length
    · have e1 : F[j]? = some F[j] := List.getElem?_eq_getElem hlt
      generalize F[j] = x at e1
      obtain ⟨g, rfl, c0, c1, c2⟩ := fx_at (hx.own H.out) e1 hlt
      have hs := lookup_take e1 (s, d)
      rw [hno, pair_beq] at hs
      have hf := fun b => lookup_front (l := F) (j := j + 1) (a := (s, d)) (b := b)
      obtain ⟨⟨xs, xd⟩, xv⟩ := x
      simp only [Option.none_or] at c0 c1 c2 hs
      have hj0 := Lib.hid (show j + 1 ≤ F.length from hlt)
      have hx0 := Lib.hid hx
      have hji : (j : Int) < (F.length : Int) := by omega
      have hji0 : (0 : Int) ≤ (j : Int) := by omega
      clear e1 hno hx
      rcases text_ways xs s with rfl | ⟨t1, t2⟩
      · rcases int_ways xd d with rfl | ⟨t3, t4⟩
        · have hv := Lib.hid (hf xv (by rw [hs]; simp))
          clear hs hf
          go_wp2
          go_ret2
          exact ⟨by rw [← Hq.out, hv.out]; rfl, hx0.out.trans ((by repeat' (first | (with_reducible exact Ext.refl _) | (with_reducible assumption) | (with_reducible refine Ext.alloc ?_ _) | (with_reducible refine Ext.drew ?_) | (with_reducible refine Ext.drewN ?_ _) | (with_reducible refine Ext.setCell ?_ (by first | exact Nat.le_refl _ | (simp; done) | (simp; omega) | omega) _) | (with_reducible refine Ext.trans ?_ (by assumption)))))⟩
        · have hs := Lib.hid (show List.lookup (xs, d) (F.take (j + 1)) = none by rw [hs, t4]; simp)
          clear hf t4
          go_wp2_with fail
          go_roundw
          case rel => exact ⟨j + 1, hj0.out, by go_num, hs.out, hx0.out.trans ((by repeat' (first | (with_reducible exact Ext.refl _) | (with_reducible assumption) | (with_reducible refine Ext.alloc ?_ _) | (with_reducible refine Ext.drew ?_) | (with_reducible refine Ext.drewN ?_ _) | (with_reducible refine Ext.setCell ?_ (by first | exact Nat.le_refl _ | (simp; done) | (simp; omega) | omega) _) | (with_reducible refine Ext.trans ?_ (by assumption)))))⟩
          case measure => simp [intOf]; omega
      · have hs := Lib.hid (show List.lookup (s, d) (F.take (j + 1)) = none by rw [hs, t2]; simp)
        clear hf t2
        go_wp2_with fail
        go_roundw
        case rel => exact ⟨j + 1, hj0.out, by go_num, hs.out, hx0.out.trans ((by repeat' (first | (with_reducible exact Ext.refl _) | (with_reducible assumption) | (with_reducible refine Ext.alloc ?_ _) | (with_reducible refine Ext.drew ?_) | (with_reducible refine Ext.drewN ?_ _) | (with_reducible refine Ext.setCell ?_ (by first | exact Nat.le_refl _ | (simp; done) | (simp; omega) | omega) _) | (with_reducible refine Ext.trans ?_ (by assumption)))))⟩
        case measure => simp [intOf]; omega
    · obtain rfl : j = F.length := by omega
      rw [List.take_length] at hno
      rw [hno] at Hq
      have hx0 := Lib.hid hx
      clear hx hno
      go_wp2
      go_ret2
      exact ⟨by rw [← Hq.out]; rfl, hx0.out⟩

set_option maxRecDepth 100000 in
set_option maxHeartbeats 1600000 in
theorem rchosen_calls (base : Nat) (w : World) (p : Nat) (v1 v2 : Value) (F : FixL) (C : ChL) (s d : ByteArray) (h : RWld base w p v1 v2 F C) (hl : C.length ≤ 2 ^ 33) :
    Calls Try.prog 45 #[.pointer (some ⟨p, 0, none⟩), .string s, .string d] w fun e w' => e = Ret3 ((C.lookup (s, d)).getD (0, 0)).1 ((C.lookup (s, d)).getD (0, 0)).2 (C.lookup (s, d)).isSome ∧ Ext w w' := by
  obtain ⟨k0, k1, kf⟩ := h.cells
  obtain ⟨A, C1, rfl, hA1, hA2⟩ := own_form h.ch
  have H := Lib.hid h.ch
  unfold maxLen at hA2
  generalize hq : C.lookup (s, d) = q
  have Hq := Lib.hid hq
  clear hq h
  go_enter Try.func45, Try.ntmps45
  go_wp2_with fail
  go_loopw [16] (fun i wr => ∃ j : Nat, j ≤ C.length ∧ i = .int .i64 j ∧ (C.take j).lookup (s, d) = none ∧ Ext w wr) (fun i _ => C.length - (intOf i).toNat)
  case atStart => exact ⟨0, by omega, rfl, rfl, Ext.refl _⟩
  case round =>
    obtain ⟨j, hj, rfl, hno, hx⟩ := hrel
    by_cases hlt : j < C.length
    · have e1 : C[j]? = some C[j] := List.getElem?_eq_getElem hlt
      generalize C[j] = x at e1
      obtain ⟨g, rfl, c0, c1, c2, c3⟩ := cc_at (hx.own H.out) e1 hlt
      have hs := lookup_take e1 (s, d)
      rw [hno, pair_beq] at hs
      have hf := fun b => lookup_front (l := C) (j := j + 1) (a := (s, d)) (b := b)
      obtain ⟨⟨xs, xd⟩, ⟨xv, xe⟩⟩ := x
      simp only [Option.none_or] at c0 c1 c2 c3 hs
      have hj0 := Lib.hid (show j + 1 ≤ C.length from hlt)
      have hx0 := Lib.hid hx
      have hji : (j : Int) < (C.length : Int) := by omega
      have hji0 : (0 : Int) ≤ (j : Int) := by omega
      clear e1 hno hx
      rcases text_ways xs s with rfl | ⟨t1, t2⟩
      · rcases text_ways xd d with rfl | ⟨t3, t4⟩
        · have hv := Lib.hid (hf (xv, xe) (by rw [hs]; simp))
          clear hs hf
          go_wp2_with fail
          go_quiet (fail)
          go_wp2
          go_ret3
          exact ⟨by rw [← Hq.out, hv.out]; rfl, hx0.out.trans ((by repeat' (first | (with_reducible exact Ext.refl _) | (with_reducible assumption) | (with_reducible refine Ext.alloc ?_ _) | (with_reducible refine Ext.drew ?_) | (with_reducible refine Ext.drewN ?_ _) | (with_reducible refine Ext.setCell ?_ (by first | exact Nat.le_refl _ | (simp; done) | (simp; omega) | omega) _) | (with_reducible refine Ext.trans ?_ (by assumption)))))⟩
        · have hs := Lib.hid (show List.lookup (xs, d) (C.take (j + 1)) = none by rw [hs, t4]; simp)
          clear hf t4
          go_wp2_with fail
          go_roundw
          case rel => exact ⟨j + 1, hj0.out, by go_num, hs.out, hx0.out.trans ((by repeat' (first | (with_reducible exact Ext.refl _) | (with_reducible assumption) | (with_reducible refine Ext.alloc ?_ _) | (with_reducible refine Ext.drew ?_) | (with_reducible refine Ext.drewN ?_ _) | (with_reducible refine Ext.setCell ?_ (by first | exact Nat.le_refl _ | (simp; done) | (simp; omega) | omega) _) | (with_reducible refine Ext.trans ?_ (by assumption)))))⟩
          case measure => simp [intOf]; omega
      · have hs := Lib.hid (show List.lookup (s, d) (C.take (j + 1)) = none by rw [hs, t2]; simp)
        clear hf t2
        go_wp2_with fail
        go_roundw
        case rel => exact ⟨j + 1, hj0.out, by go_num, hs.out, hx0.out.trans ((by repeat' (first | (with_reducible exact Ext.refl _) | (with_reducible assumption) | (with_reducible refine Ext.alloc ?_ _) | (with_reducible refine Ext.drew ?_) | (with_reducible refine Ext.drewN ?_ _) | (with_reducible refine Ext.setCell ?_ (by first | exact Nat.le_refl _ | (simp; done) | (simp; omega) | omega) _) | (with_reducible refine Ext.trans ?_ (by assumption)))))⟩
        case measure => simp [intOf]; omega
    · obtain rfl : j = C.length := by omega
      rw [List.take_length] at hno
      rw [hno] at Hq
      have hx0 := Lib.hid hx
      clear hx hno
      go_wp2
      go_ret3
      exact ⟨by rw [← Hq.out]; rfl, hx0.out⟩

end Go.Proofs.Ytgjjngkmbplijaa
