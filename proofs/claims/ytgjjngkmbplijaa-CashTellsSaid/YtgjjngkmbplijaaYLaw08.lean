/- Package world at the laws: each step from a world that is known, in the law's own memory; the law's 'wakes'. -/
import Derived.Test.YtgjjngkmbplijaaZWo

namespace Go.Proofs.Ytgjjngkmbplijaa
open Go.RowKit
set_option linter.unusedSimpArgs false
set_option linter.unusedVariables false

/-- A world of the law's own: what it was at the law's beginning, w0, has not turned. -/
structure Own (w0 w : World) (p f c : Nat) (F : FixL) (C : ChL) : Prop where
  wld : Wld w p f c F C
  ext : Ext w0 w
  p0 : w0.heap.size ≤ p
  f0 : w0.heap.size ≤ f
  c0 : w0.heap.size ≤ c

section
variable {w0 w w' : World} {p f c : Nat} {F F' : FixL} {C C' : ChL}
theorem Own.step (h : Own w0 w p f c F C) {row : Nat} (hr : row = f ∨ row = c) (hW : Wld w' p f c F' C') (hg : w.grownBy w' (some row)) : Own w0 w' p f c F' C' :=
  ⟨hW, h.ext.grown hg (fun k hk => by
    injection hk with hk
    subst hk
    rcases hr with rfl | rfl
    · exact h.f0
    · exact h.c0), h.p0, h.f0, h.c0⟩
theorem Own.keep (h : Own w0 w p f c F C) (k : Ext w w') : Own w0 w' p f c F C := ⟨h.wld.ext k, h.ext.trans k, h.p0, h.f0, h.c0⟩
/-- Another world's step leaves this one as it is. -/
theorem Own.other (h : Own w0 w p f c F C) {row : Nat} (hg : w.grownBy w' (some row)) (hr : row ≠ p ∧ row ≠ f ∧ row ≠ c) (h0 : w0.heap.size ≤ row) : Own w0 w' p f c F C := by
  obtain ⟨h1, h2, h3⟩ := h.wld.lts
  refine ⟨h.wld.keep fun k hk => hg.block k ?_ ?_, h.ext.grown hg (fun k hk => by injection hk with hk; omega), h.p0, h.f0, h.c0⟩
  · rcases hk with rfl | rfl | rfl <;> assumption
  · intro e
    injection e with e
    rcases hk with rfl | rfl | rfl <;> omega

theorem fix_arg (s : ByteArray) (d v : Int) (h : Own w0 w p f c F C) (ha : isName s = false ∨ dayB d = false ∨ Vd v = false) :
    Calls Try.prog 35 #[.pointer (some ⟨p, 0, none⟩), .string s, .int .i64 d, .int .i64 v] w fun e w' => e = .returned (.int .i64 1) ∧ Own w0 w' p f c F C ∧ w.grownBy w' (some f) := by
  refine (fix_calls p f c F C s d v w h.wld).mono ?_
  obtain ⟨e1, e2⟩ := fixRes_arg (F := F) ha
  rw [e1, e2]
  rintro e w' ⟨rfl, hW, hg⟩
  exact ⟨rfl, h.step (.inl rfl) hW hg, hg⟩
theorem fix_there (s : ByteArray) (d v : Int) (h : Own w0 w p f c F C) (h1 : isName s = true) (h2 : dayB d = true) (h3 : Vd v = true) (hl : (F.lookup (s, d)).isSome = true) :
    Calls Try.prog 35 #[.pointer (some ⟨p, 0, none⟩), .string s, .int .i64 d, .int .i64 v] w fun e w' => e = .returned (.int .i64 4) ∧ Own w0 w' p f c F C ∧ w.grownBy w' (some f) := by
  refine (fix_calls p f c F C s d v w h.wld).mono ?_
  obtain ⟨e1, e2⟩ := fixRes_there h1 h2 h3 hl
  rw [e1, e2]
  rintro e w' ⟨rfl, hW, hg⟩
  exact ⟨rfl, h.step (.inl rfl) hW hg, hg⟩
theorem fix_limit (s : ByteArray) (d v : Int) (h : Own w0 w p f c F C) (h1 : isName s = true) (h2 : dayB d = true) (h3 : Vd v = true) (hl : (F.lookup (s, d)).isSome = false) (h4 : 32 ≤ F.length) :
    Calls Try.prog 35 #[.pointer (some ⟨p, 0, none⟩), .string s, .int .i64 d, .int .i64 v] w fun e w' => e = .returned (.int .i64 5) ∧ Own w0 w' p f c F C ∧ w.grownBy w' (some f) := by
  refine (fix_calls p f c F C s d v w h.wld).mono ?_
  obtain ⟨e1, e2⟩ := fixRes_limit h1 h2 h3 hl h4
  rw [e1, e2]
  rintro e w' ⟨rfl, hW, hg⟩
  exact ⟨rfl, h.step (.inl rfl) hW hg, hg⟩
theorem fix_ok (s : ByteArray) (d v : Int) (h : Own w0 w p f c F C) (h1 : isName s = true) (h2 : dayB d = true) (h3 : Vd v = true) (hl : (F.lookup (s, d)).isSome = false) (h4 : F.length < 32) :
    Calls Try.prog 35 #[.pointer (some ⟨p, 0, none⟩), .string s, .int .i64 d, .int .i64 v] w fun e w' => e = .returned (.int .i64 0) ∧ Own w0 w' p f c (F ++ [((s, d), v)]) C ∧ w.grownBy w' (some f) := by
  refine (fix_calls p f c F C s d v w h.wld).mono ?_
  obtain ⟨e1, e2⟩ := fixRes_ok h1 h2 h3 hl h4
  rw [e1, e2]
  rintro e w' ⟨rfl, hW, hg⟩
  exact ⟨rfl, h.step (.inl rfl) hW hg, hg⟩
theorem ch_arg (s t : ByteArray) (k d : Int) (h : Own w0 w p f c F C) (ha : isName s = false ∨ isName t = false ∨ sideB k = false ∨ dayB d = false) :
    Calls Try.prog 36 #[.pointer (some ⟨p, 0, none⟩), .string s, .string t, .int .i64 k, .int .i64 d] w fun e w' => e = .returned (.int .i64 1) ∧ Own w0 w' p f c F C ∧ w.grownBy w' (some c) := by
  refine (choose_calls p f c F C s t k d w h.wld).mono ?_
  obtain ⟨e1, e2⟩ := chRes_arg (C := C) ha
  rw [e1, e2]
  rintro e w' ⟨rfl, hW, hg⟩
  exact ⟨rfl, h.step (.inr rfl) hW hg, hg⟩
theorem ch_there (s t : ByteArray) (k d : Int) (h : Own w0 w p f c F C) (h1 : isName s = true) (h2 : isName t = true) (h3 : sideB k = true) (h4 : dayB d = true) (hl : (C.lookup (s, t)).isSome = true) :
    Calls Try.prog 36 #[.pointer (some ⟨p, 0, none⟩), .string s, .string t, .int .i64 k, .int .i64 d] w fun e w' => e = .returned (.int .i64 4) ∧ Own w0 w' p f c F C ∧ w.grownBy w' (some c) := by
  refine (choose_calls p f c F C s t k d w h.wld).mono ?_
  obtain ⟨e1, e2⟩ := chRes_there h1 h2 h3 h4 hl
  rw [e1, e2]
  rintro e w' ⟨rfl, hW, hg⟩
  exact ⟨rfl, h.step (.inr rfl) hW hg, hg⟩
theorem ch_ok (s t : ByteArray) (k d : Int) (h : Own w0 w p f c F C) (h1 : isName s = true) (h2 : isName t = true) (h3 : sideB k = true) (h4 : dayB d = true) (hl : (C.lookup (s, t)).isSome = false) :
    Calls Try.prog 36 #[.pointer (some ⟨p, 0, none⟩), .string s, .string t, .int .i64 k, .int .i64 d] w fun e w' => e = .returned (.int .i64 0) ∧ Own w0 w' p f c F (C ++ [((s, t), (k, d))]) ∧ w.grownBy w' (some c) := by
  refine (choose_calls p f c F C s t k d w h.wld).mono ?_
  obtain ⟨e1, e2⟩ := chRes_ok h1 h2 h3 h4 hl
  rw [e1, e2]
  rintro e w' ⟨rfl, hW, hg⟩
  exact ⟨rfl, h.step (.inr rfl) hW hg, hg⟩
theorem new_own (h : Ext w0 w) : Calls Try.prog 33 #[] w fun e w' => ∃ p f c, e = .returned (.pointer (some ⟨p, 0, none⟩)) ∧ Own w0 w' p f c [] [] ∧ Ext w w' := by
  refine (new_calls w).mono ?_
  rintro e w' ⟨p, f, c, rfl, hW, hE, h1, h2, h3⟩
  exact ⟨p, f, c, rfl, ⟨hW, h.trans hE, Nat.le_trans h.le h1, Nat.le_trans h.le h2, Nat.le_trans h.le h3⟩, hE⟩
theorem clone_own (h : Own w0 w p f c F C) : Calls Try.prog 41 #[.pointer (some ⟨p, 0, none⟩)] w fun e w' => ∃ p' f' c', e = .returned (.pointer (some ⟨p', 0, none⟩)) ∧ Own w0 w' p' f' c' F C ∧ Own w0 w' p f c F C ∧ w.heap.size ≤ p' ∧ w.heap.size ≤ f' ∧ w.heap.size ≤ c' ∧ Ext w w' := by
  refine (clone_calls p f c F C w h.wld).mono ?_
  rintro e w' ⟨p', f', c', rfl, hW, hE, h1, h2, h3⟩
  exact ⟨p', f', c', rfl, ⟨hW, h.ext.trans hE, Nat.le_trans h.ext.le h1, Nat.le_trans h.ext.le h2, Nat.le_trans h.ext.le h3⟩, h.keep hE, h1, h2, h3, hE⟩
theorem fixed_own (s : ByteArray) (d : Int) (h : Own w0 w p f c F C) : Calls Try.prog 37 #[.pointer (some ⟨p, 0, none⟩), .string s, .int .i64 d] w fun e w' =>
    e = .returned (.tuple #[.int .i64 ((F.lookup (s, d)).getD 0), .bool (F.lookup (s, d)).isSome]) ∧ w = w' := fixed_calls p f c F C s d w h.wld
theorem fixes_own (h : Own w0 w p f c F C) : Calls Try.prog 39 #[.pointer (some ⟨p, 0, none⟩)] w fun e w' => e = .returned (.int .i64 F.length) ∧ w = w' := fixes_calls p f c F C w h.wld
theorem chosen_own (s t : ByteArray) (h : Own w0 w p f c F C) : Calls Try.prog 38 #[.pointer (some ⟨p, 0, none⟩), .string s, .string t] w fun e w' =>
    e = Ret3 ((C.lookup (s, t)).getD (0, 0)).1 ((C.lookup (s, t)).getD (0, 0)).2 (C.lookup (s, t)).isSome ∧ Own w0 w' p f c F C ∧ Ext w w' := by
  refine (chosen_calls p f c F C s t w h.wld).mono ?_
  rintro e w' ⟨rfl, hE⟩
  exact ⟨rfl, h.keep hE, hE⟩
end

/-- The short names of the laws. -/
theorem name_x : isName ⟨#[120]⟩ = true := by decide +kernel

set_option maxRecDepth 100000 in
set_option maxHeartbeats 400000 in
theorem wakes08_calls (w : World) :
    Calls Try.prog 40 #[] w fun e w' => e = .returned (.bool true) ∧ Ext w w' := by
  go_enter Try.func40, Try.ntmps40
  (go_wp2_with fail; (with_reducible refine (new_own (Ext.refl w)).mono ?_); rintro e w' ⟨p, f, c, rfl, hO, hx⟩)
  clear hx
  (go_wp2_with fail; (with_reducible refine (fixed_own _ _ hO).mono ?_); rintro e w' ⟨rfl, rfl⟩)
  (go_wp2_with fail; (with_reducible refine (fix_ok _ _ _ hO name_x (by decide) (by decide) rfl (by decide)).mono ?_); rintro e w' ⟨rfl, hO, hg⟩)
  clear hg
  (go_wp2_with fail; (with_reducible refine (fixes_own hO).mono ?_); rintro e w' ⟨rfl, rfl⟩)
  go_wp2
  go_ret
  exact ⟨rfl, hO.ext⟩

end Go.Proofs.Ytgjjngkmbplijaa
