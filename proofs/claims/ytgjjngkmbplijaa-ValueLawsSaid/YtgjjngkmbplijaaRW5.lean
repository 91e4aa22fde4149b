/- Both worlds side by side: the code's and the document's; a step in one leaves the other as it is. -/
import Derived.Test.YtgjjngkmbplijaaRW4
namespace Go.Proofs.Ytgjjngkmbplijaa
open Go.RowKit
set_option linter.unusedSimpArgs false
set_option linter.unusedVariables false

/-- The code's world at p, f, c; the document's at q; both the law's own, apart. -/
structure Two (w0 w : World) (p f c : Nat) (F : FixL) (C : ChL) (q : Nat) (v1 v2 : Value) (F2 : FixL) (C2 : ChL) : Prop where
  a : Own w0 w p f c F C
  b : RWld w0.heap.size w q v1 v2 F2 C2
  ap : ∀ k, k = p ∨ k = f ∨ k = c → k ≠ q ∧ v1.ownBlock ≠ some k ∧ v2.ownBlock ≠ some k
section
variable {w0 w w' : World} {p f c : Nat} {F F2 : FixL} {C C2 : ChL} {q : Nat} {v1 v2 : Value}
theorem Two.ext (h : Two w0 w p f c F C q v1 v2 F2 C2) (k : Ext w w') : Two w0 w' p f c F C q v1 v2 F2 C2 := ⟨h.a.keep k, h.b.ext k, h.ap⟩
/-- A step in the document's world. -/
theorem Two.moved (h : Two w0 w p f c F C q v1 v2 F2 C2) {v1' v2' : Value} {F3 : FixL} {C3 : ChL} (hR : RWld w0.heap.size w' q v1' v2' F3 C3) (m : Moved w w' q v1 v2 v1' v2') : Two w0 w' p f c F C q v1' v2' F3 C3 := by
  obtain ⟨l1, l2, l3⟩ := h.a.wld.lts
  refine ⟨⟨h.a.wld.moved m h.ap, h.b.mext m h.a.ext (Nat.le_refl _), h.a.p0, h.a.f0, h.a.c0⟩, hR, fun k hk => ?_⟩
  obtain ⟨a1, a2, a3⟩ := h.ap k hk
  have hkl : k < w.heap.size := by rcases hk with rfl | rfl | rfl <;> assumption
  refine ⟨a1, ?_, ?_⟩
  · rcases m.r1 with e | ⟨g, e, hg⟩ <;> rw [e]
    · exact a2
    · intro e2; injection e2 with e2; omega
  · rcases m.r2 with e | ⟨g, e, hg⟩ <;> rw [e]
    · exact a3
    · intro e2; injection e2 with e2; omega
/-- A step in the code's world. -/
theorem Two.step (h : Two w0 w p f c F C q v1 v2 F2 C2) {F' : FixL} {C' : ChL} {row : Nat} (hr : row = f ∨ row = c) (hW : Wld w' p f c F' C') (hg : w.grownBy w' (some row)) : Two w0 w' p f c F' C' q v1 v2 F2 C2 := by
  obtain ⟨a1, a2, a3⟩ := h.ap row (by rcases hr with rfl | rfl <;> simp)
  exact ⟨h.a.step hr hW hg, h.b.grown hg a1 a2 a3, h.ap⟩
def RetTwo (w0 : World) (p f c : Nat) (F : FixL) (C : ChL) (q : Nat) (F2 : FixL) (C2 : ChL) (r : Int) (e : Ending) (w' : World) : Prop :=
  ∃ v1 v2, e = .returned (.int .i64 r) ∧ Two w0 w' p f c F C q v1 v2 F2 C2
theorem two_fix (s : ByteArray) (d v : Int) (h : Two w0 w p f c F C q v1 v2 F2 C2) :
    Calls Try.prog 35 #[.pointer (some ⟨p, 0, none⟩), .string s, .int .i64 d, .int .i64 v] w (RetTwo w0 p f c (fixNew F s d v) C q F2 C2 (fixRes F s d v)) :=
  (fix_calls p f c F C s d v w h.a.wld).mono fun e w' ⟨he, hW, hg⟩ => ⟨v1, v2, he, h.step (.inl rfl) hW hg⟩
theorem two_choose (s t : ByteArray) (k d : Int) (h : Two w0 w p f c F C q v1 v2 F2 C2) :
    Calls Try.prog 36 #[.pointer (some ⟨p, 0, none⟩), .string s, .string t, .int .i64 k, .int .i64 d] w (RetTwo w0 p f c F (chNew C s t k d) q F2 C2 (chRes C s t k d)) :=
  (choose_calls p f c F C s t k d w h.a.wld).mono fun e w' ⟨he, hW, hg⟩ => ⟨v1, v2, he, h.step (.inr rfl) hW hg⟩
theorem two_rfix (s : ByteArray) (d v : Int) (h : Two w0 w p f c F C q v1 v2 F2 C2) (hs : s.size ≤ 1000) (hl : F2.length ≤ 1000) :
    Calls Try.prog 96 #[.pointer (some ⟨q, 0, none⟩), .string s, .int .i64 d, .int .i64 v] w (RetTwo w0 p f c F C q (fixNew F2 s d v) C2 (fixRes F2 s d v)) :=
  (rfix_calls _ w q v1 v2 F2 C2 s d v h.b h.a.ext.le hs hl).mono fun e w' ⟨u1, u2, he, hR, hM⟩ => ⟨u1, u2, he, h.moved hR hM⟩
theorem two_rchoose (s t : ByteArray) (k d : Int) (h : Two w0 w p f c F C q v1 v2 F2 C2) (hs : s.size ≤ 1000) (ht : t.size ≤ 1000) (hl : C2.length ≤ 1000) :
    Calls Try.prog 95 #[.pointer (some ⟨q, 0, none⟩), .string s, .string t, .int .i64 k, .int .i64 d] w (RetTwo w0 p f c F C q F2 (chNew C2 s t k d) (chRes C2 s t k d)) :=
  (rchoose_calls _ w q v1 v2 F2 C2 s t k d h.b h.a.ext.le hs ht hl).mono fun e w' ⟨u1, u2, he, hR, hM⟩ => ⟨u1, u2, he, h.moved hR hM⟩
/-- The document's world is made beside the code's. -/
theorem Own.two (h : Own w0 w p f c F C) : Two w0 (w.alloc (.cells #[.slice none 0 0, .slice none 0 0] 44)) p f c F C w.heap.size (.slice none 0 0) (.slice none 0 0) [] [] := by
  obtain ⟨l1, l2, l3⟩ := h.wld.lts
  refine ⟨h.keep ((Ext.refl _).alloc _), RWld.new w _ h.ext.le, fun k hk => ⟨by rcases hk with rfl | rfl | rfl <;> omega, by simp [Value.ownBlock], by simp [Value.ownBlock]⟩⟩
end
theorem fixNew_len2 (F : FixL) (s : ByteArray) (d v : Int) : (fixNew F s d v).length ≤ F.length + 1 := by
  unfold fixNew
  repeat' split
  all_goals simp
theorem chNew_len (C : ChL) (s t : ByteArray) (k d : Int) : (chNew C s t k d).length ≤ C.length + 1 := by
  unfold chNew
  repeat' split
  all_goals simp


end Go.Proofs.Ytgjjngkmbplijaa
