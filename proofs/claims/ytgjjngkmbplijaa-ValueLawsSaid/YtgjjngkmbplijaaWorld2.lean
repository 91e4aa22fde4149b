/- Contracts of package world: Choose, Clone. -/
import Derived.Test.YtgjjngkmbplijaaWorld
import Derived.Deep.RegionHeld3
namespace Go.Proofs.Ytgjjngkmbplijaa
open Go.RowKit
set_option linter.unusedSimpArgs false
set_option linter.unusedVariables false

def sideB (k : Int) : Bool := decide (k = 0 ∨ k = 1)
theorem sideB_iff (k : Int) : sideB k = true ↔ (k = 0 ∨ k = 1) := by unfold sideB; simp
/-- What 'Choose' answers, and what is known then. -/
def chRes (C : ChL) (s t : ByteArray) (k d : Int) : Int :=
  if isName s = false ∨ isName t = false ∨ sideB k = false ∨ dayB d = false then 1 else if (C.lookup (s, t)).isSome = true then 4 else 0
def chNew (C : ChL) (s t : ByteArray) (k d : Int) : ChL := if chRes C s t k d = 0 then C ++ [((s, t), (k, d))] else C
theorem chRes_arg {C : ChL} {s t : ByteArray} {k d : Int} (h : isName s = false ∨ isName t = false ∨ sideB k = false ∨ dayB d = false) : chRes C s t k d = 1 ∧ chNew C s t k d = C := by
  have e : chRes C s t k d = 1 := by unfold chRes; rw [if_pos h]
  exact ⟨e, by unfold chNew; rw [e, if_neg (by decide)]⟩
theorem chRes_there {C : ChL} {s t : ByteArray} {k d : Int} (h1 : isName s = true) (h2 : isName t = true) (h3 : sideB k = true) (h4 : dayB d = true) (h : (C.lookup (s, t)).isSome = true) : chRes C s t k d = 4 ∧ chNew C s t k d = C := by
  have e : chRes C s t k d = 4 := by unfold chRes; rw [if_neg (by simp [h1, h2, h3, h4]), if_pos h]
  exact ⟨e, by unfold chNew; rw [e, if_neg (by decide)]⟩
theorem chRes_ok {C : ChL} {s t : ByteArray} {k d : Int} (h1 : isName s = true) (h2 : isName t = true) (h3 : sideB k = true) (h4 : dayB d = true) (h : (C.lookup (s, t)).isSome = false) : chRes C s t k d = 0 ∧ chNew C s t k d = C ++ [((s, t), (k, d))] := by
  have e : chRes C s t k d = 0 := by unfold chRes; rw [if_neg (by simp [h1, h2, h3, h4]), if_neg (by simp [h])]
  exact ⟨e, by unfold chNew; rw [e, if_pos rfl]⟩
theorem side_ways (k : Int) : (sideB k = true ∧ k = 0) ∨ (sideB k = true ∧ k = 1) ∨ (sideB k = false ∧ (k != 0) = true ∧ (k != 1) = true) := by
  by_cases h0 : k = 0
  · exact .inl ⟨(sideB_iff k).2 (.inl h0), h0⟩
  · by_cases h1 : k = 1
    · exact .inr (.inl ⟨(sideB_iff k).2 (.inr h1), h1⟩)
    · exact .inr (.inr ⟨bool_no (sideB_iff k) (by omega), by simpa using h0, by simpa using h1⟩)

/-- The world that 'Choose' works in, behind its look-up. -/
theorem choose_head {w : World} {p f c : Nat} {F : FixL} {C : ChL} (h : Wld w p f c F C) (s t : ByteArray) :
    (∀ n, (Instr.lookup 164 (.map (some c)) (.agg #[.string s, .string t]) true).run Try.prog ((w.alloc (.cells #[.string s, .string t] 171)).drewN n) = .ok (.tuple #[.agg #[.int .i64 ((C.lookup (s, t)).getD (0, 0)).1, .int .i64 ((C.lookup (s, t)).getD (0, 0)).2], .bool (C.lookup (s, t)).isSome]) ((w.alloc (.cells #[.string s, .string t] 171)).drewN n)) ∧
    ((Instr.lookup 164 (.map (some c)) (.agg #[.string s, .string t]) true).run Try.prog ((w.alloc (.cells #[.string s, .string t] 171)).drew) = .ok (.tuple #[.agg #[.int .i64 ((C.lookup (s, t)).getD (0, 0)).1, .int .i64 ((C.lookup (s, t)).getD (0, 0)).2], .bool (C.lookup (s, t)).isSome]) ((w.alloc (.cells #[.string s, .string t] 171)).drew)) ∧
    (∀ o, (Instr.lookup 164 (.map (some c)) (.agg #[.string s, .string t]) true).run Try.prog (((w.alloc (.cells #[.string s, .string t] 171)).alloc o).drew) = .ok (.tuple #[.agg #[.int .i64 ((C.lookup (s, t)).getD (0, 0)).1, .int .i64 ((C.lookup (s, t)).getD (0, 0)).2], .bool (C.lookup (s, t)).isSome]) (((w.alloc (.cells #[.string s, .string t] 171)).alloc o).drew)) := by
  have hcc := h.lts.2.2
  refine ⟨fun n => h.lookCh s t (heap_old _ _ hcc), h.lookCh s t (heap_old _ _ hcc), fun o => h.lookCh s t ?_⟩
  show ((w.alloc (.cells #[.string s, .string t] 171)).alloc o).heap[c]? = w.heap[c]?
  rw [heap_old _ _ (by simp; omega), heap_old _ _ hcc]

set_option maxRecDepth 100000 in
set_option maxHeartbeats 400000 in
theorem choose_no1 (p f c : Nat) (F : FixL) (C : ChL) (s t : ByteArray) (k d : Int) (w : World) (h : Wld w p f c F C) (hn : isName s = false) :
    Calls Try.prog 36 #[.pointer (some ⟨p, 0, none⟩), .string s, .string t, .int .i64 k, .int .i64 d] w (RetFix w p f c c (chRes C s t k d) F (chNew C s t k d)) := by
  have hc := h.cells.2
  obtain ⟨hp, hf, hcc⟩ := h.lts
  obtain ⟨hl1, hl2, hl3⟩ := choose_head h s t
  obtain ⟨e1, e2⟩ := chRes_arg (C := C) (s := s) (t := t) (k := k) (d := d) (.inl hn)
  rw [e1, e2]
  have H := Lib.hid h
  clear h e1 e2
  go_enter Try.func36, Try.ntmps36
  go_wp2_with fail
  go_region
  (go_wp2_with fail; (with_reducible refine (name_ext s _).mono ?_); rintro e w' ⟨rfl, hx⟩)
  have hx0 := Ext.trans (((((Ext.refl w).alloc (.cells #[.string s, .string t] 171))).alloc (.cells #[.int .i64 ((C.lookup (s, t)).getD (0, 0)).1, .int .i64 ((C.lookup (s, t)).getD (0, 0)).2] 173)).drew) hx
  go_wp2
  go_ret
  exact RetFix.same H.out hx0

set_option maxRecDepth 100000 in
set_option maxHeartbeats 400000 in
theorem choose_no2 (p f c : Nat) (F : FixL) (C : ChL) (s t : ByteArray) (k d : Int) (w : World) (h : Wld w p f c F C) (hn : isName s = true) (hm : isName t = false) :
    Calls Try.prog 36 #[.pointer (some ⟨p, 0, none⟩), .string s, .string t, .int .i64 k, .int .i64 d] w (RetFix w p f c c (chRes C s t k d) F (chNew C s t k d)) := by
  have hc := h.cells.2
  obtain ⟨hp, hf, hcc⟩ := h.lts
  obtain ⟨hl1, hl2, hl3⟩ := choose_head h s t
  obtain ⟨e1, e2⟩ := chRes_arg (C := C) (s := s) (t := t) (k := k) (d := d) (.inr (.inl hm))
  rw [e1, e2]
  have H := Lib.hid h
  clear h e1 e2
  go_enter Try.func36, Try.ntmps36
  go_wp2_with fail
  go_region
  (go_wp2_with fail; (with_reducible refine (name_ext s _).mono ?_); rintro e w' ⟨rfl, hx⟩)
  have hx0 := Ext.trans (((((Ext.refl w).alloc (.cells #[.string s, .string t] 171))).alloc (.cells #[.int .i64 ((C.lookup (s, t)).getD (0, 0)).1, .int .i64 ((C.lookup (s, t)).getD (0, 0)).2] 173)).drew) hx
  (go_wp2_with fail; (with_reducible refine (name_ext t _).mono ?_); rintro e w' ⟨rfl, hy⟩)
  go_wp2
  go_ret
  exact RetFix.same H.out (hx0.trans hy)

set_option maxRecDepth 100000 in
set_option maxHeartbeats 400000 in
theorem choose_no3 (p f c : Nat) (F : FixL) (C : ChL) (s t : ByteArray) (k d : Int) (w : World) (h : Wld w p f c F C) (hn : isName s = true) (hm : isName t = true) (hk : sideB k = false) :
    Calls Try.prog 36 #[.pointer (some ⟨p, 0, none⟩), .string s, .string t, .int .i64 k, .int .i64 d] w (RetFix w p f c c (chRes C s t k d) F (chNew C s t k d)) := by
  have hc := h.cells.2
  obtain ⟨hp, hf, hcc⟩ := h.lts
  obtain ⟨hl1, hl2, hl3⟩ := choose_head h s t
  obtain ⟨e1, e2⟩ := chRes_arg (C := C) (s := s) (t := t) (k := k) (d := d) (.inr (.inr (.inl hk)))
  rw [e1, e2]
  have hk2 : (k != 0) = true ∧ (k != 1) = true := by
    rcases side_ways k with ⟨h', _⟩ | ⟨h', _⟩ | ⟨_, h1, h2⟩
    · rw [hk] at h'; cases h'
    · rw [hk] at h'; cases h'
    · exact ⟨h1, h2⟩
  have k1 := hk2.1
  have k2 := hk2.2
  clear hk2
  have H := Lib.hid h
  clear h e1 e2
  go_enter Try.func36, Try.ntmps36
  go_wp2_with fail
  go_region
  (go_wp2_with fail; (with_reducible refine (name_ext s _).mono ?_); rintro e w' ⟨rfl, hx⟩)
  have hx0 := Ext.trans (((((Ext.refl w).alloc (.cells #[.string s, .string t] 171))).alloc (.cells #[.int .i64 ((C.lookup (s, t)).getD (0, 0)).1, .int .i64 ((C.lookup (s, t)).getD (0, 0)).2] 173)).drew) hx
  (go_wp2_with fail; (with_reducible refine (name_ext t _).mono ?_); rintro e w' ⟨rfl, hy⟩)
  go_wp2
  go_ret
  exact RetFix.same H.out (hx0.trans hy)

set_option maxRecDepth 100000 in
set_option maxHeartbeats 400000 in
theorem choose_no4 (p f c : Nat) (F : FixL) (C : ChL) (s t : ByteArray) (k d : Int) (w : World) (h : Wld w p f c F C) (hn : isName s = true) (hm : isName t = true) (hk : sideB k = true) (hd : dayB d = false) :
    Calls Try.prog 36 #[.pointer (some ⟨p, 0, none⟩), .string s, .string t, .int .i64 k, .int .i64 d] w (RetFix w p f c c (chRes C s t k d) F (chNew C s t k d)) := by
  have hc := h.cells.2
  obtain ⟨hp, hf, hcc⟩ := h.lts
  obtain ⟨hl1, hl2, hl3⟩ := choose_head h s t
  obtain ⟨e1, e2⟩ := chRes_arg (C := C) (s := s) (t := t) (k := k) (d := d) (.inr (.inr (.inr hd)))
  rw [e1, e2]
  have hk2 : k = 0 ∨ k = 1 := (sideB_iff k).1 hk
  clear hk
  rcases hk2 with rfl | rfl
  all_goals
    have H := Lib.hid h
    clear h e1 e2
    go_enter Try.func36, Try.ntmps36
    go_wp2_with fail
    go_region
    (go_wp2_with fail; (with_reducible refine (name_ext s _).mono ?_); rintro e w' ⟨rfl, hx⟩)
    have hx0 := Ext.trans (((((Ext.refl w).alloc (.cells #[.string s, .string t] 171))).alloc (.cells #[.int .i64 ((C.lookup (s, t)).getD (0, 0)).1, .int .i64 ((C.lookup (s, t)).getD (0, 0)).2] 173)).drew) hx
    (go_wp2_with fail; (with_reducible refine (name_ext t _).mono ?_); rintro e w' ⟨rfl, hy⟩)
    go_wp2_with (go_at_call 90; (with_reducible refine (right_calls _ _).mono ?_); rintro e w' ⟨rfl, rfl⟩)
    go_ret
    exact RetFix.same H.out (hx0.trans hy)

set_option maxRecDepth 100000 in
set_option maxHeartbeats 400000 in
theorem choose_there (p f c : Nat) (F : FixL) (C : ChL) (s t : ByteArray) (k d : Int) (w : World) (h : Wld w p f c F C) (hn : isName s = true) (hm : isName t = true) (hk : sideB k = true) (hd : dayB d = true) (ht : (C.lookup (s, t)).isSome = true) :
    Calls Try.prog 36 #[.pointer (some ⟨p, 0, none⟩), .string s, .string t, .int .i64 k, .int .i64 d] w (RetFix w p f c c (chRes C s t k d) F (chNew C s t k d)) := by
  have hc := h.cells.2
  obtain ⟨hp, hf, hcc⟩ := h.lts
  obtain ⟨hl1, hl2, hl3⟩ := choose_head h s t
  obtain ⟨e1, e2⟩ := chRes_there (k := k) hn hm hk hd ht
  rw [e1, e2]
  have hk2 : k = 0 ∨ k = 1 := (sideB_iff k).1 hk
  clear hk
  rcases hk2 with rfl | rfl
  all_goals
    have H := Lib.hid h
    clear h e1 e2
    go_enter Try.func36, Try.ntmps36
    go_wp2_with fail
    go_region
    (go_wp2_with fail; (with_reducible refine (name_ext s _).mono ?_); rintro e w' ⟨rfl, hx⟩)
    have hx0 := Ext.trans (((((Ext.refl w).alloc (.cells #[.string s, .string t] 171))).alloc (.cells #[.int .i64 ((C.lookup (s, t)).getD (0, 0)).1, .int .i64 ((C.lookup (s, t)).getD (0, 0)).2] 173)).drew) hx
    (go_wp2_with fail; (with_reducible refine (name_ext t _).mono ?_); rintro e w' ⟨rfl, hy⟩)
    go_wp2_with (go_at_call 90; (with_reducible refine (right_calls _ _).mono ?_); rintro e w' ⟨rfl, rfl⟩)
    go_ret
    exact RetFix.same H.out (hx0.trans hy)

set_option maxRecDepth 100000 in
set_option maxHeartbeats 400000 in
theorem choose_ok (p f c : Nat) (F : FixL) (C : ChL) (s t : ByteArray) (k d : Int) (w : World) (h : Wld w p f c F C) (hn : isName s = true) (hm : isName t = true) (hk : sideB k = true) (hd : dayB d = true) (ht : (C.lookup (s, t)).isSome = false) :
    Calls Try.prog 36 #[.pointer (some ⟨p, 0, none⟩), .string s, .string t, .int .i64 k, .int .i64 d] w (RetFix w p f c c (chRes C s t k d) F (chNew C s t k d)) := by
  have hc := h.cells.2
  obtain ⟨hp, hf, hcc⟩ := h.lts
  obtain ⟨hl1, hl2, hl3⟩ := choose_head h s t
  obtain ⟨e1, e2⟩ := chRes_ok hn hm hk hd ht
  rw [e1, e2]
  have hk2 : k = 0 ∨ k = 1 := (sideB_iff k).1 hk
  clear hk
  rcases hk2 with rfl | rfl
  all_goals
    have H := Lib.hid h
    clear h e1 e2
    go_enter Try.func36, Try.ntmps36
    go_wp2_with fail
    go_region
    (go_wp2_with fail; (with_reducible refine (name_ext s _).mono ?_); rintro e w' ⟨rfl, hx⟩)
    have hx0 := Ext.trans (((((Ext.refl w).alloc (.cells #[.string s, .string t] 171))).alloc (.cells #[.int .i64 ((C.lookup (s, t)).getD (0, 0)).1, .int .i64 ((C.lookup (s, t)).getD (0, 0)).2] 173)).drew) hx
    have hb0 := hx.cell (p := ⟨w.heap.size, 0, none⟩) (v := .string s) (by simp [go_sem])
    have hb1 := hx.cell (p := ⟨w.heap.size, 1, none⟩) (v := .string t) (by simp [go_sem])
    clear hx
    (go_wp2_with fail; (with_reducible refine (name_ext t _).mono ?_); rintro e w' ⟨rfl, hy⟩)
    have hz := hx0.trans hy
    replace hb0 := hy.cell hb0
    replace hb1 := hy.cell hb1
    have hW := H.out.ext hz
    have hc1 := hW.cells.2

    obtain ⟨es, ck, hes, hent⟩ := hW.ch
    have hput := fun v => run_put chT (w := w'.drew) hes hent (s, t) v (by rw [chE_lookup]; cases hq : C.lookup (s, t) with | none => rfl | some x => rw [hq] at ht; cases ht)
    have hput1 := fun v => (hput v).1
    unfold chKey at hput1
    have HE := Lib.hid (fun v => (hput v).2)
    have HW := Lib.hid hW
    have Hes := Lib.hid hes
    clear hW hx0 hy hput hent hes
    go_wp2_with (go_at_call 90; (with_reducible refine (right_calls _ _).mono ?_); rintro e w' ⟨rfl, rfl⟩)
    go_still_tail 8, (by kernel_rfl)
    go_wp2
    go_ret
    refine ⟨rfl, ⟨?_, HW.out.ne, ?_, ?_⟩, (ext_grown hz.drew _).trans (putObj_grown _ _ _)⟩
    · rw [putObj_other _ _ HW.out.pnf.2]
      exact HW.out.ptr
    · obtain ⟨es', ck', h3, h4⟩ := HW.out.fix
      exact ⟨es', ck', by rw [putObj_other _ _ HW.out.ne]; exact h3, h4⟩
    · exact ⟨_, _, putObj_same (o' := .map es ck) Hes.out, by rw [show chE (C ++ [((s, t), (_, d))]) = chE C ++ [((s, t), .agg #[.int .i64 _, .int .i64 d])] by simp [chE]; rfl]; exact HE.out _⟩

theorem choose_calls (p f c : Nat) (F : FixL) (C : ChL) (s t : ByteArray) (k d : Int) (w : World) (h : Wld w p f c F C) :
    Calls Try.prog 36 #[.pointer (some ⟨p, 0, none⟩), .string s, .string t, .int .i64 k, .int .i64 d] w (RetFix w p f c c (chRes C s t k d) F (chNew C s t k d)) := by
  cases hn : isName s with
  | false => exact choose_no1 p f c F C s t k d w h hn
  | true =>
    cases hm : isName t with
    | false => exact choose_no2 p f c F C s t k d w h hn hm
    | true =>
      cases hk : sideB k with
      | false => exact choose_no3 p f c F C s t k d w h hn hm hk
      | true =>
        cases hd : dayB d with
        | false => exact choose_no4 p f c F C s t k d w h hn hm hk hd
        | true =>
          cases ht : (C.lookup (s, t)).isSome with
          | true => exact choose_there p f c F C s t k d w h hn hm hk hd ht
          | false => exact choose_ok p f c F C s t k d w h hn hm hk hd ht

end Go.Proofs.Ytgjjngkmbplijaa
