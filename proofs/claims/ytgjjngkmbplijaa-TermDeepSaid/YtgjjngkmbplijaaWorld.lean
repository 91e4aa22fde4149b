/- Contracts of package world: what is known. -/
import Derived.Test.YtgjjngkmbplijaaMap
import Derived.Test.YtgjjngkmbplijaaRunes
import Derived.Test.YtgjjngkmbplijaaCents
import Derived.Deep.QuietTactic
import Derived.BigQuiet
import Derived.StillTailTactics
namespace Go.Proofs.Ytgjjngkmbplijaa
open Go.RowKit
set_option linter.unusedSimpArgs false
set_option linter.unusedVariables false

abbrev FixL := List ((ByteArray × Int) × Int)
abbrev ChL := List ((ByteArray × ByteArray) × (Int × Int))
def fixE (F : FixL) : List ((ByteArray × Int) × Value) := F.map fun x => (x.1, .int .i64 x.2)
def chE (C : ChL) : List ((ByteArray × ByteArray) × Value) := C.map fun x => (x.1, .agg #[.int .i64 x.2.1, .int .i64 x.2.2])

/-- At block p lies a world: its maps are the blocks f and c, which read as F and C. -/
structure Wld (w : World) (p f c : Nat) (F : FixL) (C : ChL) : Prop where
  ptr : w.heap[p]? = some (.cells #[.map (some f), .map (some c)] 166 (0, 0))
  ne : f ≠ c
  fix : ∃ es ck, w.heap[f]? = some (.map es ck) ∧ Ent fixKey es (fixE F)
  ch : ∃ es ck, w.heap[c]? = some (.map es ck) ∧ Ent chKey es (chE C)

section
variable {w w' : World} {p f c : Nat} {F : FixL} {C : ChL}
theorem lt_of_obj {k : Nat} {o : Obj} (h : w.heap[k]? = some o) : k < w.heap.size := (Array.getElem?_eq_some_iff.1 h).1
theorem Wld.keep (h : Wld w p f c F C) (hk : ∀ k, k = p ∨ k = f ∨ k = c → w'.heap[k]? = w.heap[k]?) : Wld w' p f c F C := by
  obtain ⟨es, ck, h1, h2⟩ := h.fix
  obtain ⟨es', ck', h3, h4⟩ := h.ch
  exact ⟨(hk p (.inl rfl)).trans h.ptr, h.ne, ⟨es, ck, (hk f (.inr (.inl rfl))).trans h1, h2⟩, ⟨es', ck', (hk c (.inr (.inr rfl))).trans h3, h4⟩⟩
theorem Wld.lts (h : Wld w p f c F C) : p < w.heap.size ∧ f < w.heap.size ∧ c < w.heap.size := by
  obtain ⟨es, ck, h1, h2⟩ := h.fix
  obtain ⟨es', ck', h3, h4⟩ := h.ch
  exact ⟨lt_of_obj h.ptr, lt_of_obj h1, lt_of_obj h3⟩
theorem Wld.ext (h : Wld w p f c F C) (k : Ext w w') : Wld w' p f c F C := by
  obtain ⟨h1, h2, h3⟩ := h.lts
  refine h.keep fun b hb => k.block ?_
  rcases hb with rfl | rfl | rfl <;> assumption
theorem Wld.pnf (h : Wld w p f c F C) : p ≠ f ∧ p ≠ c := by
  obtain ⟨es, ck, h1, h2⟩ := h.fix
  obtain ⟨es', ck', h3, h4⟩ := h.ch
  constructor
  · rintro rfl
    have := h.ptr.symm.trans h1
    cases this
  · rintro rfl
    have := h.ptr.symm.trans h3
    cases this
theorem Wld.cells (h : Wld w p f c F C) : w.cell? ⟨p, 0, none⟩ = some (.map (some f)) ∧ w.cell? ⟨p, 1, none⟩ = some (.map (some c)) := by
  constructor <;> simp [World.cell?, h.ptr]
theorem fixE_lookup (F : FixL) (k : ByteArray × Int) : (fixE F).lookup k = (F.lookup k).map (Value.int .i64) := by
  induction F with
  | nil => rfl
  | cons x r ih =>
    simp only [fixE, List.map_cons, List.lookup]
    cases h : k == x.1 with
    | true => rfl
    | false => exact ih
theorem chE_lookup (C : ChL) (k : ByteArray × ByteArray) : (chE C).lookup k = (C.lookup k).map (fun x => .agg #[.int .i64 x.1, .int .i64 x.2]) := by
  induction C with
  | nil => rfl
  | cons x r ih =>
    simp only [chE, List.map_cons, List.lookup]
    cases h : k == x.1 with
    | true => rfl
    | false => exact ih
/-- What a name is on a day, as the look-up tells it. -/
theorem Wld.lookFix (h : Wld w p f c F C) (s : ByteArray) (d : Int) (hk : w'.heap[f]? = w.heap[f]?) :
    (Instr.lookup 163 (.map (some f)) (.agg #[.string s, .int .i64 d]) true).run Try.prog w' = .ok (.tuple #[.int .i64 ((F.lookup (s, d)).getD 0), .bool (F.lookup (s, d)).isSome]) w' := by
  obtain ⟨es, ck, h1, h2⟩ := h.fix
  have := run_look fixT (hk.trans h1) h2 (s, d)
  rw [fixE_lookup] at this
  refine Eq.trans this ?_
  cases F.lookup (s, d) <;> rfl
theorem Wld.lookCh (h : Wld w p f c F C) (s t : ByteArray) (hk : w'.heap[c]? = w.heap[c]?) :
    (Instr.lookup 164 (.map (some c)) (.agg #[.string s, .string t]) true).run Try.prog w' = .ok (.tuple #[.agg #[.int .i64 ((C.lookup (s, t)).getD (0, 0)).1, .int .i64 ((C.lookup (s, t)).getD (0, 0)).2], .bool (C.lookup (s, t)).isSome]) w' := by
  obtain ⟨es, ck, h1, h2⟩ := h.ch
  have := run_look chT (hk.trans h1) h2 (s, t)
  rw [chE_lookup] at this
  refine Eq.trans this ?_
  cases C.lookup (s, t) <;> rfl
theorem Wld.lenFix (h : Wld w p f c F C) (hk : w'.heap[f]? = w.heap[f]?) (ty : TypeId) : (Builtin.len_ #[163] ty #[.map (some f)]).run Try.prog w' = .ok (.int .i64 F.length) w' := by
  obtain ⟨es, ck, h1, h2⟩ := h.fix
  have := ent_size h2
  exact run_len_map (K := 168) (E := 3) (by kernel_rfl) (hk.trans h1) ty _ (by simpa [fixE] using this)
end

set_option maxRecDepth 100000 in
set_option maxHeartbeats 400000 in
theorem fixed_calls (p f c : Nat) (F : FixL) (C : ChL) (s : ByteArray) (d : Int) (w : World) (h : Wld w p f c F C) :
    Calls Try.prog 37 #[.pointer (some ⟨p, 0, none⟩), .string s, .int .i64 d] w fun e w' => e = .returned (.tuple #[.int .i64 ((F.lookup (s, d)).getD 0), .bool (F.lookup (s, d)).isSome]) ∧ w = w' := by
  have hc := h.cells.1
  have hl := h.lookFix s d (w' := w) rfl
  go_enter Try.func37, Try.ntmps37
  go_wp2
  go_ret2
  exact ⟨rfl, rfl⟩

set_option maxRecDepth 100000 in
set_option maxHeartbeats 400000 in
theorem fixes_calls (p f c : Nat) (F : FixL) (C : ChL) (w : World) (h : Wld w p f c F C) :
    Calls Try.prog 39 #[.pointer (some ⟨p, 0, none⟩)] w fun e w' => e = .returned (.int .i64 F.length) ∧ w = w' := by
  have hc := h.cells.1
  have hl := h.lenFix (w' := w) rfl
  go_enter Try.func39, Try.ntmps39
  go_wp2
  go_ret
  exact ⟨rfl, rfl⟩

def Ret3 (a b : Int) (c : Bool) : Ending := .returned (.tuple #[.int .i64 a, .int .i64 b, .bool c])
set_option maxRecDepth 100000 in
set_option maxHeartbeats 400000 in
theorem chosen_calls (p f c : Nat) (F : FixL) (C : ChL) (s t : ByteArray) (w : World) (h : Wld w p f c F C) :
    Calls Try.prog 38 #[.pointer (some ⟨p, 0, none⟩), .string s, .string t] w fun e w' =>
      e = Ret3 ((C.lookup (s, t)).getD (0, 0)).1 ((C.lookup (s, t)).getD (0, 0)).2 (C.lookup (s, t)).isSome ∧ Ext w w' := by
  have hc := h.cells.2
  have hl := h.lookCh s t (w' := w) rfl
  go_enter Try.func38, Try.ntmps38
  go_wp2_with fail
  go_quiet (fail)
  go_wp2
  go_ret3
  exact ⟨rfl, ((Ext.refl _).alloc _).drewN _⟩

/-- May a day be? -/
def dayB (d : Int) : Bool := decide (0 ≤ d ∧ d ≤ 10000)
theorem dayB_iff (d : Int) : dayB d = true ↔ (0 ≤ d ∧ d ≤ 10000) := by unfold dayB; simp
set_option maxRecDepth 100000 in
set_option maxHeartbeats 400000 in
theorem right_calls (d : Int) (w : World) :
    Calls Try.prog 90 #[.int .i64 d] w fun e w' => e = .returned (.bool (dayB d)) ∧ w = w' := by
  by_cases h1 : 0 ≤ d
  · by_cases h2 : d ≤ 10000
    · have e := Lib.hid (bool_of (dayB_iff d) ⟨h1, h2⟩)
      go_enter Try.func90, Try.ntmps90
      go_wp2
      go_ret
      exact ⟨by rw [e.out]; rfl, rfl⟩
    · have e := Lib.hid (bool_no (dayB_iff d) (by omega))
      go_enter Try.func90, Try.ntmps90
      go_wp2
      go_ret
      exact ⟨by rw [e.out]; rfl, rfl⟩
  · have e := Lib.hid (bool_no (dayB_iff d) (by omega))
    go_enter Try.func90, Try.ntmps90
    go_wp2
    go_ret
    exact ⟨by rw [e.out]; rfl, rfl⟩

/-- A new world comes back. -/
def RetWorld (w : World) (F : FixL) (C : ChL) (e : Ending) (w' : World) : Prop :=
  ∃ p f c, e = .returned (.pointer (some ⟨p, 0, none⟩)) ∧ Wld w' p f c F C ∧ Ext w w' ∧ w.heap.size ≤ p ∧ w.heap.size ≤ f ∧ w.heap.size ≤ c
theorem heap_new (w : World) (o : Obj) : (w.alloc o).heap[w.heap.size]? = some o := by
  show (w.heap.push o)[w.heap.size]? = some o
  simp
theorem heap_old (w : World) (o : Obj) {k : Nat} (h : k < w.heap.size) : (w.alloc o).heap[k]? = w.heap[k]? := Below.heap_alloc w o k h
set_option maxRecDepth 100000 in
set_option maxHeartbeats 400000 in
theorem new_calls (w : World) : Calls Try.prog 33 #[] w (RetWorld w [] []) := by
  have hmm := @run_makeMap Try.prog
  go_enter Try.func33, Try.ntmps33
  go_wp2
  go_ret
  refine ⟨w.heap.size + 2, w.heap.size, w.heap.size + 1, rfl, ⟨?_, by omega, ⟨#[], 0, ?_, rfl⟩, ⟨#[], 0, ?_, rfl⟩⟩, (((Ext.refl _).alloc _).alloc _).alloc _, by omega, by omega, by omega⟩
  · have := heap_new ((w.alloc (.map #[] 0)).alloc (.map #[] 0)) (.cells #[.map (some w.heap.size), .map (some (w.heap.size + 1))] 166)
    simpa using this
  · rw [heap_old _ _ (by simp; omega), heap_old _ _ (by simp), heap_new]
  · rw [heap_old _ _ (by simp)]
    have := heap_new (w.alloc (.map #[] 0)) (.map #[] 0)
    simpa using this

theorem ext_grown {w w' : World} (h : Ext w w') (row : Option Nat) : w.grownBy w' row := ⟨h.os, h.tape, h.output, h.size, fun k hk _ => h.block hk⟩
/-- What 'Fix' answers, and what is known then. -/
def fixRes (F : FixL) (s : ByteArray) (d v : Int) : Int :=
  if isName s = false ∨ dayB d = false ∨ Vd v = false then 1 else if (F.lookup (s, d)).isSome = true then 4 else if 32 ≤ F.length then 5 else 0
def fixNew (F : FixL) (s : ByteArray) (d v : Int) : FixL := if fixRes F s d v = 0 then F ++ [((s, d), v)] else F
theorem fixRes_arg {F : FixL} {s : ByteArray} {d v : Int} (h : isName s = false ∨ dayB d = false ∨ Vd v = false) : fixRes F s d v = 1 ∧ fixNew F s d v = F := by
  have e : fixRes F s d v = 1 := by unfold fixRes; rw [if_pos h]
  exact ⟨e, by unfold fixNew; rw [e, if_neg (by decide)]⟩
theorem fixRes_there {F : FixL} {s : ByteArray} {d v : Int} (h1 : isName s = true) (h2 : dayB d = true) (h3 : Vd v = true) (h : (F.lookup (s, d)).isSome = true) : fixRes F s d v = 4 ∧ fixNew F s d v = F := by
  have e : fixRes F s d v = 4 := by unfold fixRes; rw [if_neg (by simp [h1, h2, h3]), if_pos h]
  exact ⟨e, by unfold fixNew; rw [e, if_neg (by decide)]⟩
theorem fixRes_limit {F : FixL} {s : ByteArray} {d v : Int} (h1 : isName s = true) (h2 : dayB d = true) (h3 : Vd v = true) (h : (F.lookup (s, d)).isSome = false) (h4 : 32 ≤ F.length) : fixRes F s d v = 5 ∧ fixNew F s d v = F := by
  have e : fixRes F s d v = 5 := by unfold fixRes; rw [if_neg (by simp [h1, h2, h3]), if_neg (by simp [h]), if_pos h4]
  exact ⟨e, by unfold fixNew; rw [e, if_neg (by decide)]⟩
theorem fixRes_ok {F : FixL} {s : ByteArray} {d v : Int} (h1 : isName s = true) (h2 : dayB d = true) (h3 : Vd v = true) (h : (F.lookup (s, d)).isSome = false) (h4 : F.length < 32) : fixRes F s d v = 0 ∧ fixNew F s d v = F ++ [((s, d), v)] := by
  have e : fixRes F s d v = 0 := by unfold fixRes; rw [if_neg (by simp [h1, h2, h3]), if_neg (by simp [h]), if_neg (by omega)]
  exact ⟨e, by unfold fixNew; rw [e, if_pos rfl]⟩
/-- What a step in a world leaves: the answer, the world, and that block f alone has turned. -/
def RetFix (w : World) (p f c : Nat) (row : Nat) (r : Int) (F : FixL) (C : ChL) (e : Ending) (w' : World) : Prop :=
  e = .returned (.int .i64 r) ∧ Wld w' p f c F C ∧ w.grownBy w' (some row)
theorem RetFix.same {w w' : World} {p f c row : Nat} {r : Int} {F : FixL} {C : ChL} (h : Wld w p f c F C) (k : Ext w w') : RetFix w p f c row r F C (.returned (.int .i64 r)) w' := ⟨rfl, h.ext k, ext_grown k _⟩

def Step (w w' : World) : Prop := Ext w w'
theorem iter_ext {w w' : World} {s : ByteArray} (h : Ext w w') (pos : Nat) : Ext w (w'.iter s pos) := h.alloc _

theorem name_ext (s : ByteArray) (w : World) : Calls Try.prog 89 #[.string s] w fun e w' => e = .returned (.bool (isName s)) ∧ Ext w w' :=
  (name_calls s w).mono fun _ _ ⟨he, pos, hw⟩ => ⟨he, by rw [hw]; exact iter_ext (Ext.refl w) pos⟩

set_option maxRecDepth 100000 in
set_option maxHeartbeats 400000 in
theorem fix_calls (p f c : Nat) (F : FixL) (C : ChL) (s : ByteArray) (d v : Int) (w : World) (h : Wld w p f c F C) :
    Calls Try.prog 35 #[.pointer (some ⟨p, 0, none⟩), .string s, .int .i64 d, .int .i64 v] w (RetFix w p f c f (fixRes F s d v) (fixNew F s d v) C) := by
  have hc := h.cells.1
  obtain ⟨hp, hf, hcc⟩ := h.lts
  have hl := fun n => h.lookFix s d (w' := (w.alloc (.cells #[.string s, .int .i64 d] 168)).drewN n) (heap_old _ _ hf)
  cases hn : isName s with
  | false =>
    obtain ⟨e1, e2⟩ := fixRes_arg (F := F) (s := s) (d := d) (v := v) (.inl hn)
    rw [e1, e2]
    have H := Lib.hid h
    clear h e1 e2
    go_enter Try.func35, Try.ntmps35
    go_wp2_with fail
    go_quiet (fail)
    go_wp2_with (go_at_call 89; (with_reducible refine (name_calls _ _).mono ?_); rintro e w' ⟨rfl, pos, rfl⟩)
    go_ret
    exact RetFix.same H.out (((((Ext.refl _).alloc _).drewN _)).alloc _)
  | true =>
    have hc2 := hc
    cases hd : dayB d with
    | false =>
      obtain ⟨e1, e2⟩ := fixRes_arg (F := F) (s := s) (d := d) (v := v) (.inr (.inl hd))
      rw [e1, e2]
      have H := Lib.hid h
      clear h e1 e2
      go_enter Try.func35, Try.ntmps35
      go_wp2_with fail
      go_quiet (fail)
      go_wp2_with (first | (go_at_call 89; (with_reducible refine (name_ext _ _).mono ?_); rintro e w' ⟨rfl, hx⟩) | (go_at_call 90; (with_reducible refine (right_calls _ _).mono ?_); rintro e w' ⟨rfl, rfl⟩))
      go_ret
      exact RetFix.same H.out ((((Ext.refl _).alloc _).drewN _).trans hx)
    | true =>
      cases hv : Vd v with
      | false =>
        obtain ⟨e1, e2⟩ := fixRes_arg (F := F) (s := s) (d := d) (v := v) (.inr (.inr hv))
        rw [e1, e2]
        have H := Lib.hid h
        clear h e1 e2
        go_enter Try.func35, Try.ntmps35
        go_wp2_with fail
        go_quiet (fail)
        go_wp2_with (first | (go_at_call 89; (with_reducible refine (name_ext _ _).mono ?_); rintro e w' ⟨rfl, hx⟩) | (go_at_call 90; (with_reducible refine (right_calls _ _).mono ?_); rintro e w' ⟨rfl, rfl⟩) | (go_at_call 91; (with_reducible refine (valid_calls _ _).mono ?_); rintro e w' ⟨rfl, rfl⟩))
        go_ret
        exact RetFix.same H.out ((((Ext.refl _).alloc _).drewN _).trans hx)
      | true =>
        cases ht : (F.lookup (s, d)).isSome with
        | true =>
          obtain ⟨e1, e2⟩ := fixRes_there hn hd hv ht
          rw [e1, e2]
          have H := Lib.hid h
          clear h e1 e2
          go_enter Try.func35, Try.ntmps35
          go_wp2_with fail
          go_quiet (fail)
          go_wp2_with (first | (go_at_call 89; (with_reducible refine (name_ext _ _).mono ?_); rintro e w' ⟨rfl, hx⟩) | (go_at_call 90; (with_reducible refine (right_calls _ _).mono ?_); rintro e w' ⟨rfl, rfl⟩) | (go_at_call 91; (with_reducible refine (valid_calls _ _).mono ?_); rintro e w' ⟨rfl, rfl⟩))
          go_ret
          exact RetFix.same H.out ((((Ext.refl _).alloc _).drewN _).trans hx)
        | false =>
          by_cases h32 : 32 ≤ F.length
          · obtain ⟨e1, e2⟩ := fixRes_limit hn hd hv ht h32
            rw [e1, e2]
            have H := Lib.hid h
            clear h e1 e2
            go_enter Try.func35, Try.ntmps35
            go_wp2_with fail
            go_quiet (fail)
            (go_wp2_with fail; (with_reducible refine (name_ext _ _).mono ?_); rintro e w' ⟨rfl, hx⟩)
            have hx0 := (((Ext.refl w).alloc (.cells #[.string s, .int .i64 d] 168)).drewN nq).trans hx
            have hW := H.out.ext hx0
            have hc1 := hW.cells.1
            have hlen := hW.lenFix (w' := w') rfl
            clear hW hx
            go_wp2_with (first | (go_at_call 90; (with_reducible refine (right_calls _ _).mono ?_); rintro e w' ⟨rfl, rfl⟩) | (go_at_call 91; (with_reducible refine (valid_calls _ _).mono ?_); rintro e w' ⟨rfl, rfl⟩))
            go_ret
            exact RetFix.same H.out hx0
          · obtain ⟨e1, e2⟩ := fixRes_ok hn hd hv ht (by omega)
            rw [e1, e2]
            have H := Lib.hid h
            clear h e1 e2
            go_enter Try.func35, Try.ntmps35
            go_wp2_with fail
            go_quiet (fail)
            (go_wp2_with fail; (with_reducible refine (name_ext _ _).mono ?_); rintro e w' ⟨rfl, hx⟩)
            have hx0 := (((Ext.refl w).alloc (.cells #[.string s, .int .i64 d] 168)).drewN nq).trans hx
            have hb0 : w'.cell? ⟨w.heap.size, 0, none⟩ = some (.string s) := hx.cell (by simp)
            have hb1 : w'.cell? ⟨w.heap.size, 1, none⟩ = some (.int .i64 d) := hx.cell (by simp)
            have hW := H.out.ext hx0
            have hc1 := hW.cells.1
            have hlen := hW.lenFix (w' := w') rfl
            obtain ⟨es, ck, hes, hent⟩ := hW.fix
            have hput := run_put fixT (w := w'.drew) hes hent (s, d) (.int .i64 v) (by rw [fixE_lookup]; cases hq : F.lookup (s, d) with | none => rfl | some x => rw [hq] at ht; cases ht)
            have hput1 := hput.1
            unfold fixKey at hput1
            have HE := Lib.hid hput.2
            have HW := Lib.hid hW
            have Hes := Lib.hid hes
            clear hW hx hput hent hes
            go_wp2_with (first | (go_at_call 90; (with_reducible refine (right_calls _ _).mono ?_); rintro e w' ⟨rfl, rfl⟩) | (go_at_call 91; (with_reducible refine (valid_calls _ _).mono ?_); rintro e w' ⟨rfl, rfl⟩))
            go_still_tail 6, (by kernel_rfl)
            go_wp2
            go_ret
            refine ⟨rfl, ⟨?_, HW.out.ne, ?_, ?_⟩, (ext_grown hx0.drew _).trans (putObj_grown _ _ _)⟩
            · rw [putObj_other _ _ HW.out.pnf.1]
              exact HW.out.ptr
            · exact ⟨_, _, putObj_same (o' := .map es ck) Hes.out, by rw [show fixE (F ++ [((s, d), v)]) = fixE F ++ [((s, d), .int .i64 v)] by simp [fixE]]; exact HE.out⟩
            · obtain ⟨es', ck', h3, h4⟩ := HW.out.ch
              exact ⟨es', ck', by rw [putObj_other _ _ HW.out.ne.symm]; exact h3, h4⟩

end Go.Proofs.Ytgjjngkmbplijaa
