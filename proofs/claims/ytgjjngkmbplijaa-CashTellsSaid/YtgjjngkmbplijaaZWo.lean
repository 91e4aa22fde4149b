/- Texts put together: World, World2, World3. -/
import Derived.Test.YtgjjngkmbplijaaZMp
import Derived.Test.YtgjjngkmbplijaaCents
import Derived.Deep.QuietTactic
import Derived.BigQuiet
import Derived.StillTailTactics
import Derived.Deep.RegionHeld3
import Derived.Deep.RegionWith
/- Contracts of package world: what is known. -/
namespace Go.Proofs.Ytgjjngkmbplijaa
open Go.RowKit
set_option linter.unusedSimpArgs false
set_option linter.unusedVariables false

abbrev FixL := List ((ByteArray × Int) × Int)
abbrev ChL := List ((ByteArray × ByteArray) × (Int × Int))
def fixE (F : FixL) : List ((ByteArray × Int) × Value) := F.map fun x => (x.1, .int .i64 x.2)
def chE (C : ChL) : List ((ByteArray × ByteArray) × Value) := C.map fun x => (x.1, .agg #[.int .i64 x.2.1, .int .i64 x.2.2])

/-- At block p lies a world: its maps are the blocks f and c, which read as F and C. -/
structure Wld (w : World) (p f c : Nat) (F : FixL) (C : ChL) : Prop where
  ptr : w.heap[p]? = some (.cells #[.map (some f), .map (some c)] 166 (0, 0))
  ne : f ≠ c
  fix : ∃ es ck, w.heap[f]? = some (.map es ck) ∧ Ent fixKey es (fixE F)
  ch : ∃ es ck, w.heap[c]? = some (.map es ck) ∧ Ent chKey es (chE C)

section
variable {w w' : World} {p f c : Nat} {F : FixL} {C : ChL}
theorem lt_of_obj {k : Nat} {o : Obj} (h : w.heap[k]? = some o) : k < w.heap.size := (Array.getElem?_eq_some_iff.1 h).1
theorem Wld.keep (h : Wld w p f c F C) (hk : ∀ k, k = p ∨ k = f ∨ k = c → w'.heap[k]? = w.heap[k]?) : Wld w' p f c F C := by
  obtain ⟨es, ck, h1, h2⟩ := h.fix
  obtain ⟨es', ck', h3, h4⟩ := h.ch
  exact ⟨(hk p (.inl rfl)).trans h.ptr, h.ne, ⟨es, ck, (hk f (.inr (.inl rfl))).trans h1, h2⟩, ⟨es', ck', (hk c (.inr (.inr rfl))).trans h3, h4⟩⟩
theorem Wld.lts (h : Wld w p f c F C) : p < w.heap.size ∧ f < w.heap.size ∧ c < w.heap.size := by
  obtain ⟨es, ck, h1, h2⟩ := h.fix
  obtain ⟨es', ck', h3, h4⟩ := h.ch
  exact ⟨lt_of_obj h.ptr, lt_of_obj h1, lt_of_obj h3⟩
theorem Wld.ext (h : Wld w p f c F C) (k : Ext w w') : Wld w' p f c F C := by
  obtain ⟨h1, h2, h3⟩ := h.lts
  refine h.keep fun b hb => k.block ?_
  rcases hb with rfl | rfl | rfl <;> assumption
theorem Wld.pnf (h : Wld w p f c F C) : p ≠ f ∧ p ≠ c := by
  obtain ⟨es, ck, h1, h2⟩ := h.fix
  obtain ⟨es', ck', h3, h4⟩ := h.ch
  constructor
  · rintro rfl
    have := h.ptr.symm.trans h1
    cases this
  · rintro rfl
    have := h.ptr.symm.trans h3
    cases this
theorem Wld.cells (h : Wld w p f c F C) : w.cell? ⟨p, 0, none⟩ = some (.map (some f)) ∧ w.cell? ⟨p, 1, none⟩ = some (.map (some c)) := by
  constructor <;> simp [World.cell?, h.ptr]
theorem fixE_lookup (F : FixL) (k : ByteArray × Int) : (fixE F).lookup k = (F.lookup k).map (Value.int .i64) := by
  induction F with
  | nil => rfl
  | cons x r ih =>
    simp only [fixE, List.map_cons, List.lookup]
    cases h : k == x.1 with
    | true => rfl
    | false => exact ih
theorem chE_lookup (C : ChL) (k : ByteArray × ByteArray) : (chE C).lookup k = (C.lookup k).map (fun x => .agg #[.int .i64 x.1, .int .i64 x.2]) := by
  induction C with
  | nil => rfl
  | cons x r ih =>
    simp only [chE, List.map_cons, List.lookup]
    cases h : k == x.1 with
    | true => rfl
    | false => exact ih
/-- What a name is on a day, as the look-up tells it. -/
theorem Wld.lookFix (h : Wld w p f c F C) (s : ByteArray) (d : Int) (hk : w'.heap[f]? = w.heap[f]?) :
    (Instr.lookup 163 (.map (some f)) (.agg #[.string s, .int .i64 d]) true).run Try.prog w' = .ok (.tuple #[.int .i64 ((F.lookup (s, d)).getD 0), .bool (F.lookup (s, d)).isSome]) w' := by
  obtain ⟨es, ck, h1, h2⟩ := h.fix
  have := run_look fixT (hk.trans h1) h2 (s, d)
  rw [fixE_lookup] at this
  refine Eq.trans this ?_
  cases F.lookup (s, d) <;> rfl
theorem Wld.lookCh (h : Wld w p f c F C) (s t : ByteArray) (hk : w'.heap[c]? = w.heap[c]?) :
    (Instr.lookup 164 (.map (some c)) (.agg #[.string s, .string t]) true).run Try.prog w' = .ok (.tuple #[.agg #[.int .i64 ((C.lookup (s, t)).getD (0, 0)).1, .int .i64 ((C.lookup (s, t)).getD (0, 0)).2], .bool (C.lookup (s, t)).isSome]) w' := by
  obtain ⟨es, ck, h1, h2⟩ := h.ch
  have := run_look chT (hk.trans h1) h2 (s, t)
  rw [chE_lookup] at this
  refine Eq.trans this ?_
  cases C.lookup (s, t) <;> rfl
theorem Wld.lenFix (h : Wld w p f c F C) (hk : w'.heap[f]? = w.heap[f]?) (ty : TypeId) : (Builtin.len_ #[163] ty #[.map (some f)]).run Try.prog w' = .ok (.int .i64 F.length) w' := by
  obtain ⟨es, ck, h1, h2⟩ := h.fix
  have := ent_size h2
  exact run_len_map (K := 168) (E := 3) (by kernel_rfl) (hk.trans h1) ty _ (by simpa [fixE] using this)
end

set_option maxRecDepth 100000 in
set_option maxHeartbeats 400000 in
theorem fixed_calls (p f c : Nat) (F : FixL) (C : ChL) (s : ByteArray) (d : Int) (w : World) (h : Wld w p f c F C) :
    Calls Try.prog 37 #[.pointer (some ⟨p, 0, none⟩), .string s, .int .i64 d] w fun e w' => e = .returned (.tuple #[.int .i64 ((F.lookup (s, d)).getD 0), .bool (F.lookup (s, d)).isSome]) ∧ w = w' := by
  have hc := h.cells.1
  have hl := h.lookFix s d (w' := w) rfl
  go_enter Try.func37, Try.ntmps37
  go_wp2
  go_ret2
  exact ⟨rfl, rfl⟩

set_option maxRecDepth 100000 in
set_option maxHeartbeats 400000 in
theorem fixes_calls (p f c : Nat) (F : FixL) (C : ChL) (w : World) (h : Wld w p f c F C) :
    Calls Try.prog 39 #[.pointer (some ⟨p, 0, none⟩)] w fun e w' => e = .returned (.int .i64 F.length) ∧ w = w' := by
  have hc := h.cells.1
  have hl := h.lenFix (w' := w) rfl
  go_enter Try.func39, Try.ntmps39
  go_wp2
  go_ret
  exact ⟨rfl, rfl⟩

def Ret3 (a b : Int) (c : Bool) : Ending := .returned (.tuple #[.int .i64 a, .int .i64 b, .bool c])
set_option maxRecDepth 100000 in
set_option maxHeartbeats 400000 in
theorem chosen_calls (p f c : Nat) (F : FixL) (C : ChL) (s t : ByteArray) (w : World) (h : Wld w p f c F C) :
    Calls Try.prog 38 #[.pointer (some ⟨p, 0, none⟩), .string s, .string t] w fun e w' =>
      e = Ret3 ((C.lookup (s, t)).getD (0, 0)).1 ((C.lookup (s, t)).getD (0, 0)).2 (C.lookup (s, t)).isSome ∧ Ext w w' := by
  have hc := h.cells.2
  have hl := h.lookCh s t (w' := w) rfl
  go_enter Try.func38, Try.ntmps38
  go_wp2_with fail
  go_quiet (fail)
  go_wp2
  go_ret3
  exact ⟨rfl, ((Ext.refl _).alloc _).drewN _⟩

/-- May a day be? -/
def dayB (d : Int) : Bool := decide (0 ≤ d ∧ d ≤ 10000)
theorem dayB_iff (d : Int) : dayB d = true ↔ (0 ≤ d ∧ d ≤ 10000) := by unfold dayB; simp
set_option maxRecDepth 100000 in
set_option maxHeartbeats 400000 in
theorem right_calls (d : Int) (w : World) :
    Calls Try.prog 90 #[.int .i64 d] w fun e w' => e = .returned (.bool (dayB d)) ∧ w = w' := by
  by_cases h1 : 0 ≤ d
  · by_cases h2 : d ≤ 10000
    · have e := Lib.hid (bool_of (dayB_iff d) ⟨h1, h2⟩)
      go_enter Try.func90, Try.ntmps90
      go_wp2
      go_ret
      exact ⟨by rw [e.out]; rfl, rfl⟩
    · have e := Lib.hid (bool_no (dayB_iff d) (by omega))
      go_enter Try.func90, Try.ntmps90
      go_wp2
      go_ret
      exact ⟨by rw [e.out]; rfl, rfl⟩
  · have e := Lib.hid (bool_no (dayB_iff d) (by omega))
    go_enter Try.func90, Try.ntmps90
    go_wp2
    go_ret
    exact ⟨by rw [e.out]; rfl, rfl⟩

/-- A new world comes back. -/
def RetWorld (w : World) (F : FixL) (C : ChL) (e : Ending) (w' : World) : Prop :=
  ∃ p f c, e = .returned (.pointer (some ⟨p, 0, none⟩)) ∧ Wld w' p f c F C ∧ Ext w w' ∧ w.heap.size ≤ p ∧ w.heap.size ≤ f ∧ w.heap.size ≤ c
theorem heap_new (w : World) (o : Obj) : (w.alloc o).heap[w.heap.size]? = some o := by
  show (w.heap.push o)[w.heap.size]? = some o
  simp
theorem heap_old (w : World) (o : Obj) {k : Nat} (h : k < w.heap.size) : (w.alloc o).heap[k]? = w.heap[k]? := Below.heap_alloc w o k h
set_option maxRecDepth 100000 in
set_option maxHeartbeats 400000 in
theorem new_calls (w : World) : Calls Try.prog 33 #[] w (RetWorld w [] []) := by
  have hmm := @run_makeMap Try.prog
  go_enter Try.func33, Try.ntmps33
  go_wp2
  go_ret
  refine ⟨w.heap.size + 2, w.heap.size, w.heap.size + 1, rfl, ⟨?_, by omega, ⟨#[], 0, ?_, rfl⟩, ⟨#[], 0, ?_, rfl⟩⟩, (((Ext.refl _).alloc _).alloc _).alloc _, by omega, by omega, by omega⟩
  · have := heap_new ((w.alloc (.map #[] 0)).alloc (.map #[] 0)) (.cells #[.map (some w.heap.size), .map (some (w.heap.size + 1))] 166)
    simpa using this
  · rw [heap_old _ _ (by simp; omega), heap_old _ _ (by simp), heap_new]
  · rw [heap_old _ _ (by simp)]
    have := heap_new (w.alloc (.map #[] 0)) (.map #[] 0)
    simpa using this

theorem ext_grown {w w' : World} (h : Ext w w') (row : Option Nat) : w.grownBy w' row := ⟨h.os, h.tape, h.output, h.size, fun k hk _ => h.block hk⟩
/-- What 'Fix' answers, and what is known then. -/
def fixRes (F : FixL) (s : ByteArray) (d v : Int) : Int :=
  if isName s = false ∨ dayB d = false ∨ Vd v = false then 1 else if (F.lookup (s, d)).isSome = true then 4 else if 32 ≤ F.length then 5 else 0
def fixNew (F : FixL) (s : ByteArray) (d v : Int) : FixL := if fixRes F s d v = 0 then F ++ [((s, d), v)] else F
theorem fixRes_arg {F : FixL} {s : ByteArray} {d v : Int} (h : isName s = false ∨ dayB d = false ∨ Vd v = false) : fixRes F s d v = 1 ∧ fixNew F s d v = F := by
  have e : fixRes F s d v = 1 := by unfold fixRes; rw [if_pos h]
  exact ⟨e, by unfold fixNew; rw [e, if_neg (by decide)]⟩
theorem fixRes_there {F : FixL} {s : ByteArray} {d v : Int} (h1 : isName s = true) (h2 : dayB d = true) (h3 : Vd v = true) (h : (F.lookup (s, d)).isSome = true) : fixRes F s d v = 4 ∧ fixNew F s d v = F := by
  have e : fixRes F s d v = 4 := by unfold fixRes; rw [if_neg (by simp [h1, h2, h3]), if_pos h]
  exact ⟨e, by unfold fixNew; rw [e, if_neg (by decide)]⟩
theorem fixRes_limit {F : FixL} {s : ByteArray} {d v : Int} (h1 : isName s = true) (h2 : dayB d = true) (h3 : Vd v = true) (h : (F.lookup (s, d)).isSome = false) (h4 : 32 ≤ F.length) : fixRes F s d v = 5 ∧ fixNew F s d v = F := by
  have e : fixRes F s d v = 5 := by unfold fixRes; rw [if_neg (by simp [h1, h2, h3]), if_neg (by simp [h]), if_pos h4]
  exact ⟨e, by unfold fixNew; rw [e, if_neg (by decide)]⟩
theorem fixRes_ok {F : FixL} {s : ByteArray} {d v : Int} (h1 : isName s = true) (h2 : dayB d = true) (h3 : Vd v = true) (h : (F.lookup (s, d)).isSome = false) (h4 : F.length < 32) : fixRes F s d v = 0 ∧ fixNew F s d v = F ++ [((s, d), v)] := by
  have e : fixRes F s d v = 0 := by unfold fixRes; rw [if_neg (by simp [h1, h2, h3]), if_neg (by simp [h]), if_neg (by omega)]
  exact ⟨e, by unfold fixNew; rw [e, if_pos rfl]⟩
/-- What a step in a world leaves: the answer, the world, and that block f alone has turned. -/
def RetFix (w : World) (p f c : Nat) (row : Nat) (r : Int) (F : FixL) (C : ChL) (e : Ending) (w' : World) : Prop :=
  e = .returned (.int .i64 r) ∧ Wld w' p f c F C ∧ w.grownBy w' (some row)
theorem RetFix.same {w w' : World} {p f c row : Nat} {r : Int} {F : FixL} {C : ChL} (h : Wld w p f c F C) (k : Ext w w') : RetFix w p f c row r F C (.returned (.int .i64 r)) w' := ⟨rfl, h.ext k, ext_grown k _⟩

def Step (w w' : World) : Prop := Ext w w'
theorem iter_ext {w w' : World} {s : ByteArray} (h : Ext w w') (pos : Nat) : Ext w (w'.iter s pos) := h.alloc _

theorem name_ext (s : ByteArray) (w : World) : Calls Try.prog 89 #[.string s] w fun e w' => e = .returned (.bool (isName s)) ∧ Ext w w' :=
  (name_calls s w).mono fun _ _ ⟨he, pos, hw⟩ => ⟨he, by rw [hw]; exact iter_ext (Ext.refl w) pos⟩

set_option maxRecDepth 100000 in
set_option maxHeartbeats 400000 in
theorem fix_calls (p f c : Nat) (F : FixL) (C : ChL) (s : ByteArray) (d v : Int) (w : World) (h : Wld w p f c F C) :
    Calls Try.prog 35 #[.pointer (some ⟨p, 0, none⟩), .string s, .int .i64 d, .int .i64 v] w (RetFix w p f c f (fixRes F s d v) (fixNew F s d v) C) := by
  have hc := h.cells.1
  obtain ⟨hp, hf, hcc⟩ := h.lts
  have hl := fun n => h.lookFix s d (w' := (w.alloc (.cells #[.string s, .int .i64 d] 168)).drewN n) (heap_old _ _ hf)
  cases hn : isName s with
  | false =>
    obtain ⟨e1, e2⟩ := fixRes_arg (F := F) (s := s) (d := d) (v := v) (.inl hn)
    rw [e1, e2]
    have H := Lib.hid h
    clear h e1 e2
    go_enter Try.func35, Try.ntmps35
    go_wp2_with fail
    go_quiet (fail)
    go_wp2_with (go_at_call 89; (with_reducible refine (name_calls _ _).mono ?_); rintro e w' ⟨rfl, pos, rfl⟩)
    go_ret
    exact RetFix.same H.out (((((Ext.refl _).alloc _).drewN _)).alloc _)
  | true =>
    have hc2 := hc
    cases hd : dayB d with
    | false =>
      obtain ⟨e1, e2⟩ := fixRes_arg (F := F) (s := s) (d := d) (v := v) (.inr (.inl hd))
      rw [e1, e2]
      have H := Lib.hid h
      clear h e1 e2
      go_enter Try.func35, Try.ntmps35
      go_wp2_with fail
      go_quiet (fail)
      go_wp2_with (first | (go_at_call 89; (with_reducible refine (name_ext _ _).mono ?_); rintro e w' ⟨rfl, hx⟩) | (go_at_call 90; (with_reducible refine (right_calls _ _).mono ?_); rintro e w' ⟨rfl, rfl⟩))
      go_ret
      exact RetFix.same H.out ((((Ext.refl _).alloc _).drewN _).trans hx)
    | true =>
      cases hv : Vd v with
      | false =>
        obtain ⟨e1, e2⟩ := fixRes_arg (F := F) (s := s) (d := d) (v := v) (.inr (.inr hv))
        rw [e1, e2]
        have H := Lib.hid h
        clear h e1 e2
        go_enter Try.func35, Try.ntmps35
        go_wp2_with fail
        go_quiet (fail)
        go_wp2_with (first | (go_at_call 89; (with_reducible refine (name_ext _ _).mono ?_); rintro e w' ⟨rfl, hx⟩) | (go_at_call 90; (with_reducible refine (right_calls _ _).mono ?_); rintro e w' ⟨rfl, rfl⟩) | (go_at_call 91; (with_reducible refine (valid_calls _ _).mono ?_); rintro e w' ⟨rfl, rfl⟩))
        go_ret
        exact RetFix.same H.out ((((Ext.refl _).alloc _).drewN _).trans hx)
      | true =>
        cases ht : (F.lookup (s, d)).isSome with
        | true =>
          obtain ⟨e1, e2⟩ := fixRes_there hn hd hv ht
          rw [e1, e2]
          have H := Lib.hid h
          clear h e1 e2
          go_enter Try.func35, Try.ntmps35
          go_wp2_with fail
          go_quiet (fail)
          go_wp2_with (first | (go_at_call 89; (with_reducible refine (name_ext _ _).mono ?_); rintro e w' ⟨rfl, hx⟩) | (go_at_call 90; (with_reducible refine (right_calls _ _).mono ?_); rintro e w' ⟨rfl, rfl⟩) | (go_at_call 91; (with_reducible refine (valid_calls _ _).mono ?_); rintro e w' ⟨rfl, rfl⟩))
          go_ret
          exact RetFix.same H.out ((((Ext.refl _).alloc _).drewN _).trans hx)
        | false =>
          by_cases h32 : 32 ≤ F.length
          · obtain ⟨e1, e2⟩ := fixRes_limit hn hd hv ht h32
            rw [e1, e2]
            have H := Lib.hid h
            clear h e1 e2
            go_enter Try.func35, Try.ntmps35
            go_wp2_with fail
            go_quiet (fail)
            (go_wp2_with fail; (with_reducible refine (name_ext _ _).mono ?_); rintro e w' ⟨rfl, hx⟩)
            have hx0 := (((Ext.refl w).alloc (.cells #[.string s, .int .i64 d] 168)).drewN nq).trans hx
            have hW := H.out.ext hx0
            have hc1 := hW.cells.1
            have hlen := hW.lenFix (w' := w') rfl
            clear hW hx
            go_wp2_with (first | (go_at_call 90; (with_reducible refine (right_calls _ _).mono ?_); rintro e w' ⟨rfl, rfl⟩) | (go_at_call 91; (with_reducible refine (valid_calls _ _).mono ?_); rintro e w' ⟨rfl, rfl⟩))
            go_ret
            exact RetFix.same H.out hx0
          · obtain ⟨e1, e2⟩ := fixRes_ok hn hd hv ht (by omega)
            rw [e1, e2]
            have H := Lib.hid h
            clear h e1 e2
            go_enter Try.func35, Try.ntmps35
            go_wp2_with fail
            go_quiet (fail)
            (go_wp2_with fail; (with_reducible refine (name_ext _ _).mono ?_); rintro e w' ⟨rfl, hx⟩)
            have hx0 := (((Ext.refl w).alloc (.cells #[.string s, .int .i64 d] 168)).drewN nq).trans hx
            have hb0 : w'.cell? ⟨w.heap.size, 0, none⟩ = some (.string s) := hx.cell (by simp)
            have hb1 : w'.cell? ⟨w.heap.size, 1, none⟩ = some (.int .i64 d) := hx.cell (by simp)
            have hW := H.out.ext hx0
            have hc1 := hW.cells.1
            have hlen := hW.lenFix (w' := w') rfl
            obtain ⟨es, ck, hes, hent⟩ := hW.fix
            have hput := run_put fixT (w := w'.drew) hes hent (s, d) (.int .i64 v) (by rw [fixE_lookup]; cases hq : F.lookup (s, d) with | none => rfl | some x => rw [hq] at ht; cases ht)
            have hput1 := hput.1
            unfold fixKey at hput1
            have HE := Lib.hid hput.2
            have HW := Lib.hid hW
            have Hes := Lib.hid hes
            clear hW hx hput hent hes
            go_wp2_with (first | (go_at_call 90; (with_reducible refine (right_calls _ _).mono ?_); rintro e w' ⟨rfl, rfl⟩) | (go_at_call 91; (with_reducible refine (valid_calls _ _).mono ?_); rintro e w' ⟨rfl, rfl⟩))
            go_still_tail 6, (by kernel_rfl)
            go_wp2
            go_ret
            refine ⟨rfl, ⟨?_, HW.out.ne, ?_, ?_⟩, (ext_grown hx0.drew _).trans (putObj_grown _ _ _)⟩
            · rw [putObj_other _ _ HW.out.pnf.1]
              exact HW.out.ptr
            · exact ⟨_, _, putObj_same (o' := .map es ck) Hes.out, by rw [show fixE (F ++ [((s, d), v)]) = fixE F ++ [((s, d), .int .i64 v)] by simp [fixE]]; exact HE.out⟩
            · obtain ⟨es', ck', h3, h4⟩ := HW.out.ch
              exact ⟨es', ck', by rw [putObj_other _ _ HW.out.ne.symm]; exact h3, h4⟩

end Go.Proofs.Ytgjjngkmbplijaa

/- Contracts of package world: Choose, Clone. -/
namespace Go.Proofs.Ytgjjngkmbplijaa
open Go.RowKit
set_option linter.unusedSimpArgs false
set_option linter.unusedVariables false

def sideB (k : Int) : Bool := decide (k = 0 ∨ k = 1)
theorem sideB_iff (k : Int) : sideB k = true ↔ (k = 0 ∨ k = 1) := by unfold sideB; simp
/-- What 'Choose' answers, and what is known then. -/
def chRes (C : ChL) (s t : ByteArray) (k d : Int) : Int :=
  if isName s = false ∨ isName t = false ∨ sideB k = false ∨ dayB d = false then 1 else if (C.lookup (s, t)).isSome = true then 4 else 0
def chNew (C : ChL) (s t : ByteArray) (k d : Int) : ChL := if chRes C s t k d = 0 then C ++ [((s, t), (k, d))] else C
theorem chRes_arg {C : ChL} {s t : ByteArray} {k d : Int} (h : isName s = false ∨ isName t = false ∨ sideB k = false ∨ dayB d = false) : chRes C s t k d = 1 ∧ chNew C s t k d = C := by
  have e : chRes C s t k d = 1 := by unfold chRes; rw [if_pos h]
  exact ⟨e, by unfold chNew; rw [e, if_neg (by decide)]⟩
theorem chRes_there {C : ChL} {s t : ByteArray} {k d : Int} (h1 : isName s = true) (h2 : isName t = true) (h3 : sideB k = true) (h4 : dayB d = true) (h : (C.lookup (s, t)).isSome = true) : chRes C s t k d = 4 ∧ chNew C s t k d = C := by
  have e : chRes C s t k d = 4 := by unfold chRes; rw [if_neg (by simp [h1, h2, h3, h4]), if_pos h]
  exact ⟨e, by unfold chNew; rw [e, if_neg (by decide)]⟩
theorem chRes_ok {C : ChL} {s t : ByteArray} {k d : Int} (h1 : isName s = true) (h2 : isName t = true) (h3 : sideB k = true) (h4 : dayB d = true) (h : (C.lookup (s, t)).isSome = false) : chRes C s t k d = 0 ∧ chNew C s t k d = C ++ [((s, t), (k, d))] := by
  have e : chRes C s t k d = 0 := by unfold chRes; rw [if_neg (by simp [h1, h2, h3, h4]), if_neg (by simp [h])]
  exact ⟨e, by unfold chNew; rw [e, if_pos rfl]⟩
theorem side_ways (k : Int) : (sideB k = true ∧ k = 0) ∨ (sideB k = true ∧ k = 1) ∨ (sideB k = false ∧ (k != 0) = true ∧ (k != 1) = true) := by
  by_cases h0 : k = 0
  · exact .inl ⟨(sideB_iff k).2 (.inl h0), h0⟩
  · by_cases h1 : k = 1
    · exact .inr (.inl ⟨(sideB_iff k).2 (.inr h1), h1⟩)
    · exact .inr (.inr ⟨bool_no (sideB_iff k) (by omega), by simpa using h0, by simpa using h1⟩)

/-- The world that 'Choose' works in, behind its look-up. -/
theorem choose_head {w : World} {p f c : Nat} {F : FixL} {C : ChL} (h : Wld w p f c F C) (s t : ByteArray) :
    (∀ n, (Instr.lookup 164 (.map (some c)) (.agg #[.string s, .string t]) true).run Try.prog ((w.alloc (.cells #[.string s, .string t] 171)).drewN n) = .ok (.tuple #[.agg #[.int .i64 ((C.lookup (s, t)).getD (0, 0)).1, .int .i64 ((C.lookup (s, t)).getD (0, 0)).2], .bool (C.lookup (s, t)).isSome]) ((w.alloc (.cells #[.string s, .string t] 171)).drewN n)) ∧
    ((Instr.lookup 164 (.map (some c)) (.agg #[.string s, .string t]) true).run Try.prog ((w.alloc (.cells #[.string s, .string t] 171)).drew) = .ok (.tuple #[.agg #[.int .i64 ((C.lookup (s, t)).getD (0, 0)).1, .int .i64 ((C.lookup (s, t)).getD (0, 0)).2], .bool (C.lookup (s, t)).isSome]) ((w.alloc (.cells #[.string s, .string t] 171)).drew)) ∧
    (∀ o, (Instr.lookup 164 (.map (some c)) (.agg #[.string s, .string t]) true).run Try.prog (((w.alloc (.cells #[.string s, .string t] 171)).alloc o).drew) = .ok (.tuple #[.agg #[.int .i64 ((C.lookup (s, t)).getD (0, 0)).1, .int .i64 ((C.lookup (s, t)).getD (0, 0)).2], .bool (C.lookup (s, t)).isSome]) (((w.alloc (.cells #[.string s, .string t] 171)).alloc o).drew)) := by
  have hcc := h.lts.2.2
  refine ⟨fun n => h.lookCh s t (heap_old _ _ hcc), h.lookCh s t (heap_old _ _ hcc), fun o => h.lookCh s t ?_⟩
  show ((w.alloc (.cells #[.string s, .string t] 171)).alloc o).heap[c]? = w.heap[c]?
  rw [heap_old _ _ (by simp; omega), heap_old _ _ hcc]

set_option maxRecDepth 100000 in
set_option maxHeartbeats 400000 in
theorem choose_no1 (p f c : Nat) (F : FixL) (C : ChL) (s t : ByteArray) (k d : Int) (w : World) (h : Wld w p f c F C) (hn : isName s = false) :
    Calls Try.prog 36 #[.pointer (some ⟨p, 0, none⟩), .string s, .string t, .int .i64 k, .int .i64 d] w (RetFix w p f c c (chRes C s t k d) F (chNew C s t k d)) := by
  have hc := h.cells.2
  obtain ⟨hp, hf, hcc⟩ := h.lts
  obtain ⟨hl1, hl2, hl3⟩ := choose_head h s t
  obtain ⟨e1, e2⟩ := chRes_arg (C := C) (s := s) (t := t) (k := k) (d := d) (.inl hn)
  rw [e1, e2]
  have H := Lib.hid h
  clear h e1 e2
  go_enter Try.func36, Try.ntmps36
  go_wp2_with fail
  go_region
  (go_wp2_with fail; (with_reducible refine (name_ext s _).mono ?_); rintro e w' ⟨rfl, hx⟩)
  have hx0 := Ext.trans (((((Ext.refl w).alloc (.cells #[.string s, .string t] 171))).alloc (.cells #[.int .i64 ((C.lookup (s, t)).getD (0, 0)).1, .int .i64 ((C.lookup (s, t)).getD (0, 0)).2] 173)).drew) hx
  go_wp2
  go_ret
  exact RetFix.same H.out hx0

set_option maxRecDepth 100000 in
set_option maxHeartbeats 400000 in
theorem choose_no2 (p f c : Nat) (F : FixL) (C : ChL) (s t : ByteArray) (k d : Int) (w : World) (h : Wld w p f c F C) (hn : isName s = true) (hm : isName t = false) :
    Calls Try.prog 36 #[.pointer (some ⟨p, 0, none⟩), .string s, .string t, .int .i64 k, .int .i64 d] w (RetFix w p f c c (chRes C s t k d) F (chNew C s t k d)) := by
  have hc := h.cells.2
  obtain ⟨hp, hf, hcc⟩ := h.lts
  obtain ⟨hl1, hl2, hl3⟩ := choose_head h s t
  obtain ⟨e1, e2⟩ := chRes_arg (C := C) (s := s) (t := t) (k := k) (d := d) (.inr (.inl hm))
  rw [e1, e2]
  have H := Lib.hid h
  clear h e1 e2
  go_enter Try.func36, Try.ntmps36
  go_wp2_with fail
  go_region
  (go_wp2_with fail; (with_reducible refine (name_ext s _).mono ?_); rintro e w' ⟨rfl, hx⟩)
  have hx0 := Ext.trans (((((Ext.refl w).alloc (.cells #[.string s, .string t] 171))).alloc (.cells #[.int .i64 ((C.lookup (s, t)).getD (0, 0)).1, .int .i64 ((C.lookup (s, t)).getD (0, 0)).2] 173)).drew) hx
  (go_wp2_with fail; (with_reducible refine (name_ext t _).mono ?_); rintro e w' ⟨rfl, hy⟩)
  go_wp2
  go_ret
  exact RetFix.same H.out (hx0.trans hy)

set_option maxRecDepth 100000 in
set_option maxHeartbeats 400000 in
theorem choose_no3 (p f c : Nat) (F : FixL) (C : ChL) (s t : ByteArray) (k d : Int) (w : World) (h : Wld w p f c F C) (hn : isName s = true) (hm : isName t = true) (hk : sideB k = false) :
    Calls Try.prog 36 #[.pointer (some ⟨p, 0, none⟩), .string s, .string t, .int .i64 k, .int .i64 d] w (RetFix w p f c c (chRes C s t k d) F (chNew C s t k d)) := by
  have hc := h.cells.2
  obtain ⟨hp, hf, hcc⟩ := h.lts
  obtain ⟨hl1, hl2, hl3⟩ := choose_head h s t
  obtain ⟨e1, e2⟩ := chRes_arg (C := C) (s := s) (t := t) (k := k) (d := d) (.inr (.inr (.inl hk)))
  rw [e1, e2]
  have hk2 : (k != 0) = true ∧ (k != 1) = true := by
    rcases side_ways k with ⟨h', _⟩ | ⟨h', _⟩ | ⟨_, h1, h2⟩
    · rw [hk] at h'; cases h'
    · rw [hk] at h'; cases h'
    · exact ⟨h1, h2⟩
  have k1 := hk2.1
  have k2 := hk2.2
  clear hk2
  have H := Lib.hid h
  clear h e1 e2
  go_enter Try.func36, Try.ntmps36
  go_wp2_with fail
  go_region
  (go_wp2_with fail; (with_reducible refine (name_ext s _).mono ?_); rintro e w' ⟨rfl, hx⟩)
  have hx0 := Ext.trans (((((Ext.refl w).alloc (.cells #[.string s, .string t] 171))).alloc (.cells #[.int .i64 ((C.lookup (s, t)).getD (0, 0)).1, .int .i64 ((C.lookup (s, t)).getD (0, 0)).2] 173)).drew) hx
  (go_wp2_with fail; (with_reducible refine (name_ext t _).mono ?_); rintro e w' ⟨rfl, hy⟩)
  go_wp2
  go_ret
  exact RetFix.same H.out (hx0.trans hy)

set_option maxRecDepth 100000 in
set_option maxHeartbeats 400000 in
theorem choose_no4 (p f c : Nat) (F : FixL) (C : ChL) (s t : ByteArray) (k d : Int) (w : World) (h : Wld w p f c F C) (hn : isName s = true) (hm : isName t = true) (hk : sideB k = true) (hd : dayB d = false) :
    Calls Try.prog 36 #[.pointer (some ⟨p, 0, none⟩), .string s, .string t, .int .i64 k, .int .i64 d] w (RetFix w p f c c (chRes C s t k d) F (chNew C s t k d)) := by
  have hc := h.cells.2
  obtain ⟨hp, hf, hcc⟩ := h.lts
  obtain ⟨hl1, hl2, hl3⟩ := choose_head h s t
  obtain ⟨e1, e2⟩ := chRes_arg (C := C) (s := s) (t := t) (k := k) (d := d) (.inr (.inr (.inr hd)))
  rw [e1, e2]
  have hk2 : k = 0 ∨ k = 1 := (sideB_iff k).1 hk
  clear hk
  rcases hk2 with rfl | rfl
  all_goals
    have H := Lib.hid h
    clear h e1 e2
    go_enter Try.func36, Try.ntmps36
    go_wp2_with fail
    go_region
    (go_wp2_with fail; (with_reducible refine (name_ext s _).mono ?_); rintro e w' ⟨rfl, hx⟩)
    have hx0 := Ext.trans (((((Ext.refl w).alloc (.cells #[.string s, .string t] 171))).alloc (.cells #[.int .i64 ((C.lookup (s, t)).getD (0, 0)).1, .int .i64 ((C.lookup (s, t)).getD (0, 0)).2] 173)).drew) hx
    (go_wp2_with fail; (with_reducible refine (name_ext t _).mono ?_); rintro e w' ⟨rfl, hy⟩)
    go_wp2_with (go_at_call 90; (with_reducible refine (right_calls _ _).mono ?_); rintro e w' ⟨rfl, rfl⟩)
    go_ret
    exact RetFix.same H.out (hx0.trans hy)

set_option maxRecDepth 100000 in
set_option maxHeartbeats 400000 in
theorem choose_there (p f c : Nat) (F : FixL) (C : ChL) (s t : ByteArray) (k d : Int) (w : World) (h : Wld w p f c F C) (hn : isName s = true) (hm : isName t = true) (hk : sideB k = true) (hd : dayB d = true) (ht : (C.lookup (s, t)).isSome = true) :
    Calls Try.prog 36 #[.pointer (some ⟨p, 0, none⟩), .string s, .string t, .int .i64 k, .int .i64 d] w (RetFix w p f c c (chRes C s t k d) F (chNew C s t k d)) := by
  have hc := h.cells.2
  obtain ⟨hp, hf, hcc⟩ := h.lts
  obtain ⟨hl1, hl2, hl3⟩ := choose_head h s t
  obtain ⟨e1, e2⟩ := chRes_there (k := k) hn hm hk hd ht
  rw [e1, e2]
  have hk2 : k = 0 ∨ k = 1 := (sideB_iff k).1 hk
  clear hk
  rcases hk2 with rfl | rfl
  all_goals
    have H := Lib.hid h
    clear h e1 e2
    go_enter Try.func36, Try.ntmps36
    go_wp2_with fail
    go_region
    (go_wp2_with fail; (with_reducible refine (name_ext s _).mono ?_); rintro e w' ⟨rfl, hx⟩)
    have hx0 := Ext.trans (((((Ext.refl w).alloc (.cells #[.string s, .string t] 171))).alloc (.cells #[.int .i64 ((C.lookup (s, t)).getD (0, 0)).1, .int .i64 ((C.lookup (s, t)).getD (0, 0)).2] 173)).drew) hx
    (go_wp2_with fail; (with_reducible refine (name_ext t _).mono ?_); rintro e w' ⟨rfl, hy⟩)
    go_wp2_with (go_at_call 90; (with_reducible refine (right_calls _ _).mono ?_); rintro e w' ⟨rfl, rfl⟩)
    go_ret
    exact RetFix.same H.out (hx0.trans hy)

set_option maxRecDepth 100000 in
set_option maxHeartbeats 400000 in
theorem choose_ok (p f c : Nat) (F : FixL) (C : ChL) (s t : ByteArray) (k d : Int) (w : World) (h : Wld w p f c F C) (hn : isName s = true) (hm : isName t = true) (hk : sideB k = true) (hd : dayB d = true) (ht : (C.lookup (s, t)).isSome = false) :
    Calls Try.prog 36 #[.pointer (some ⟨p, 0, none⟩), .string s, .string t, .int .i64 k, .int .i64 d] w (RetFix w p f c c (chRes C s t k d) F (chNew C s t k d)) := by
  have hc := h.cells.2
  obtain ⟨hp, hf, hcc⟩ := h.lts
  obtain ⟨hl1, hl2, hl3⟩ := choose_head h s t
  obtain ⟨e1, e2⟩ := chRes_ok hn hm hk hd ht
  rw [e1, e2]
  have hk2 : k = 0 ∨ k = 1 := (sideB_iff k).1 hk
  clear hk
  rcases hk2 with rfl | rfl
  all_goals
    have H := Lib.hid h
    clear h e1 e2
    go_enter Try.func36, Try.ntmps36
    go_wp2_with fail
    go_region
    (go_wp2_with fail; (with_reducible refine (name_ext s _).mono ?_); rintro e w' ⟨rfl, hx⟩)
    have hx0 := Ext.trans (((((Ext.refl w).alloc (.cells #[.string s, .string t] 171))).alloc (.cells #[.int .i64 ((C.lookup (s, t)).getD (0, 0)).1, .int .i64 ((C.lookup (s, t)).getD (0, 0)).2] 173)).drew) hx
    have hb0 := hx.cell (p := ⟨w.heap.size, 0, none⟩) (v := .string s) (by simp [go_sem])
    have hb1 := hx.cell (p := ⟨w.heap.size, 1, none⟩) (v := .string t) (by simp [go_sem])
    clear hx
    (go_wp2_with fail; (with_reducible refine (name_ext t _).mono ?_); rintro e w' ⟨rfl, hy⟩)
    have hz := hx0.trans hy
    replace hb0 := hy.cell hb0
    replace hb1 := hy.cell hb1
    have hW := H.out.ext hz
    have hc1 := hW.cells.2

    obtain ⟨es, ck, hes, hent⟩ := hW.ch
    have hput := fun v => run_put chT (w := w'.drew) hes hent (s, t) v (by rw [chE_lookup]; cases hq : C.lookup (s, t) with | none => rfl | some x => rw [hq] at ht; cases ht)
    have hput1 := fun v => (hput v).1
    unfold chKey at hput1
    have HE := Lib.hid (fun v => (hput v).2)
    have HW := Lib.hid hW
    have Hes := Lib.hid hes
    clear hW hx0 hy hput hent hes
    go_wp2_with (go_at_call 90; (with_reducible refine (right_calls _ _).mono ?_); rintro e w' ⟨rfl, rfl⟩)
    go_still_tail 8, (by kernel_rfl)
    go_wp2
    go_ret
    refine ⟨rfl, ⟨?_, HW.out.ne, ?_, ?_⟩, (ext_grown hz.drew _).trans (putObj_grown _ _ _)⟩
    · rw [putObj_other _ _ HW.out.pnf.2]
      exact HW.out.ptr
    · obtain ⟨es', ck', h3, h4⟩ := HW.out.fix
      exact ⟨es', ck', by rw [putObj_other _ _ HW.out.ne]; exact h3, h4⟩
    · exact ⟨_, _, putObj_same (o' := .map es ck) Hes.out, by rw [show chE (C ++ [((s, t), (_, d))]) = chE C ++ [((s, t), .agg #[.int .i64 _, .int .i64 d])] by simp [chE]; rfl]; exact HE.out _⟩

theorem choose_calls (p f c : Nat) (F : FixL) (C : ChL) (s t : ByteArray) (k d : Int) (w : World) (h : Wld w p f c F C) :
    Calls Try.prog 36 #[.pointer (some ⟨p, 0, none⟩), .string s, .string t, .int .i64 k, .int .i64 d] w (RetFix w p f c c (chRes C s t k d) F (chNew C s t k d)) := by
  cases hn : isName s with
  | false => exact choose_no1 p f c F C s t k d w h hn
  | true =>
    cases hm : isName t with
    | false => exact choose_no2 p f c F C s t k d w h hn hm
    | true =>
      cases hk : sideB k with
      | false => exact choose_no3 p f c F C s t k d w h hn hm hk
      | true =>
        cases hd : dayB d with
        | false => exact choose_no4 p f c F C s t k d w h hn hm hk hd
        | true =>
          cases ht : (C.lookup (s, t)).isSome with
          | true => exact choose_there p f c F C s t k d w h hn hm hk hd ht
          | false => exact choose_ok p f c F C s t k d w h hn hm hk hd ht

end Go.Proofs.Ytgjjngkmbplijaa

/- Contracts of package world: Clone. -/
namespace Go.Proofs.Ytgjjngkmbplijaa
open Go.RowKit
set_option linter.unusedSimpArgs false
set_option linter.unusedVariables false
set_option maxRecDepth 100000 in
theorem run_clone (t : TypeId) (r : Nat) (es : Array MapEntry) (ck : Nat) (w : World) (h : w.heap[r]? = some (.map es ck)) :
    (callFunc 125 #[.iface t (.map (some r))]).run Try.prog w = .ok (.value (.iface t (.map (some w.heap.size)))) (w.alloc (.map es ck)) := by
  have hfn : Try.prog.funcs[125]? = some Try.f125 := Try.func125
  have h1 : (Try.f125.name == "runtime.NumGoroutine") = false := by kernel_rfl
  have h2 : Try.f125.body.isNone = true := by kernel_rfl
  have h3 : (Extern.findNext Try.f125).isNone = true := by kernel_rfl
  have h4 : Extern.find Try.f125 = some Extern.MapsClone.clone := by kernel_rfl
  have h3' : Extern.findNext Try.f125 = none := by simpa using h3
  have hg : (getObj r).run Try.prog w = .ok (.map es ck) w := by simp [getObj, Sem.run, h]
  unfold callFunc
  simp only [Sem.run_bind, run_program, Result.andThen_ok, hfn, h1, h2, h3', h4, Bool.false_eq_true, if_false, if_true, run_mark, Sem.run_pure]
  have hc : Extern.MapsClone.clone #[.iface t (.map (some r))] = ((getObj r).bind fun o => match o with | .map entries clock => (newObj (.map entries clock)).bind (fun x => Sem.pure (.iface t (.map (some x)))) | _ => stuck "maps.clone: a map expected") := rfl
  rw [hc]
  have hb : ∀ (α β : Type) (x : Sem α) (g : α → Sem β), x.bind g = x >>= g := fun _ _ _ _ => rfl
  rw [hb]
  simp only [Sem.run_bind, hg, Result.andThen_ok]
  rw [hb]
  simp

set_option maxRecDepth 100000 in
set_option maxHeartbeats 400000 in
theorem clone1_calls (f : Nat) (es : Array MapEntry) (ck : Nat) (w : World) (h : w.heap[f]? = some (.map es ck)) :
    Calls Try.prog 92 #[.map (some f)] w fun e w' => e = .returned (.map (some w.heap.size)) ∧ w' = w.alloc (.map es ck) := by
  have hcl := run_clone 163 f es ck w h
  have hta := fun W v => run_ta_hit1 (P := Try.prog) (t := 163) (by kernel_rfl) 20 v W
  have h1 := fun W r => run_eql_map_nil (P := Try.prog) W 163 168 3 r (by kernel_rfl)
  go_enter Try.func92, Try.ntmps92
  go_wp2_with fail
  go_ret
  exact ⟨rfl, rfl⟩
set_option maxRecDepth 100000 in
set_option maxHeartbeats 400000 in
theorem clone2_calls (f : Nat) (es : Array MapEntry) (ck : Nat) (w : World) (h : w.heap[f]? = some (.map es ck)) :
    Calls Try.prog 93 #[.map (some f)] w fun e w' => e = .returned (.map (some w.heap.size)) ∧ w' = w.alloc (.map es ck) := by
  have hcl := run_clone 164 f es ck w h
  have hta := fun W v => run_ta_hit1 (P := Try.prog) (t := 164) (by kernel_rfl) 20 v W
  have h1 := fun W r => run_eql_map_nil (P := Try.prog) W 164 171 173 r (by kernel_rfl)
  go_enter Try.func93, Try.ntmps93
  go_wp2_with fail
  go_ret
  exact ⟨rfl, rfl⟩

set_option maxRecDepth 100000 in
set_option maxHeartbeats 400000 in
theorem clone_calls (p f c : Nat) (F : FixL) (C : ChL) (w : World) (h : Wld w p f c F C) :
    Calls Try.prog 41 #[.pointer (some ⟨p, 0, none⟩)] w (RetWorld w F C) := by
  obtain ⟨hc0, hc1⟩ := h.cells
  obtain ⟨hp, hf, hcc⟩ := h.lts
  obtain ⟨es, ck, he1, he2⟩ := h.fix
  obtain ⟨es', ck', he3, he4⟩ := h.ch
  have H := Lib.hid h
  have H2 := Lib.hid he2
  have H4 := Lib.hid he4
  have H1 := Lib.hid he1
  have H3 := Lib.hid he3
  clear h he2 he4 he1 he3
  go_enter Try.func41, Try.ntmps41
  go_wp2_with fail
  go_region_with (first | (go_at_call 92; (with_reducible refine (clone1_calls f es ck _ ?_).mono ?_); (first | exact H1.out | exact (heap_old _ _ hf).trans H1.out); rintro e w' ⟨rfl, rfl⟩) | (go_at_call 93; (with_reducible refine (clone2_calls c es' ck' _ ?_).mono ?_); (first | exact H3.out | exact (heap_old _ _ hcc).trans H3.out); rintro e w' ⟨rfl, rfl⟩))
  all_goals
    go_wp2
    go_ret
    refine ⟨w.heap.size + 2, w.heap.size, w.heap.size + 1, rfl, ⟨?_, by omega, ⟨es, ck, ?_, H2.out⟩, ⟨es', ck', ?_, H4.out⟩⟩, ?_, by omega, by omega, by omega⟩
    · have := heap_new ((w.alloc (.map es ck)).alloc (.map es' ck')) (.cells #[.map (some w.heap.size), .map (some (w.heap.size + 1))] 166)
      have e : ((w.alloc (.map es ck)).alloc (.map es' ck')).heap.size = w.heap.size + 2 := by simp
      rw [e] at this
      exact this
    · have h1 := heap_old (w.alloc (.map es ck)) (.map es' ck') (k := w.heap.size) (by simp)
      have h2 := heap_old ((w.alloc (.map es ck)).alloc (.map es' ck')) (.cells #[.map (some w.heap.size), .map (some (w.heap.size + 1))] 166) (k := w.heap.size) (by simp; omega)
      exact (h2.trans h1).trans (heap_new _ _)
    · have h1 := heap_new (w.alloc (.map es ck)) (.map es' ck')
      have h2 := heap_old ((w.alloc (.map es ck)).alloc (.map es' ck')) (.cells #[.map (some w.heap.size), .map (some (w.heap.size + 1))] 166) (k := w.heap.size + 1) (by simp)
      refine h2.trans ?_
      simpa using h1
    · exact ((((Ext.refl w).alloc _).alloc _).alloc _).drew

end Go.Proofs.Ytgjjngkmbplijaa
