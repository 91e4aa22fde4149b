/- Contracts of package world: Clone. -/
import Derived.Test.YtgjjngkmbplijaaWorld2
import Derived.Deep.RegionWith
namespace Go.Proofs.Ytgjjngkmbplijaa
open Go.RowKit
set_option linter.unusedSimpArgs false
set_option linter.unusedVariables false
set_option maxRecDepth 100000 in
theorem run_clone (t : TypeId) (r : Nat) (es : Array MapEntry) (ck : Nat) (w : World) (h : w.heap[r]? = some (.map es ck)) :
    (callFunc 125 #[.iface t (.map (some r))]).run Try.prog w = .ok (.value (.iface t (.map (some w.heap.size)))) (w.alloc (.map es ck)) := by
  have hfn : Try.prog.funcs[125]? = some Try.f125 := Try.func125
  have h1 : (Try.f125.name == "runtime.NumGoroutine") = false := by kernel_rfl
  have h2 : Try.f125.body.isNone = true := by kernel_rfl
  have h3 : (Extern.findNext Try.f125).isNone = true := by kernel_rfl
  have h4 : Extern.find Try.f125 = some Extern.MapsClone.clone := by kernel_rfl
  have h3' : Extern.findNext Try.f125 = none := by simpa using h3
  have hg : (getObj r).run Try.prog w = .ok (.map es ck) w := by simp [getObj, Sem.run, h]
  unfold callFunc
  simp only [Sem.run_bind, run_program, Result.andThen_ok, hfn, h1, h2, h3', h4, Bool.false_eq_true, if_false, if_true, run_mark, Sem.run_pure]
  have hc : Extern.MapsClone.clone #[.iface t (.map (some r))] = ((getObj r).bind fun o => match o with | .map entries clock => (newObj (.map entries clock)).bind (fun x => Sem.pure (.iface t (.map (some x)))) | _ => stuck "maps.clone: a map expected") := rfl
  rw [hc]
  have hb : ∀ (α β : Type) (x : Sem α) (g : α → Sem β), x.bind g = x >>= g := fun _ _ _ _ => rfl
  rw [hb]
  simp only [Sem.run_bind, hg, Result.andThen_ok]
  rw [hb]
  simp

set_option maxRecDepth 100000 in
set_option maxHeartbeats 400000 in
theorem clone1_calls (f : Nat) (es : Array MapEntry) (ck : Nat) (w : World) (h : w.heap[f]? = some (.map es ck)) :
    Calls Try.prog 92 #[.map (some f)] w fun e w' => e = .returned (.map (some w.heap.size)) ∧ w' = w.alloc (.map es ck) := by
  have hcl := run_clone 163 f es ck w h
  have hta := fun W v => run_ta_hit1 (P := Try.prog) (t := 163) (by kernel_rfl) 20 v W
  have h1 := fun W r => run_eql_map_nil (P := Try.prog) W 163 168 3 r (by kernel_rfl)
  go_enter Try.func92, Try.ntmps92
  go_wp2_with fail
  go_ret
  exact ⟨rfl, rfl⟩
set_option maxRecDepth 100000 in
set_option maxHeartbeats 400000 in
theorem clone2_calls (f : Nat) (es : Array MapEntry) (ck : Nat) (w : World) (h : w.heap[f]? = some (.map es ck)) :
    Calls Try.prog 93 #[.map (some f)] w fun e w' => e = .returned (.map (some w.heap.size)) ∧ w' = w.alloc (.map es ck) := by
  have hcl := run_clone 164 f es ck w h
  have hta := fun W v => run_ta_hit1 (P := Try.prog) (t := 164) (by kernel_rfl) 20 v W
  have h1 := fun W r => run_eql_map_nil (P := Try.prog) W 164 171 173 r (by kernel_rfl)
  go_enter Try.func93, Try.ntmps93
  go_wp2_with fail
  go_ret
  exact ⟨rfl, rfl⟩

set_option maxRecDepth 100000 in
set_option maxHeartbeats 400000 in
theorem clone_calls (p f c : Nat) (F : FixL) (C : ChL) (w : World) (h : Wld w p f c F C) :
    Calls Try.prog 41 #[.pointer (some ⟨p, 0, none⟩)] w (RetWorld w F C) := by
  obtain ⟨hc0, hc1⟩ := h.cells
  obtain ⟨hp, hf, hcc⟩ := h.lts
  obtain ⟨es, ck, he1, he2⟩ := h.fix
  obtain ⟨es', ck', he3, he4⟩ := h.ch
  have H := Lib.hid h
  have H2 := Lib.hid he2
  have H4 := Lib.hid he4
  have H1 := Lib.hid he1
  have H3 := Lib.hid he3
  clear h he2 he4 he1 he3
  go_enter Try.func41, Try.ntmps41
  go_wp2_with fail
  go_region_with (first | (go_at_call 92; (with_reducible refine (clone1_calls f es ck _ ?_).mono ?_); (first | exact H1.out | exact (heap_old _ _ hf).trans H1.out); rintro e w' ⟨rfl, rfl⟩) | (go_at_call 93; (with_reducible refine (clone2_calls c es' ck' _ ?_).mono ?_); (first | exact H3.out | exact (heap_old _ _ hcc).trans H3.out); rintro e w' ⟨rfl, rfl⟩))
  all_goals
    go_wp2
    go_ret
    refine ⟨w.heap.size + 2, w.heap.size, w.heap.size + 1, rfl, ⟨?_, by omega, ⟨es, ck, ?_, H2.out⟩, ⟨es', ck', ?_, H4.out⟩⟩, ?_, by omega, by omega, by omega⟩
    · have := heap_new ((w.alloc (.map es ck)).alloc (.map es' ck')) (.cells #[.map (some w.heap.size), .map (some (w.heap.size + 1))] 166)
      have e : ((w.alloc (.map es ck)).alloc (.map es' ck')).heap.size = w.heap.size + 2 := by simp
      rw [e] at this
      exact this
    · have h1 := heap_old (w.alloc (.map es ck)) (.map es' ck') (k := w.heap.size) (by simp)
      have h2 := heap_old ((w.alloc (.map es ck)).alloc (.map es' ck')) (.cells #[.map (some w.heap.size), .map (some (w.heap.size + 1))] 166) (k := w.heap.size) (by simp; omega)
      exact (h2.trans h1).trans (heap_new _ _)
    · have h1 := heap_new (w.alloc (.map es ck)) (.map es' ck')
      have h2 := heap_old ((w.alloc (.map es ck)).alloc (.map es' ck')) (.cells #[.map (some w.heap.size), .map (some (w.heap.size + 1))] 166) (k := w.heap.size + 1) (by simp)
      refine h2.trans ?_
      simpa using h1
    · exact ((((Ext.refl w).alloc _).alloc _).alloc _).drew

end Go.Proofs.Ytgjjngkmbplijaa
