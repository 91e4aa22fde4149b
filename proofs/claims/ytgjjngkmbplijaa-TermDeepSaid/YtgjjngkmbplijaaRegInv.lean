/- A region that draws its order, by an invariant over what of it is done: one step for each operation, whatever the order. -/
import Derived.Test.YtgjjngkmbplijaaBase
import Derived.RegionTactic
namespace Go.Proofs.Ytgjjngkmbplijaa
open Go.RowKit
set_option linter.unusedSimpArgs false
set_option linter.unusedVariables false

/-- Operation j is done. -/
def Dn (l : Array Bool) (j : Nat) : Prop := l.getD j false = true
theorem Dn.set {l : Array Bool} {i j : Nat} (h : Dn (l.setIfInBounds i true) j) (hne : i ≠ j) : Dn l j := by
  unfold Dn at *
  rwa [getD_set_ne false hne] at h
theorem Dn.of_true {l : Array Bool} {i : Nat} (hi : i < l.size) : Dn (l.setIfInBounds i true) i := by
  unfold Dn
  simp [hi]
theorem Dn.keep {l : Array Bool} {i j : Nat} (h : Dn l j) : Dn (l.setIfInBounds i true) j := getD_set_true h
theorem dn_none (n j : Nat) : ¬ Dn (Array.replicate n false) j := by
  intro hd
  unfold Dn at hd
  rcases Nat.lt_or_ge j n with h | h
  · simp [h] at hd
  · simp [h] at hd
/-- Each edge goes back. -/
def backB (md : Region.Mode) (ops : Array Oper) : Bool :=
  (List.range ops.size).all fun i => match ops[i]? with
    | some o => o.after.all fun e => !Region.binds md e || decide (e.on < i)
    | none => true
def freeN (l : Array Bool) : Nat := (l.toList.filter (fun b => !b)).length
theorem freeN_set {l : Array Bool} {i : Nat} (h : l.getD i true = false) : freeN (l.setIfInBounds i true) + 1 = freeN l := by
  have hi : i < l.size := by
    rcases Nat.lt_or_ge i l.size with h' | h'
    · exact h'
    · simp [Array.getElem?_eq_none h'] at h
  have hg : l[i] = false := by simpa [hi] using h
  obtain ⟨l⟩ := l
  simp only [freeN, List.size_toArray] at *
  have hg' : l[i] = false := by simpa using hg
  have e1 : l = l.take i ++ false :: l.drop (i + 1) := by
    have h1 := (List.take_append_drop i l).symm
    rw [List.drop_eq_getElem_cons hi, hg'] at h1
    exact h1
  have e2 : (List.toArray l).setIfInBounds i true = List.toArray (l.set i true) := by simp
  rw [e2]
  show (List.filter (fun b => !b) (l.set i true)).length + 1 = (List.filter (fun b => !b) l).length
  rw [List.set_eq_take_append_cons_drop, if_pos (show i < l.length from hi)]
  conv => rhs; rw [e1]
  simp only [List.filter_append, List.filter_cons, List.length_append]
  simp
  omega

section
variable {P : Program} {md : Region.Mode} {ops : Array Oper} {Q : Exit → Act → World → Prop}
theorem all_done (hb : backB md ops = true) {l : Array Bool} (hs : l.size = ops.size) (hr : Region.ready md ops l = []) : ∀ i, i < ops.size → Dn l i := by
  intro i
  induction i using Nat.strongRecOn with
  | _ i ih =>
    intro hi
    cases hd : l.getD i true with
    | true =>
      have : i < l.size := by omega
      unfold Dn
      simpa [this] using hd
    | false =>
      exfalso
      have hmem : i ∈ Region.ready md ops l := by
        refine mem_ready.2 ⟨hd, ops[i], Array.getElem?_eq_getElem hi, fun e he hbd => ?_⟩
        have h1 := List.all_eq_true.1 hb i (List.mem_range.2 hi)
        rw [Array.getElem?_eq_getElem hi] at h1
        have h2 := Array.all_eq_true_iff_forall_mem.1 h1 e he
        simp only [hbd, Bool.not_true, Bool.false_or, decide_eq_true_eq] at h2
        exact ih _ h2 (by omega)
      rw [hr] at hmem
      cases hmem
/-- What is done has all done that it waits for. -/
def Closed (md : Region.Mode) (ops : Array Oper) (l : Array Bool) : Prop := ∀ j oj, ops[j]? = some oj → Dn l j → ∀ e ∈ oj.after, Region.binds md e = true → Dn l e.on
theorem Closed.set {l : Array Bool} {i : Nat} {o : Oper} (h : Closed md ops l) (ho : ops[i]? = some o) (hd : ∀ e ∈ o.after, Region.binds md e = true → Dn l e.on) : Closed md ops (l.setIfInBounds i true) := by
  intro j oj hj hdn e he hb
  by_cases hij : i = j
  · subst hij
    rw [ho] at hj
    injection hj with hj
    subst hj
    exact (hd e he hb).keep
  · exact (h j oj hj (hdn.set hij) e he hb).keep
theorem wpAny_inv (I : Array Bool → Act → World → Prop) (hb : backB md ops = true)
    (hstep : ∀ (i : Nat) (o : Oper), ops[i]? = some o → ∀ l a w, l.size = ops.size → Closed md ops l → I l a w → l.getD i true = false → (∀ e ∈ o.after, Region.binds md e = true → Dn l e.on) → wpOp P ops Q i (I (l.setIfInBounds i true)) a w)
    (hend : ∀ l a w, l.size = ops.size → I l a w → (∀ i, i < ops.size → Dn l i) → Q .normal a w) :
    ∀ (fuel : Nat) l a w, l.size = ops.size → Closed md ops l → freeN l ≤ fuel → I l a w → wpAny P md ops Q fuel l a w := by
  intro fuel
  induction fuel with
  | zero =>
    intro l a w hs _ hf hI
    have hr : Region.ready md ops l = [] := by
      cases hr : Region.ready md ops l with
      | nil => rfl
      | cons i r =>
        have hi : i ∈ Region.ready md ops l := by rw [hr]; exact List.mem_cons_self ..
        obtain ⟨h1, _⟩ := mem_ready.1 hi
        have := freeN_set h1
        omega
    exact ⟨hr, hend l a w hs hI (all_done hb hs hr)⟩
  | succ fuel ih =>
    intro l a w hs hc hf hI
    refine ⟨fun hr => hend l a w hs hI (all_done hb hs hr), fun i hi => ?_⟩
    obtain ⟨h1, o, ho, h2⟩ := mem_ready.1 hi
    exact wpOp_mono (fun a' w' hI' => ih _ a' w' (by simpa using hs) (hc.set ho h2) (by have := freeN_set h1; omega) hI') (hstep i o ho l a w hs hc hI h1 h2)
/-- The law: an invariant that holds at the beginning, that each operation keeps, and that tells enough at the end. -/
theorem wp_region_inv {id : Nat} {a : Act} {w : World} (I : Array Bool → Act → World → Prop) (hm : P.follows .mixedOrders = true) (hb : backB .any ops = true)
    (h0 : I (Array.replicate ops.size false) a w.drew)
    (hstep : ∀ (i : Nat) (o : Oper), ops[i]? = some o → ∀ l a w, l.size = ops.size → Closed .any ops l → I l a w → l.getD i true = false → (∀ e ∈ o.after, Region.binds .any e = true → Dn l e.on) → wpOp P ops Q i (I (l.setIfInBounds i true)) a w)
    (hend : ∀ l a w, l.size = ops.size → I l a w → (∀ i, i < ops.size → Dn l i) → Q .normal a w) : (Code.region id ops true).wp P Q a w :=
  wp_region_any hm (wpAny_inv I hb hstep hend _ _ a _ (by simp) (fun j oj _ hd => absurd hd (dn_none _ _)) (by simp [freeN]) h0)
/-- Each operation ahead of the last one is waited for by a later one. -/
def lastB (ops : Array Oper) (n : Nat) : Bool :=
  (List.range n).all fun i => (List.range (n + 1)).any fun j => decide (i < j) && match ops[j]? with
    | some o => o.after.any fun e => Region.binds .any e && e.on == i
    | none => false
theorem all_ahead {n : Nat} {on : Oper} (hl : lastB ops n = true) (hon : ops[n]? = some on) {l : Array Bool} (hc : Closed .any ops l) (hd : ∀ e ∈ on.after, Region.binds .any e = true → Dn l e.on) : ∀ (d i : Nat), n - i = d → i < n → Dn l i := by
  intro d
  induction d using Nat.strongRecOn with
  | _ d ih =>
    intro i hid hi
    have h1 := List.all_eq_true.1 hl i (List.mem_range.2 hi)
    obtain ⟨j, hj, h2⟩ := List.any_eq_true.1 h1
    simp only [Bool.and_eq_true, decide_eq_true_eq] at h2
    obtain ⟨hij, h3⟩ := h2
    have hjn := List.mem_range.1 hj
    cases hoj : ops[j]? with
    | none => rw [hoj] at h3; cases h3
    | some oj =>
      rw [hoj] at h3
      obtain ⟨e, he, h4⟩ := Array.any_eq_true'.1 h3
      simp only [Bool.and_eq_true, beq_iff_eq] at h4
      by_cases hjn2 : j = n
      · subst hjn2
        rw [hon] at hoj
        injection hoj with hoj
        subst hoj
        have := hd e he h4.1
        rwa [h4.2] at this
      · have hdj := ih (n - j) (by omega) j rfl (by omega)
        have := hc j oj hoj hdj e he h4.1
        rwa [h4.2] at this
/-- What one operation has to show: the invariant is kept. -/
def StepOk (P : Program) (ops : Array Oper) (Q : Exit → Act → World → Prop) (I : Array Bool → Act → World → Prop) (i : Nat) (o : Oper) : Prop :=
  ∀ l a w, l.size = ops.size → I l a w → l.getD i true = false → (∀ e ∈ o.after, Region.binds .any e = true → Dn l e.on) →
    ∀ K : Act → World → Prop, (∀ a' w', I (l.setIfInBounds i true) a' w' → K a' w') → if Region.wanted o (yielded ops a.tmps) = true then Oper.wp P o a w K Q else K (a.put o.dst undef) w
theorem steps_nil {I : Array Bool → Act → World → Prop} : ∀ j ∈ ([] : List Nat), ∀ o, ops[j]? = some o → StepOk P ops Q I j o := fun _ h => by cases h
theorem steps_cons {I : Array Bool → Act → World → Prop} {i : Nat} {o : Oper} {rs : List Nat} (ho : ops[i]? = some o) (h : StepOk P ops Q I i o) (hs : ∀ j ∈ rs, ∀ o, ops[j]? = some o → StepOk P ops Q I j o) :
    ∀ j ∈ i :: rs, ∀ o, ops[j]? = some o → StepOk P ops Q I j o := by
  intro j hj o' ho'
  rcases List.mem_cons.1 hj with rfl | hj
  · rw [ho] at ho'
    injection ho' with ho'
    subst ho'
    exact h
  · exact hs j hj o' ho'
/-- The same, where the last operation waits for all others. -/
theorem wp_region_last {id : Nat} {a : Act} {w : World} (n : Nat) (on : Oper) (I : Array Bool → Act → World → Prop) (hm : P.follows .mixedOrders = true) (hn : ops.size = n + 1) (hb : backB .any ops = true) (hl : lastB ops n = true) (hon : ops[n]? = some on)
    (h0 : I (Array.replicate ops.size false) a w.drew)
    (hstep : ∀ j ∈ List.range n, ∀ o, ops[j]? = some o → StepOk P ops Q I j o)
    (hlast : ∀ l a w, I l a w → (∀ i, i < n → Dn l i) → ∀ K : Act → World → Prop, (∀ a' w', Q .normal a' w' → K a' w') → if Region.wanted on (yielded ops a.tmps) = true then Oper.wp P on a w K Q else K (a.put on.dst undef) w) : (Code.region id ops true).wp P Q a w := by
  refine wp_region_inv (fun l a w => (l.getD n true = false ∧ I l a w) ∨ ((∀ i, i < n + 1 → Dn l i) ∧ Q .normal a w)) hm hb ?_ ?_ ?_
  · refine .inl ⟨?_, h0⟩
    have : n < (Array.replicate ops.size false).size := by simp; omega
    simp [hn]
  · intro i o ho l a w hs hcl hI hi hd
    have hin : i < n + 1 := by rw [← hn]; exact (Array.getElem?_eq_some_iff.1 ho).1
    rcases hI with ⟨hne, hI⟩ | ⟨hall, hQ⟩
    · by_cases hin2 : i = n
      · subst hin2
        rw [hon] at ho
        injection ho with ho
        subst ho
        have hall : ∀ j, j < i → Dn l j := fun j hj => all_ahead hl hon hcl hd _ j rfl hj
        refine wpOp_step hon (fun K hK => hlast l a w hI hall K (fun a' w' hq => hK a' w' (.inr ⟨fun j hj => ?_, hq⟩)))
        by_cases hji : j = i
        · subst hji; exact Dn.of_true (by omega)
        · exact (hall j (by omega)).keep
      · refine wpOp_step ho (fun K hK => hstep i (List.mem_range.2 (by omega)) o ho l a w hs hI hi hd K (fun a' w' h => hK a' w' (.inl ⟨?_, h⟩)))
        rw [getD_set_ne true hin2]
        exact hne
    · exfalso
      have := hall i hin
      unfold Dn at this
      have h2 : i < l.size := by omega
      simp [h2] at this hi
      rw [hi] at this
      cases this
  · intro l a w hs hI hall
    rcases hI with ⟨hne, hI⟩ | ⟨_, hQ⟩
    · exfalso
      have := hall n (by omega)
      unfold Dn at this
      have h2 : n < l.size := by omega
      simp [h2] at this hne
      rw [hne] at this
      cases this
    · exact hQ
end

/-- A slot behind a store into another one. -/
theorem ev_put {a : Act} {d t : Tmp} {v : Value} (h : t ≠ d) : (a.put (some d) v).eval (.tmp t) = a.eval (.tmp t) := Act.eval_put (fun e he => by injection he with he; subst he; intro e2; injection e2 with e2; exact h e2)
theorem ev_same {a : Act} {d : Tmp} {v : Value} (h : d < a.tmps.size) : (a.put (some d) v).eval (.tmp d) = v := by
  simp [Act.eval, Act.put, h]
theorem put_size {a : Act} {d : Tmp} {v : Value} : (a.put (some d) v).tmps.size = a.tmps.size := by simp [Act.put]
theorem put_defers' {a : Act} {d : Tmp} {v : Value} : (a.put (some d) v).defers = a.defers := rfl


/-- The frame is as at first but for the slots ds. -/
structure Off (ds : List Tmp) (a0 a : Act) : Prop where
  size : a.tmps.size = a0.tmps.size
  defers : a.defers = a0.defers
  slot : ∀ t : Nat, t ∉ ds → a.tmps[t]? = a0.tmps[t]?
theorem Off.ev {ds : List Tmp} {a0 a : Act} (h : Off ds a0 a) (t : Nat) (ht : (ds.contains t) = false) : a.tmps[t]?.getD undef = a0.tmps[t]?.getD undef := by
  rw [h.slot t (fun hm => by simp [hm] at ht)]
theorem Off.put {ds : List Tmp} {a0 a : Act} (h : Off ds a0 a) {d : Tmp} (hd : d ∈ ds) (v : Value) : Off ds a0 (a.put (some d) v) :=
  ⟨put_size.trans h.size, h.defers, fun t ht => by
    have hne : d ≠ t := fun e => ht (e ▸ hd)
    have : (a.put (some d) v).tmps[t]? = a.tmps[t]? := by simp [Act.put, Array.getElem?_setIfInBounds_ne hne]
    rw [this]; exact h.slot t ht⟩
/-- The frame written out: the slots ds stored one by one. -/
theorem Off.puts {ds : List Tmp} {a0 a : Act} (h : Off ds a0 a) : a = ds.foldl (fun b d => b.put (some d) (a.tmps[d]?.getD undef)) a0 := by
  have key : ∀ (es : List Tmp) (b : Act), b.tmps.size = a.tmps.size → b.defers = a.defers → (∀ t : Nat, t ∉ es → b.tmps[t]? = a.tmps[t]?) → a = es.foldl (fun b d => b.put (some d) (a.tmps[d]?.getD undef)) b := by
    intro es
    induction es with
    | nil =>
      intro b h1 h2 h3
      have : b.tmps = a.tmps := Array.ext_getElem? (fun t => h3 t (by simp))
      obtain ⟨bt, bd⟩ := b
      obtain ⟨at', ad⟩ := a
      simp only at this h2
      subst this h2
      rfl
    | cons d r ih =>
      intro b h1 h2 h3
      rw [List.foldl_cons]
      refine ih _ (by simp [Act.put, h1]) h2 (fun t ht => ?_)
      by_cases htd : t = d
      · subst htd
        by_cases hlt : t < a.tmps.size
        · have : t < b.tmps.size := by omega
          simp [Act.put, this, hlt]
        · have : ¬ t < b.tmps.size := by omega
          simp [Act.put, this, hlt]
      · have hne : d ≠ t := fun e => htd e.symm
        have : (b.put (some d) (a.tmps[d]?.getD undef)).tmps[t]? = b.tmps[t]? := by simp [Act.put, Array.getElem?_setIfInBounds_ne hne]
        rw [this]
        exact h3 t (by simp [htd, ht])
  exact key ds a0 h.size.symm h.defers.symm (fun t ht => (h.slot t ht).symm)
section
variable {P : Program} {ops : Array Oper} {Q : Exit → Act → World → Prop}
/-- What one operation has to show, by what each slot holds once it is written: F; and what holds of the world meanwhile: G. -/
def SlotStep (P : Program) (ops : Array Oper) (Q : Exit → Act → World → Prop) (ds : List Tmp) (a0 : Act) (F : Nat → World → Value → Prop) (G : Array Bool → World → Prop) (i : Nat) (o : Oper) : Prop :=
  ∀ l a w, l.size = ops.size → Off ds a0 a → G l w → (∀ e ∈ o.after, Region.binds .any e = true → F e.on w (a.tmps[ds.getD e.on 0]?.getD undef)) → ¬ Dn l i →
    ∀ K : Act → World → Prop, (∀ v w', F i w' v → G (l.setIfInBounds i true) w' → (∀ j v', j ≠ i → F j w v' → F j w' v') → K (a.put (some (ds.getD i 0)) v) w') → if Region.wanted o (yielded ops a.tmps) = true then Oper.wp P o a w K Q else K (a.put o.dst undef) w
theorem slots_nil {ds : List Tmp} {a0 : Act} {F : Nat → World → Value → Prop} {G : Array Bool → World → Prop} : ∀ j ∈ ([] : List Nat), ∀ o, ops[j]? = some o → SlotStep P ops Q ds a0 F G j o := fun _ h => by cases h
theorem slots_cons {ds : List Tmp} {a0 : Act} {F : Nat → World → Value → Prop} {G : Array Bool → World → Prop} {i : Nat} {o : Oper} {rs : List Nat} (ho : ops[i]? = some o) (h : SlotStep P ops Q ds a0 F G i o) (hs : ∀ j ∈ rs, ∀ o, ops[j]? = some o → SlotStep P ops Q ds a0 F G j o) :
    ∀ j ∈ i :: rs, ∀ o, ops[j]? = some o → SlotStep P ops Q ds a0 F G j o := by
  intro j hj o' ho'
  rcases List.mem_cons.1 hj with rfl | hj
  · rw [ho] at ho'
    injection ho' with ho'
    subst ho'
    exact h
  · exact hs j hj o' ho'
/-- A region that draws its order, the last operation behind all others; by the slots that it writes. -/
theorem wp_region_slots {id : Nat} {a0 : Act} {w : World} (n : Nat) (rs : List Nat) (on : Oper) (ds : List Tmp) (F : Nat → World → Value → Prop) (G : Array Bool → World → Prop) (hm : P.follows .mixedOrders = true) (hn : ops.size = n + 1) (hb : backB .any ops = true) (hl : lastB ops n = true) (hon : ops[n]? = some on)
    (hrs : List.range n = rs) (hlen : ds.length = n) (hnd : ds.Nodup) (hsz : (ds.all fun d => decide (d < a0.tmps.size)) = true)
    (h0 : G (Array.replicate (n + 1) false) w.drew)
    (hstep : ∀ j ∈ rs, ∀ o, ops[j]? = some o → SlotStep P ops Q ds a0 F G j o)
    (hlast : ∀ l a w, Off ds a0 a → G l w → (∀ i, i < n → Dn l i) → (∀ i, i < n → F i w (a.tmps[ds.getD i 0]?.getD undef)) → ∀ K : Act → World → Prop, (∀ a' w', Q .normal a' w' → K a' w') → if Region.wanted on (yielded ops a.tmps) = true then Oper.wp P on a w K Q else K (a.put on.dst undef) w) : (Code.region id ops true).wp P Q a0 w := by
  subst hrs
  refine wp_region_last n on (fun l a w => Off ds a0 a ∧ G l w ∧ ∀ i, i < n → Dn l i → F i w (a.tmps[ds.getD i 0]?.getD undef)) hm hn hb hl hon ?_ ?_ ?_
  · refine ⟨⟨rfl, rfl, fun _ _ => rfl⟩, by rw [hn]; exact h0, fun i _ hd => ?_⟩
    exact absurd hd (dn_none _ _)
  · intro i hi o ho l a w hs ⟨hoff, hG, hF⟩ hne hdep K hK
    have hin := List.mem_range.1 hi
    refine hstep i hi o ho l a w hs hoff hG (fun e he hbd => hF e.on ?_ (hdep e he hbd)) (fun hd => ?_) K (fun v w' hv hG' hmono => hK _ _ ⟨?_, hG', fun j hj hd => ?_⟩)
    · have h1 := List.all_eq_true.1 hb i (List.mem_range.2 (by omega))
      rw [ho] at h1
      have h2 := Array.all_eq_true_iff_forall_mem.1 h1 e he
      simp only [hbd, Bool.not_true, Bool.false_or, decide_eq_true_eq] at h2
      omega
    · unfold Dn at hd
      have h2 : l.getD i false = false := by
        rcases Nat.lt_or_ge i l.size with h' | h'
        · simp [h'] at hne ⊢; exact hne
        · simp [Array.getElem?_eq_none h'] at hne
      rw [h2] at hd
      cases hd
    · have : ds.getD i 0 ∈ ds := by
        rw [List.getD_eq_getElem?_getD, List.getElem?_eq_getElem (by omega)]
        exact List.getElem_mem _
      exact hoff.put this v
    · have e1 : ds.getD i 0 = ds[i]'(by omega) := by rw [List.getD_eq_getElem?_getD, List.getElem?_eq_getElem (by omega)]; rfl
      have e2 : ds.getD j 0 = ds[j]'(by omega) := by rw [List.getD_eq_getElem?_getD, List.getElem?_eq_getElem (by omega)]; rfl
      by_cases hij : i = j
      · subst hij
        have hlt : ds.getD i 0 < a.tmps.size := by
          rw [hoff.size, e1]
          have := List.all_eq_true.1 hsz (ds[i]'(by omega)) (List.getElem_mem _)
          simpa using this
        have : ∀ d : Tmp, d < a.tmps.size → (a.put (some d) v).tmps[d]?.getD undef = v := fun d hd => by simp [Act.put, hd]
        rw [this _ hlt]
        exact hv
      · have hne2 : ds.getD i 0 ≠ ds.getD j 0 := by
          rw [e1, e2]
          intro e
          have h3 := List.pairwise_iff_getElem.1 hnd
          rcases Nat.lt_or_gt_of_ne hij with hlt | hlt
          · exact h3 i j (by omega) (by omega) hlt e
          · exact h3 j i (by omega) (by omega) hlt e.symm
        have : ∀ d d' : Tmp, d ≠ d' → (a.put (some d) v).tmps[d']?.getD undef = a.tmps[d']?.getD undef := fun d d' hne => by simp [Act.put, Array.getElem?_setIfInBounds_ne hne]
        rw [this _ _ hne2]
        exact hmono j _ (fun e => hij e.symm) (hF j hj (hd.set hij))
  · intro l a w ⟨hoff, hG, hF⟩ hall K hK
    exact hlast l a w hoff hG hall (fun i hi => hF i hi (hall i hi)) K hK
end

end Go.Proofs.Ytgjjngkmbplijaa
