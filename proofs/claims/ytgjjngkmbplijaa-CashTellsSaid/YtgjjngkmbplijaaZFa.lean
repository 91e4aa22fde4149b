/- Texts put together: CL1, CL2. -/
import Derived.Test.YtgjjngkmbplijaaZC2
import Derived.Test.YtgjjngkmbplijaaYVL1
/- What contracts pay: plain facts for the laws of chapter 10. No program in sight. -/
namespace Go.Proofs.Ytgjjngkmbplijaa
set_option linter.unusedSimpArgs false
set_option linter.unusedVariables false

section
variable {F : FixL} {C : ChL} {id : ByteArray}
/-- What is paid hangs on nothing that was paid before. -/
theorem Te.walk_app (t : Te) : ∀ (d k : Int) (st : CSt), (t.walk F C id d k st).1 = (t.walk F C id d k ([], [])).1 ∧ (t.walk F C id d k st).2.1 = st.1 ++ (t.walk F C id d k ([], [])).2.1 := by
  induction t with
  | zero => intro d k st; simp [Te.walk]
  | odd v => intro d k st; simp [Te.walk]
  | one s => intro d k st; simp [Te.walk]
  | give t ih => intro d k st; exact ih d (-k) st
  | whn e t ih => intro d k st; exact ih (Max.max d e) k st
  | and l r ihl ihr =>
    intro d k st
    obtain ⟨a1, a2⟩ := ihl d k st
    simp only [Te.walk]
    rw [a1]
    by_cases h : (l.walk F C id d k ([], [])).1 = 0
    · rw [if_pos h, if_pos h]
      obtain ⟨b1, b2⟩ := ihr d k (l.walk F C id d k st).2
      obtain ⟨c1, c2⟩ := ihr d k (l.walk F C id d k ([], [])).2
      exact ⟨b1.trans c1.symm, by rw [b2, c2, a2]; simp⟩
    · rw [if_neg h, if_neg h]
      exact ⟨a1, a2⟩
  | or s l r ihl ihr =>
    intro d k st
    simp only [Te.walk]
    cases C.lookup (id, s) with
    | none => simp
    | some x =>
      obtain ⟨p, e⟩ := x
      simp only
      by_cases h : p = 0
      · rw [if_pos h, if_pos h]; exact ihl _ _ _
      · rw [if_neg h, if_neg h]; exact ihr _ _ _
  | scale o t ih =>
    intro d k st
    simp only [Te.walk]
    repeat' split
    all_goals first | exact ih _ _ _ | simp
  | cond o l r ihl ihr =>
    intro d k st
    simp only [Te.walk]
    repeat' split
    all_goals first | exact ihl _ _ _ | exact ihr _ _ _ | simp
/-- Each payment is on the day or later, and of something. -/
theorem mulS_ne {a b : Int} (h : (mulS a b).1 ≠ 0) : (mulS a b).1 = a * b := by
  unfold mulS at *
  split
  · rfl
  · rename_i h2; rw [if_neg h2] at h; exact absurd rfl h
theorem Te.walk_days (t : Te) : ∀ (d k : Int) (st : CSt), k ≠ 0 → ∀ x ∈ (t.walk F C id d k st).2.1, x ∈ st.1 ∨ (d ≤ x.day ∧ x.amt ≠ 0) := by
  induction t with
  | zero => intro d k st hk x hx; exact .inl hx
  | odd v => intro d k st hk x hx; exact .inl hx
  | one s =>
    intro d k st hk x hx
    simp only [Te.walk, List.mem_append, List.mem_singleton] at hx
    rcases hx with hx | rfl
    · exact .inl hx
    · exact .inr ⟨Int.le_refl _, hk⟩
  | give t ih => intro d k st hk x hx; exact ih d (-k) st (by omega) x hx
  | whn e t ih =>
    intro d k st hk x hx
    rcases ih (Max.max d e) k st hk x hx with h | ⟨h1, h2⟩
    · exact .inl h
    · exact .inr ⟨by omega, h2⟩
  | and l r ihl ihr =>
    intro d k st hk x hx
    simp only [Te.walk] at hx
    split at hx
    · rcases ihr d k _ hk x hx with h | h
      · exact ihl d k st hk x h
      · exact .inr h
    · exact ihl d k st hk x hx
  | or s l r ihl ihr =>
    intro d k st hk x hx
    simp only [Te.walk] at hx
    cases hl : C.lookup (id, s) with
    | none => rw [hl] at hx; exact .inl hx
    | some y =>
      obtain ⟨p, e⟩ := y
      rw [hl] at hx
      simp only at hx
      split at hx
      · rcases ihl _ _ _ hk x hx with h | ⟨h1, h2⟩
        · exact .inl h
        · exact .inr ⟨by omega, h2⟩
      · rcases ihr _ _ _ hk x hx with h | ⟨h1, h2⟩
        · exact .inl h
        · exact .inr ⟨by omega, h2⟩
  | scale o t ih =>
    intro d k st hk x hx
    simp only [Te.walk] at hx
    split at hx
    · exact .inl hx
    split at hx
    · exact .inl hx
    split at hx
    · exact .inl hx
    split at hx
    · exact .inl hx
    · rename_i h; exact ih _ _ _ h x hx
  | cond o l r ihl ihr =>
    intro d k st hk x hx
    simp only [Te.walk] at hx
    split at hx
    · exact .inl hx
    split at hx
    · exact .inl hx
    split at hx
    · exact ihl _ _ _ hk x hx
    · exact ihr _ _ _ hk x hx

/-- So many times a payment; a wait of the other side, where the sign turns. -/
def Fl.times (n : Int) (x : Fl) : Fl := ⟨x.day, x.cur, n * x.amt⟩
def Wa.turn (n : Int) (x : Wa) : Wa := if x.ch = true ∧ n < 0 then ⟨x.ch, x.name, x.label, x.day, 1 - x.side⟩ else x
def timesS (n : Int) (st : CSt) : CSt := (st.1.map (Fl.times n), st.2.map (Wa.turn n))
theorem Wa.turn_fix (n d : Int) (s : ByteArray) : (waitFix d s).turn n = waitFix d s := by simp [Wa.turn, waitFix]
theorem same_turn (n d : Int) (s : ByteArray) (x : Wa) : (waitFix d s).same (x.turn n) = (waitFix d s).same x := by
  unfold Wa.turn
  split
  · rename_i h; simp [Wa.same, waitFix, h.1]
  · rfl
theorem addW_turn (L : List Wa) (n d : Int) (s : ByteArray) : addW (L.map (Wa.turn n)) (waitFix d s) = (addW L (waitFix d s)).map (Wa.turn n) := by
  unfold addW
  rw [List.any_map]
  have : ((fun x => (waitFix d s).same x) ∘ Wa.turn n) = fun x => (waitFix d s).same x := by
    funext x; exact same_turn n d s x
  rw [this]
  split
  · rfl
  · simp [Wa.turn_fix]
theorem waitsFor_turn (L : List Wa) (n d : Int) (l : List ByteArray) : waitsFor (L.map (Wa.turn n)) d l = (waitsFor L d l).map (Wa.turn n) := by
  induction l generalizing L with
  | nil => rfl
  | cons s r ih =>
    have e : ∀ M, waitsFor M d (s :: r) = waitsFor (addW M (waitFix d s)) d r := fun M => rfl
    rw [e, e, addW_turn, ih]
theorem Vd_down {n a : Int} (hn : n ≠ 0) (h : Vd (n * a) = true) : Vd a = true := by
  rw [Vd_iff] at *
  have h1 : a.natAbs ≤ (n * a).natAbs := by
    rw [Int.natAbs_mul]
    have : 1 ≤ n.natAbs := by omega
    calc a.natAbs = 1 * a.natAbs := by omega
      _ ≤ n.natAbs * a.natAbs := Nat.mul_le_mul_right _ this
  omega
theorem mulS_times {n k v : Int} (hn : n ≠ 0) (h : (mulS (n * k) v).2 = true) : (mulS k v).2 = true ∧ (mulS (n * k) v).1 = n * (mulS k v).1 := by
  unfold mulS at *
  split at h
  · rename_i hh
    obtain ⟨h1, h2, h3⟩ := hh
    have h3' := h3
    rw [Int.mul_assoc] at h3'
    have e1 := Vd_down hn h1
    have e2 := Vd_down hn h3'
    simp only [h1, h2, h3, e1, e2, and_self, if_true]
    exact ⟨trivial, Int.mul_assoc _ _ _⟩
  · cases h
/-- So many times a contract pays so many times what it pays. -/
theorem Te.walk_times (n : Int) (hn : n ≠ 0) (t : Te) : ∀ (d k : Int) (st : CSt), k ≠ 0 → (t.walk F C id d (n * k) (timesS n st)).1 = 0 → (t.walk F C id d k st).1 = 0 ∧ (t.walk F C id d (n * k) (timesS n st)).2 = timesS n (t.walk F C id d k st).2 := by
  induction t with
  | zero => intro d k st hk h; exact ⟨rfl, rfl⟩
  | odd v => intro d k st hk h; exact ⟨rfl, rfl⟩
  | one s => intro d k st hk h; exact ⟨rfl, by simp [Te.walk, timesS, Fl.times]⟩
  | give t ih =>
    intro d k st hk h
    simp only [Te.walk] at h ⊢
    rw [← Int.mul_neg] at h ⊢
    exact ih d (-k) st (by omega) h
  | whn e t ih => intro d k st hk h; exact ih _ k st hk h
  | and l r ihl ihr =>
    intro d k st hk h
    simp only [Te.walk] at h ⊢
    by_cases h0 : (l.walk F C id d (n * k) (timesS n st)).1 = 0
    · obtain ⟨a1, a2⟩ := ihl d k st hk h0
      rw [if_pos h0] at h ⊢
      rw [if_pos a1]
      rw [a2] at h ⊢
      exact ihr d k _ hk h
    · rw [if_neg h0] at h
      exact absurd h h0
  | or s l r ihl ihr =>
    intro d k st hk h
    simp only [Te.walk] at h ⊢
    cases hl : C.lookup (id, s) with
    | none =>
      refine ⟨rfl, ?_⟩
      have hs : (if 0 < n * k then (0 : Int) else 1) = if n < 0 then 1 - (if 0 < k then 0 else 1) else (if 0 < k then 0 else 1) := by
        rcases Int.lt_or_gt_of_ne hn with h1 | h1 <;> rcases Int.lt_or_gt_of_ne hk with h2 | h2
        · rw [if_pos (Int.mul_pos_of_neg_of_neg h1 h2), if_pos h1, if_neg (by omega)]; rfl
        · rw [if_neg (by have := Int.mul_neg_of_neg_of_pos h1 h2; omega), if_pos h1, if_pos h2]; rfl
        · rw [if_neg (by have := Int.mul_neg_of_pos_of_neg h1 h2; omega), if_neg (by omega), if_neg (by omega)]
        · rw [if_pos (Int.mul_pos h1 h2), if_neg (by omega), if_pos h2]
      simp only [timesS, List.map_append, List.map_cons, List.map_nil, Wa.turn, hs]
      by_cases h1 : n < 0 <;> simp [h1]
    | some x =>
      obtain ⟨p, e⟩ := x
      rw [hl] at h
      simp only at h ⊢
      by_cases hp : p = 0
      · rw [if_pos hp] at h ⊢; rw [if_pos hp]; exact ihl _ k st hk h
      · rw [if_neg hp] at h ⊢; rw [if_neg hp]; exact ihr _ k st hk h
  | scale o t ih =>
    intro d k st hk h
    simp only [Te.walk] at h ⊢
    by_cases h1 : (o.ofV F d).e ≠ 0
    · rw [if_pos h1] at h; exact absurd h h1
    rw [if_neg h1] at h ⊢
    rw [if_neg h1]
    by_cases h2 : (o.ofV F d).is = false
    · rw [if_pos h2, if_pos h2]
      exact ⟨rfl, by simp [timesS, waitsFor_turn]⟩
    rw [if_neg h2] at h ⊢
    rw [if_neg h2]
    by_cases h3 : (mulS (n * k) (o.ofV F d).n).2 = false
    · rw [if_pos h3] at h; cases h
    rw [if_neg h3] at h ⊢
    obtain ⟨m1, m2⟩ := mulS_times hn (by simpa using h3)
    rw [if_neg (by rw [m1]; decide)]
    rw [m2] at h ⊢
    by_cases h4 : (mulS k (o.ofV F d).n).1 = 0
    · have h5 : n * (mulS k (o.ofV F d).n).1 = 0 := by rw [h4]; simp
      rw [if_pos h4, if_pos h5]
      exact ⟨rfl, rfl⟩
    · have h5 : n * (mulS k (o.ofV F d).n).1 ≠ 0 := Int.mul_ne_zero hn h4
      rw [if_neg h5] at h ⊢
      rw [if_neg h4]
      exact ih d _ st h4 h
  | cond o l r ihl ihr =>
    intro d k st hk h
    simp only [Te.walk] at h ⊢
    by_cases h1 : (o.ofV F d).e ≠ 0
    · rw [if_pos h1] at h; exact absurd h h1
    rw [if_neg h1] at h ⊢
    rw [if_neg h1]
    by_cases h2 : (o.ofV F d).is = false
    · rw [if_pos h2, if_pos h2]
      exact ⟨rfl, by simp [timesS, waitsFor_turn]⟩
    rw [if_neg h2] at h ⊢
    rw [if_neg h2]
    by_cases h3 : 0 < (o.ofV F d).n
    · rw [if_pos h3] at h ⊢; rw [if_pos h3]; exact ihl d k st hk h
    · rw [if_neg h3] at h ⊢; rw [if_neg h3]; exact ihr d k st hk h
end

/-- All numbers in a contract may be. -/
def Te.numsOk : Te → Prop
  | .give t => t.numsOk
  | .and l r => l.numsOk ∧ r.numsOk
  | .or _ l r => l.numsOk ∧ r.numsOk
  | .scale o t => o.checked = 0 ∧ t.numsOk
  | .whn _ t => t.numsOk
  | .cond o l r => o.checked = 0 ∧ l.numsOk ∧ r.numsOk
  | _ => True
theorem ob_ok {o : Ob} (h : o.formed = true) (h1 : o.nodes ≤ 60) (h2 : o.depth ≤ 12) : o.checked = 0 := by
  unfold Ob.checked
  rw [if_pos h, if_neg (by omega)]
theorem Te.nums_ok (t : Te) : t.formed = true → t.nodes ≤ 60 → t.depth ≤ 12 → t.numsOk := by
  induction t with
  | give t ih => intro hf hn hd; simp only [Te.formed, Te.nodes, Te.depth] at hf hn hd; exact ih hf (by omega) (by omega)
  | whn e t ih => intro hf hn hd; simp only [Te.formed, Te.nodes, Te.depth, Bool.and_eq_true] at hf hn hd; exact ih hf.2 (by omega) (by omega)
  | and l r ihl ihr => intro hf hn hd; simp only [Te.formed, Te.nodes, Te.depth, Bool.and_eq_true] at hf hn hd; exact ⟨ihl hf.1 (by omega) (by omega), ihr hf.2 (by omega) (by omega)⟩
  | or s l r ihl ihr => intro hf hn hd; simp only [Te.formed, Te.nodes, Te.depth, Bool.and_eq_true] at hf hn hd; exact ⟨ihl hf.2.1 (by omega) (by omega), ihr hf.2.2 (by omega) (by omega)⟩
  | scale o t ih => intro hf hn hd; simp only [Te.formed, Te.nodes, Te.depth, Bool.and_eq_true] at hf hn hd; exact ⟨ob_ok hf.1 (by omega) (by omega), ih hf.2 (by omega) (by omega)⟩
  | cond o l r ihl ihr => intro hf hn hd; simp only [Te.formed, Te.nodes, Te.depth, Bool.and_eq_true] at hf hn hd; exact ⟨ob_ok hf.1 (by omega) (by omega), ihl hf.2.1 (by omega) (by omega), ihr hf.2.2 (by omega) (by omega)⟩
  | zero => intros; trivial
  | one s => intros; trivial
  | odd v => intros; trivial
theorem Kn.tri_e {k : Kn} (h : k.tri) : k.e = 0 ∨ k.e = 6 := by
  rcases h with ⟨n, rfl⟩ | rfl | rfl
  · exact .inl rfl
  · exact .inl rfl
  · exact .inr rfl
theorem ofV_e {o : Ob} (h : o.checked = 0) (F : FixL) (d : Int) : (o.ofV F d).e = 0 ∨ (o.ofV F d).e = 6 := by
  rw [Ob.ofV_yes h]; exact Kn.tri_e o.value_tri
section
variable {F : FixL} {C : ChL} {id : ByteArray}
/-- It pays, or runs over. -/
theorem Te.walk_err (t : Te) : t.numsOk → ∀ (d k : Int) (st : CSt), (t.walk F C id d k st).1 = 0 ∨ (t.walk F C id d k st).1 = 6 := by
  induction t with
  | zero => intros; exact .inl rfl
  | odd v => intros; exact .inl rfl
  | one s => intros; exact .inl rfl
  | give t ih => intro h d k st; exact ih h _ _ _
  | whn e t ih => intro h d k st; exact ih h _ _ _
  | and l r ihl ihr =>
    intro h d k st
    simp only [Te.walk]
    split
    · exact ihr h.2 _ _ _
    · exact ihl h.1 _ _ _
  | or s l r ihl ihr =>
    intro h d k st
    simp only [Te.walk]
    cases C.lookup (id, s) with
    | none => exact .inl rfl
    | some x =>
      simp only
      split
      · exact ihl h.1 _ _ _
      · exact ihr h.2 _ _ _
  | scale o t ih =>
    intro h d k st
    have he := ofV_e h.1 F d
    simp only [Te.walk]
    repeat' split
    · exact he
    · exact .inl rfl
    · exact .inr rfl
    · exact .inl rfl
    · exact ih h.2 _ _ _
  | cond o l r ihl ihr =>
    intro h d k st
    have he := ofV_e h.1 F d
    simp only [Te.walk]
    repeat' split
    · exact he
    · exact .inl rfl
    · exact ihl h.2.1 _ _ _
    · exact ihr h.2.2 _ _ _
/-- What comes to be known leaves what is paid already, in its order. -/
theorem Te.walk_grows {G : FixL} {D : ChL} (t : Te) : t.numsOk → ∀ (d k : Int), (t.walk F C id d k ([], [])).1 = 0 → (t.walk (F ++ G) (C ++ D) id d k ([], [])).1 = 0 → List.Sublist (t.walk F C id d k ([], [])).2.1 (t.walk (F ++ G) (C ++ D) id d k ([], [])).2.1 := by
  induction t with
  | zero => intros; exact List.Sublist.refl _
  | odd v => intros; exact List.Sublist.refl _
  | one s => intros; exact List.Sublist.refl _
  | give t ih => intro h d k h1 h2; exact ih h _ _ h1 h2
  | whn e t ih => intro h d k h1 h2; exact ih h _ _ h1 h2
  | and l r ihl ihr =>
    intro h d k h1 h2
    simp only [Te.walk] at h1 h2 ⊢
    by_cases a : (l.walk F C id d k ([], [])).1 = 0
    · by_cases b : (l.walk (F ++ G) (C ++ D) id d k ([], [])).1 = 0
      · rw [if_pos a] at h1 ⊢
        rw [if_pos b] at h2 ⊢
        have e1 := r.walk_app (F := F) (C := C) (id := id) d k (l.walk F C id d k ([], [])).2
        have e2 := r.walk_app (F := F ++ G) (C := C ++ D) (id := id) d k (l.walk (F ++ G) (C ++ D) id d k ([], [])).2
        rw [e1.1] at h1
        rw [e2.1] at h2
        rw [e1.2, e2.2]
        exact (ihl h.1 d k a b).append (ihr h.2 d k h1 h2)
      · rw [if_neg b] at h2; exact absurd h2 b
    · rw [if_neg a] at h1; exact absurd h1 a
  | or s l r ihl ihr =>
    intro h d k h1 h2
    simp only [Te.walk] at h1 h2 ⊢
    cases hl : C.lookup (id, s) with
    | none => simp
    | some x =>
      have hl2 : (C ++ D).lookup (id, s) = some x := by rw [List.lookup_append, hl]; rfl
      rw [hl] at h1
      rw [hl2] at h2 ⊢
      simp only at h1 h2 ⊢
      by_cases hp : x.1 = 0
      · rw [if_pos hp] at h1 h2 ⊢; rw [if_pos hp]; exact ihl h.1 _ _ h1 h2
      · rw [if_neg hp] at h1 h2 ⊢; rw [if_neg hp]; exact ihr h.2 _ _ h1 h2
  | scale o t ih =>
    intro h d k h1 h2
    simp only [Te.walk] at h1 h2 ⊢
    rw [Ob.ofV_yes h.1] at h1 h2 ⊢
    rw [Ob.ofV_yes h.1]
    rcases o.value_tri (F := F) (d := d) with ⟨n, hv⟩ | hv | hv
    · rw [o.value_more hv] at h2 ⊢
      rw [hv] at h1 ⊢
      simp only [ne_eq, not_true_eq_false, if_false, Bool.true_eq_false] at h1 h2 ⊢
      by_cases m1 : (mulS k n).2 = false
      · rw [if_pos m1] at h1; cases h1
      · rw [if_neg m1] at h1 h2 ⊢
        rw [if_neg m1]
        by_cases m2 : (mulS k n).1 = 0
        · rw [if_pos m2, if_pos m2]; exact List.Sublist.refl _
        · rw [if_neg m2] at h1 h2 ⊢
          rw [if_neg m2]
          exact ih h.2 _ _ h1 h2
    · rw [hv]; simp
    · rw [hv] at h1; simp at h1
  | cond o l r ihl ihr =>
    intro h d k h1 h2
    simp only [Te.walk] at h1 h2 ⊢
    rw [Ob.ofV_yes h.1] at h1 h2 ⊢
    rw [Ob.ofV_yes h.1]
    rcases o.value_tri (F := F) (d := d) with ⟨n, hv⟩ | hv | hv
    · rw [o.value_more hv] at h2 ⊢
      rw [hv] at h1 ⊢
      simp only [ne_eq, not_true_eq_false, if_false, Bool.true_eq_false] at h1 h2 ⊢
      by_cases m1 : 0 < n
      · rw [if_pos m1] at h1 h2 ⊢; rw [if_pos m1]; exact ihl h.2.1 _ _ h1 h2
      · rw [if_neg m1] at h1 h2 ⊢; rw [if_neg m1]; exact ihr h.2.2 _ _ h1 h2
    · rw [hv]; simp
    · rw [hv] at h1; simp at h1
/-- What is waited for is not known, and may be. -/
def Wa.open (F : FixL) (C : ChL) (id : ByteArray) (x : Wa) : Prop :=
  dayB x.day = true ∧ ((x.ch = true ∧ isName x.label = true ∧ C.lookup (id, x.label) = none) ∨ (x.ch = false ∧ isName x.name = true ∧ F.lookup (x.name, x.day) = none))
def daysOk (C : ChL) : Prop := ∀ x ∈ C, dayB x.2.2 = true
theorem lookup_mem {α β : Type} [BEq α] [LawfulBEq α] {l : List (α × β)} {a : α} {b : β} (h : l.lookup a = some b) : (a, b) ∈ l := by
  induction l with
  | nil => cases h
  | cons x r ih =>
    simp only [List.lookup] at h
    cases hb : a == x.1 with
    | true =>
      rw [hb] at h
      injection h with h
      have := eq_of_beq hb
      subst this h
      exact List.mem_cons_self ..
    | false => rw [hb] at h; exact List.mem_cons_of_mem _ (ih h)
theorem addW_mem {L : List Wa} {y x : Wa} (h : x ∈ addW L y) : x ∈ L ∨ x = y := by
  unfold addW at h
  split at h
  · exact .inl h
  · simpa using h
theorem waitsFor_mem {L : List Wa} {d : Int} {l : List ByteArray} {x : Wa} (h : x ∈ waitsFor L d l) : x ∈ L ∨ ∃ s ∈ l, x = waitFix d s := by
  induction l generalizing L with
  | nil => exact .inl h
  | cons s r ih =>
    have e : waitsFor L d (s :: r) = waitsFor (addW L (waitFix d s)) d r := rfl
    rw [e] at h
    rcases ih h with h | ⟨t, ht, rfl⟩
    · rcases addW_mem h with h | rfl
      · exact .inl h
      · exact .inr ⟨s, List.mem_cons_self .., rfl⟩
    · exact .inr ⟨t, List.mem_cons_of_mem _ ht, rfl⟩
theorem needs_open {o : Ob} {d : Int} {L : List Wa} (ho : o.formed = true) (hd : dayB d = true) (hL : ∀ x ∈ L, x.open F C id) : ∀ x ∈ waitsFor L d (o.needs F d), x.open F C id := by
  intro x hx
  rcases waitsFor_mem hx with h | ⟨s, hs, rfl⟩
  · exact hL x h
  · unfold Ob.needs at hs
    split at hs
    · obtain ⟨h1, h2⟩ := notFixed_mem hs
      refine ⟨hd, .inr ⟨rfl, Ob.names_formed ho s h1, ?_⟩⟩
      show F.lookup (s, d) = none
      cases hl : F.lookup (s, d) with
      | none => rfl
      | some y => rw [hl] at h2; cases h2
    · cases hs
theorem dayB_max {a b : Int} (ha : dayB a = true) (hb : dayB b = true) : dayB (Max.max a b) = true := by
  rw [dayB_iff] at *; omega
theorem Te.walk_open (hC : daysOk C) (t : Te) : t.formed = true → ∀ (d k : Int) (st : CSt), dayB d = true → (∀ x ∈ st.2, x.open F C id) → ∀ x ∈ (t.walk F C id d k st).2.2, x.open F C id := by
  induction t with
  | zero => intro _ d k st hd h; exact h
  | odd v => intro _ d k st hd h; exact h
  | one s => intro _ d k st hd h; exact h
  | give t ih => intro hf d k st hd h; exact ih hf d _ st hd h
  | whn e t ih =>
    intro hf d k st hd h
    simp only [Te.formed, Bool.and_eq_true] at hf
    exact ih hf.2 _ k st (dayB_max hd hf.1) h
  | and l r ihl ihr =>
    intro hf d k st hd h
    simp only [Te.formed, Bool.and_eq_true] at hf
    simp only [Te.walk]
    split
    · exact ihr hf.2 d k _ hd (ihl hf.1 d k st hd h)
    · exact ihl hf.1 d k st hd h
  | or s l r ihl ihr =>
    intro hf d k st hd h
    simp only [Te.formed, Bool.and_eq_true] at hf
    simp only [Te.walk]
    cases hl : C.lookup (id, s) with
    | none =>
      intro x hx
      simp only [List.mem_append, List.mem_singleton] at hx
      rcases hx with hx | rfl
      · exact h x hx
      · exact ⟨hd, .inl ⟨rfl, hf.1, hl⟩⟩
    | some y =>
      have hy := hC _ (lookup_mem hl)
      simp only
      split
      · exact ihl hf.2.1 _ k st (dayB_max hd hy) h
      · exact ihr hf.2.2 _ k st (dayB_max hd hy) h
  | scale o t ih =>
    intro hf d k st hd h
    simp only [Te.formed, Bool.and_eq_true] at hf
    simp only [Te.walk]
    repeat' split
    · exact h
    · exact needs_open hf.1 hd h
    · exact h
    · exact h
    · exact ih hf.2 d _ st hd h
  | cond o l r ihl ihr =>
    intro hf d k st hd h
    simp only [Te.formed, Bool.and_eq_true] at hf
    simp only [Te.walk]
    repeat' split
    · exact h
    · exact needs_open hf.1 hd h
    · exact ihl hf.2.1 d k st hd h
    · exact ihr hf.2.2 d k st hd h
end

end Go.Proofs.Ytgjjngkmbplijaa

/- What contracts pay: more plain facts for the laws of chapter 10. No program in sight. -/
namespace Go.Proofs.Ytgjjngkmbplijaa
set_option linter.unusedSimpArgs false
set_option linter.unusedVariables false

section
variable {F : FixL} {C : ChL} {id : ByteArray}
theorem Vd_neg2 {k : Int} (h : Vd k = true) : Vd (-k) = true := by rw [Vd_iff] at *; omega
theorem mulS_Vd (a b : Int) : Vd (mulS a b).1 = true := by
  unfold mulS
  split
  · rename_i h; exact h.2.2
  · decide

/-- Amounts that may be; sides. -/
theorem Te.walk_amts (t : Te) : ∀ (d k : Int) (st : CSt), Vd k = true → (∀ x ∈ st.1, Vd x.amt = true) → ∀ x ∈ (t.walk F C id d k st).2.1, Vd x.amt = true := by
  induction t with
  | zero => intro d k st hk h; exact h
  | odd v => intro d k st hk h; exact h
  | one s =>
    intro d k st hk h x hx
    simp only [Te.walk, List.mem_append, List.mem_singleton] at hx
    rcases hx with hx | rfl
    · exact h x hx
    · exact hk
  | give t ih => intro d k st hk h; exact ih d (-k) st (Vd_neg2 hk) h
  | whn e t ih => intro d k st hk h; exact ih _ k st hk h
  | and l r ihl ihr =>
    intro d k st hk h
    simp only [Te.walk]
    split
    · exact ihr d k _ hk (ihl d k st hk h)
    · exact ihl d k st hk h
  | or s l r ihl ihr =>
    intro d k st hk h
    simp only [Te.walk]
    cases C.lookup (id, s) with
    | none => exact h
    | some y =>
      simp only
      split
      · exact ihl _ k st hk h
      · exact ihr _ k st hk h
  | scale o t ih =>
    intro d k st hk h
    simp only [Te.walk]
    repeat' split
    · exact h
    · exact h
    · exact h
    · exact h
    · exact ih d _ st (mulS_Vd _ _) h
  | cond o l r ihl ihr =>
    intro d k st hk h
    simp only [Te.walk]
    repeat' split
    · exact h
    · exact h
    · exact ihl d k st hk h
    · exact ihr d k st hk h
def Wa.sideOk (x : Wa) : Prop := x.side = 0 ∨ x.side = 1
theorem Te.walk_sides (t : Te) : ∀ (d k : Int) (st : CSt), (∀ x ∈ st.2, x.sideOk) → ∀ x ∈ (t.walk F C id d k st).2.2, x.sideOk := by
  have hw : ∀ (L : List Wa) (d : Int) (l : List ByteArray), (∀ x ∈ L, x.sideOk) → ∀ x ∈ waitsFor L d l, x.sideOk := by
    intro L d l h x hx
    rcases waitsFor_mem hx with hx | ⟨s, _, rfl⟩
    · exact h x hx
    · exact .inl rfl
  induction t with
  | zero => intro d k st h; exact h
  | odd v => intro d k st h; exact h
  | one s => intro d k st h; exact h
  | give t ih => intro d k st h; exact ih d (-k) st h
  | whn e t ih => intro d k st h; exact ih _ k st h
  | and l r ihl ihr =>
    intro d k st h
    simp only [Te.walk]
    split
    · exact ihr d k _ (ihl d k st h)
    · exact ihl d k st h
  | or s l r ihl ihr =>
    intro d k st h
    simp only [Te.walk]
    cases C.lookup (id, s) with
    | none =>
      intro x hx
      simp only [List.mem_append, List.mem_singleton] at hx
      rcases hx with hx | rfl
      · exact h x hx
      · unfold Wa.sideOk
        simp only
        split
        · exact .inl rfl
        · exact .inr rfl
    | some y =>
      simp only
      split
      · exact ihl _ k st h
      · exact ihr _ k st h
  | scale o t ih =>
    intro d k st h
    simp only [Te.walk]
    repeat' split
    · exact h
    · exact hw _ _ _ h
    · exact h
    · exact h
    · exact ih d _ st h
  | cond o l r ihl ihr =>
    intro d k st h
    simp only [Te.walk]
    repeat' split
    · exact h
    · exact hw _ _ _ h
    · exact ihl d k st h
    · exact ihr d k st h
/-- How many payments and waits at most. -/
theorem Te.walk_len (t : Te) : ∀ (d k : Int) (st : CSt), (t.walk F C id d k st).2.1.length ≤ st.1.length + t.nodes ∧ (t.walk F C id d k st).2.2.length ≤ st.2.length + t.nodes := by
  induction t with
  | zero => intro d k st; simp [Te.walk]
  | odd v => intro d k st; simp [Te.walk]
  | one s => intro d k st; simp [Te.walk, Te.nodes]
  | give t ih => intro d k st; have := ih d (-k) st; simp only [Te.walk, Te.nodes]; omega
  | whn e t ih => intro d k st; have := ih (Max.max d e) k st; simp only [Te.walk, Te.nodes]; omega
  | and l r ihl ihr =>
    intro d k st
    have h1 := ihl d k st
    have h2 := ihr d k (l.walk F C id d k st).2
    simp only [Te.walk, Te.nodes]
    split <;> omega
  | or s l r ihl ihr =>
    intro d k st
    simp only [Te.walk, Te.nodes]
    cases C.lookup (id, s) with
    | none => simp only [List.length_append, List.length_cons, List.length_nil]; omega
    | some y =>
      obtain ⟨p, e⟩ := y
      have h1 := ihl (Max.max d e) k st
      have h2 := ihr (Max.max d e) k st
      simp only
      split <;> omega
  | scale o t ih =>
    intro d k st
    have h1 := ih d (mulS k (o.ofV F d).n).1 st
    have h2 := waitsFor_len st.2 d (o.needs F d)
    have h3 := o.needs_len F d
    simp only [Te.walk, Te.nodes]
    repeat' split
    all_goals first | omega | (simp only; omega)
  | cond o l r ihl ihr =>
    intro d k st
    have h1 := ihl d k st
    have h4 := ihr d k st
    have h2 := waitsFor_len st.2 d (o.needs F d)
    have h3 := o.needs_len F d
    simp only [Te.walk, Te.nodes]
    repeat' split
    all_goals first | omega | (simp only; omega)
theorem Te.walk_lens (t : Te) (d k : Int) : (t.walk F C id d k ([], [])).2.1.length ≤ t.nodes ∧ (t.walk F C id d k ([], [])).2.2.length ≤ t.nodes := by
  have := t.walk_len (F := F) (C := C) (id := id) d k ([], [])
  simpa using this
/-- What cash.Of tells of a contract that may be. -/
theorem cashOf_ways {o : Te} {d : Int} (hc : o.checked = 0) (hd : dayB d = true) :
    ((cashOf F C id o d) = (6, ([], [])) ∧ (o.walk F C id d 1 ([], [])).1 = 6) ∨ (cashOf F C id o d = o.walk F C id d 1 ([], []) ∧ (o.walk F C id d 1 ([], [])).1 = 0) := by
  obtain ⟨f1, f2, f3, f4⟩ := Te.checked_form hc
  rcases o.walk_err (F := F) (C := C) (id := id) (o.nums_ok f1 f2 f3) d 1 ([], []) with h | h
  · exact .inr ⟨cashOf_ok hc hd h, h⟩
  · exact .inl ⟨by rw [cashOf_err hc hd (by rw [h]; decide), h], h⟩
theorem const_checked {n : Int} {o : Te} (h : (Te.scale (.const n) o).checked = 0) : Vd n = true ∧ o.checked = 0 := by
  obtain ⟨f1, f2, f3, f4⟩ := Te.checked_form h
  simp only [Te.formed, Ob.formed, Bool.and_eq_true] at f1
  simp only [Te.nodes] at f2
  simp only [Te.depth] at f3
  exact ⟨f1.1, Te.checked_ok f1.2 (by omega) (by omega) f4⟩
theorem mulS_one {n : Int} (h : Vd n = true) : mulS 1 n = (n, true) := by
  rw [mulS_yes (by decide) h (by rw [Int.one_mul]; exact h), Int.one_mul]
/-- So many times a contract. -/
theorem scale_ways {o : Te} {n d : Int} (ht : (Te.scale (.const n) o).checked = 0) (hd : dayB d = true) :
    (n = 0 ∧ cashOf F C id (.scale (.const n) o) d = (0, ([], []))) ∨ (n ≠ 0 ∧ cashOf F C id (.scale (.const n) o) d = (6, ([], []))) ∨
    (n ≠ 0 ∧ ∃ st : CSt, cashOf F C id o d = (0, st) ∧ cashOf F C id (.scale (.const n) o) d = (0, timesS n st) ∧ (∀ x ∈ st.1, Vd x.amt = true) ∧ ∀ x ∈ st.2, x.sideOk) := by
  obtain ⟨hv, hc⟩ := const_checked ht
  have hm := mulS_one hv
  by_cases h0 : n = 0
  · refine .inl ⟨h0, ?_⟩
    have e : (Te.scale (.const n) o).walk F C id d 1 ([], []) = (0, ([], [])) := sk_zero hv (by rw [hm]) (by rw [hm]; exact h0)
    rw [cashOf_ok ht hd (by rw [e]), e]
  · have e : (Te.scale (.const n) o).walk F C id d 1 ([], []) = o.walk F C id d n ([], []) := by rw [sk_go hv (by rw [hm]) (by rw [hm]; exact h0), hm]
    rcases cashOf_ways (F := F) (C := C) (id := id) ht hd with ⟨h1, h2⟩ | ⟨h1, h2⟩
    · exact .inr (.inl ⟨h0, h1⟩)
    · rw [e] at h1 h2
      have hw := o.walk_times (F := F) (C := C) (id := id) n h0 d 1 ([], []) (by decide)
      rw [Int.mul_one] at hw
      have hw := hw h2
      have hA := cashOf_ok hc hd hw.1
      refine .inr (.inr ⟨h0, (o.walk F C id d 1 ([], [])).2, ?_, ?_, ?_, ?_⟩)
      · rw [hA, ← hw.1]
      · rw [h1, ← hw.2]
        have e2 : timesS n ([], []) = ([], []) := rfl
        rw [e2, ← h2]
      · exact o.walk_amts d 1 ([], []) (by decide) (by simp)
      · exact o.walk_sides d 1 ([], []) (by simp)
end

end Go.Proofs.Ytgjjngkmbplijaa
