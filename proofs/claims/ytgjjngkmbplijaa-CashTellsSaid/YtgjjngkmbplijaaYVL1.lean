/- What numbers are: plain facts for the law ValueLaws. No program in sight. -/
import Derived.Test.YtgjjngkmbplijaaYNeeds

namespace Go.Proofs.Ytgjjngkmbplijaa
set_option linter.unusedSimpArgs false
set_option linter.unusedVariables false

/-- Known, not known, or it runs over. -/
def Kn.tri (k : Kn) : Prop := (∃ n, k = ⟨n, true, 0⟩) ∨ k = ⟨0, false, 0⟩ ∨ k = ⟨0, false, 6⟩
theorem toldK_tri (p : Int × Bool) : (toldK p).tri := by
  obtain ⟨n, b⟩ := p
  cases b
  · exact .inr (.inr rfl)
  · exact .inl ⟨n, rfl⟩
theorem pairK_tri {put : Int → Int → Int × Bool} {a b : Kn} (ha : a.tri) (hb : b.tri) : (pairK put a b).tri := by
  rcases ha with ⟨x, rfl⟩ | rfl | rfl
  · rcases hb with ⟨y, rfl⟩ | rfl | rfl
    · rw [pairK_ok rfl rfl rfl rfl]; exact toldK_tri _
    · exact .inr (.inl rfl)
    · exact .inr (.inr rfl)
  · rcases hb with ⟨y, rfl⟩ | rfl | rfl
    · exact .inr (.inl rfl)
    · exact .inr (.inl rfl)
    · exact .inr (.inr rfl)
  · exact .inr (.inr rfl)
theorem negK_tri {a : Kn} (ha : a.tri) : (negK a).tri := by
  rcases ha with ⟨x, rfl⟩ | rfl | rfl
  · rw [negK_ok rfl rfl]; exact toldK_tri _
  · exact .inr (.inl rfl)
  · exact .inr (.inr rfl)
theorem Ob.value_tri {F : FixL} {d : Int} : (o : Ob) → (o.value F d).tri
  | .const n => .inl ⟨n, rfl⟩
  | .fix s => by
    simp only [Ob.value]
    cases F.lookup (s, d) with
    | none => exact .inr (.inl rfl)
    | some x => exact .inl ⟨x, rfl⟩
  | .odd v => .inr (.inl rfl)
  | .neg o => negK_tri o.value_tri
  | .add l r => pairK_tri l.value_tri r.value_tri
  | .mul l r => pairK_tri l.value_tri r.value_tri
  | .max l r => pairK_tri l.value_tri r.value_tri
theorem pairK_known {put : Int → Int → Int × Bool} {a b : Kn} {n : Int} (ha : a.tri) (hb : b.tri) (h : pairK put a b = ⟨n, true, 0⟩) : ∃ x y, a = ⟨x, true, 0⟩ ∧ b = ⟨y, true, 0⟩ := by
  rcases ha with ⟨x, rfl⟩ | rfl | rfl
  · rcases hb with ⟨y, rfl⟩ | rfl | rfl
    · exact ⟨x, y, rfl, rfl⟩
    · cases h
    · cases h
  · rcases hb with ⟨y, rfl⟩ | rfl | rfl <;> cases h
  · cases h
theorem negK_known {a : Kn} {n : Int} (ha : a.tri) (h : negK a = ⟨n, true, 0⟩) : ∃ x, a = ⟨x, true, 0⟩ := by
  rcases ha with ⟨x, rfl⟩ | rfl | rfl
  · exact ⟨x, rfl⟩
  · cases h
  · cases h
theorem lookup_more {F G : FixL} {k : ByteArray × Int} {x : Int} (h : F.lookup k = some x) : (F ++ G).lookup k = some x := by
  rw [List.lookup_append, h]; rfl
/-- What is known does not hang on what else comes to be known. -/
theorem Ob.value_more {F G : FixL} {d : Int} (o : Ob) : ∀ {n : Int}, o.value F d = ⟨n, true, 0⟩ → o.value (F ++ G) d = ⟨n, true, 0⟩ := by
  induction o with
  | const n => intro m h; exact h
  | odd v => intro m h; cases h
  | fix s =>
    intro m h
    simp only [Ob.value] at h ⊢
    cases hl : F.lookup (s, d) with
    | none => rw [hl] at h; cases h
    | some x => rw [hl] at h; rw [lookup_more hl]; exact h
  | neg o ih =>
    intro m h
    obtain ⟨x, hx⟩ := negK_known o.value_tri h
    simp only [Ob.value] at h ⊢
    rw [ih hx, ← hx]; exact h
  | add l r ihl ihr =>
    intro m h
    obtain ⟨x, y, hx, hy⟩ := pairK_known l.value_tri r.value_tri h
    simp only [Ob.value] at h ⊢
    rw [ihl hx, ihr hy, ← hx, ← hy]; exact h
  | mul l r ihl ihr =>
    intro m h
    obtain ⟨x, y, hx, hy⟩ := pairK_known l.value_tri r.value_tri h
    simp only [Ob.value] at h ⊢
    rw [ihl hx, ihr hy, ← hx, ← hy]; exact h
  | max l r ihl ihr =>
    intro m h
    obtain ⟨x, y, hx, hy⟩ := pairK_known l.value_tri r.value_tri h
    simp only [Ob.value] at h ⊢
    rw [ihl hx, ihr hy, ← hx, ← hy]; exact h
/-- Known: then all its names are fixed; not known: then one of them is not. -/
theorem pairK_is {put : Int → Int → Int × Bool} {a b : Kn} (ha : a.tri) (hb : b.tri) (h : (pairK put a b).e = 0) : a.e = 0 ∧ b.e = 0 ∧ (pairK put a b).is = (a.is && b.is) := by
  rcases ha with ⟨x, rfl⟩ | rfl | rfl
  · rcases hb with ⟨y, rfl⟩ | rfl | rfl
    · refine ⟨rfl, rfl, ?_⟩
      rw [pairK_ok rfl rfl rfl rfl] at h ⊢
      rcases hp : put x y with ⟨n, b⟩
      cases b
      · simp only [hp] at h; cases h
      · rfl
    · exact ⟨rfl, rfl, rfl⟩
    · cases h
  · rcases hb with ⟨y, rfl⟩ | rfl | rfl
    · exact ⟨rfl, rfl, rfl⟩
    · exact ⟨rfl, rfl, rfl⟩
    · cases h
  · cases h
theorem all_addAll (L N : List ByteArray) (f : ByteArray → Bool) : (addAll L N).all f = (L.all f && N.all f) := by
  rw [Bool.eq_iff_iff]
  simp only [List.all_eq_true, Bool.and_eq_true, mem_addAll]
  exact ⟨fun h => ⟨fun x hx => h x (.inl hx), fun x hx => h x (.inr hx)⟩, fun h x hx => hx.elim (h.1 x) (h.2 x)⟩
theorem Ob.value_is {F : FixL} {d : Int} (o : Ob) (hc : o.clean) : (o.value F d).e = 0 → (o.value F d).is = o.names.all (fun s => (F.lookup (s, d)).isSome) := by
  induction o with
  | const n => intro _; rfl
  | odd v => exact hc.elim
  | fix s => intro _; simp [Ob.value, Ob.names]
  | neg o ih =>
    intro h
    simp only [Ob.value, Ob.names, all_addAll] at h ⊢
    have hi := ih hc
    rcases o.value_tri (F := F) (d := d) with ⟨x, hx⟩ | hx | hx
    · rw [hx] at h hi ⊢
      rw [negK_ok rfl rfl] at h ⊢
      have := hi rfl
      simp only at this
      rw [← this]
      rcases hp : negS x with ⟨n, b⟩
      cases b
      · simp only [hp] at h; cases h
      · rfl
    · rw [hx] at hi ⊢
      have := hi rfl
      simp only at this
      rw [← this]
      rfl
    · rw [hx] at h; cases h
  | add l r ihl ihr =>
    intro h
    obtain ⟨h1, h2, h3⟩ := pairK_is l.value_tri r.value_tri h
    simp only [Ob.value, Ob.names, all_addAll] at h3 ⊢
    rw [h3, ihl hc.1 h1, ihr hc.2 h2]; simp
  | mul l r ihl ihr =>
    intro h
    obtain ⟨h1, h2, h3⟩ := pairK_is l.value_tri r.value_tri h
    simp only [Ob.value, Ob.names, all_addAll] at h3 ⊢
    rw [h3, ihl hc.1 h1, ihr hc.2 h2]; simp
  | max l r ihl ihr =>
    intro h
    obtain ⟨h1, h2, h3⟩ := pairK_is l.value_tri r.value_tri h
    simp only [Ob.value, Ob.names, all_addAll] at h3 ⊢
    rw [h3, ihl hc.1 h1, ihr hc.2 h2]; simp
theorem notFixed_zero (F : FixL) (d : Int) (l : List ByteArray) : decide ((notFixed F d l).length = 0) = l.all (fun s => (F.lookup (s, d)).isSome) := by
  rw [Bool.eq_iff_iff]
  simp only [decide_eq_true_eq, List.length_eq_zero_iff, List.all_eq_true]
  unfold notFixed
  rw [List.filter_eq_nil_iff]
  constructor
  · intro h x hx; simpa using h x hx
  · intro h x hx; simp [h x hx]
theorem Ob.ofV_yes {o : Ob} {F : FixL} {d : Int} (h : o.checked = 0) : o.ofV F d = o.value F d := by unfold Ob.ofV; rw [if_pos h]
theorem Ob.ofV_no {o : Ob} {F : FixL} {d : Int} (h : o.checked ≠ 0) : o.ofV F d = ⟨0, false, 2⟩ := by unfold Ob.ofV; rw [if_neg h]
theorem Ob.needs_is {o : Ob} {F : FixL} {d : Int} (hc : o.clean) (h : o.checked = 0) (he : (o.value F d).e = 0) : decide ((o.needs F d).length = 0) = (o.value F d).is := by
  rw [o.value_is hc he]
  unfold Ob.needs
  rw [if_pos h, notFixed_zero]
theorem Ob.ofV_cases (o : Ob) (F : FixL) (d : Int) : (o.checked = 0 ∧ o.ofV F d = o.value F d) ∨ (o.checked ≠ 0 ∧ o.ofV F d = ⟨0, false, 2⟩) := by
  by_cases h : o.checked = 0
  · exact .inl ⟨h, Ob.ofV_yes h⟩
  · exact .inr ⟨h, Ob.ofV_no h⟩

theorem fixNew_more (F : FixL) (s : ByteArray) (d v : Int) : ∃ G, fixNew F s d v = F ++ G := by
  unfold fixNew
  split
  · exact ⟨_, rfl⟩
  · exact ⟨[], by simp⟩
theorem ofV_more {o : Ob} {F F' : FixL} {d n : Int} (hF : ∃ G, F' = F ++ G) (h : o.ofV F d = ⟨n, true, 0⟩) : o.ofV F' d = ⟨n, true, 0⟩ := by
  obtain ⟨G, rfl⟩ := hF
  rcases o.ofV_cases F d with ⟨h1, h2⟩ | ⟨h1, h2⟩
  · rw [h2] at h
    rw [Ob.ofV_yes h1]
    exact o.value_more h
  · rw [h2] at h; cases h
theorem ofV_tri {o : Ob} {F : FixL} {d : Int} : o.ofV F d = ⟨0, false, 2⟩ ∨ (o.checked = 0 ∧ (o.ofV F d).tri) := by
  rcases o.ofV_cases F d with ⟨h1, h2⟩ | ⟨h1, h2⟩
  · exact .inr ⟨h1, by rw [h2]; exact o.value_tri⟩
  · exact .inl h2
/-- What the law meets of two numbers and their sum. -/
theorem sum_ways (a b : Ob) (F : FixL) (d : Int) : a.ofV F d = ⟨0, false, 2⟩ ∨ ((a.ofV F d).tri ∧ b.ofV F d = ⟨0, false, 2⟩) ∨
    ((a.ofV F d).tri ∧ (b.ofV F d).tri ∧ (Ob.add a b).ofV F d = ⟨0, false, 2⟩) ∨ ((a.ofV F d).tri ∧ (b.ofV F d).tri ∧ (Ob.add a b).ofV F d = pairK addS (a.ofV F d) (b.ofV F d)) := by
  rcases ofV_tri (o := a) (F := F) (d := d) with h | ⟨ca, ha⟩
  · exact .inl h
  rcases ofV_tri (o := b) (F := F) (d := d) with h | ⟨cb, hb⟩
  · exact .inr (.inl ⟨ha, h⟩)
  rcases (Ob.add a b).ofV_cases F d with ⟨h1, h2⟩ | ⟨h1, h2⟩
  · exact .inr (.inr (.inr ⟨ha, hb, by rw [h2, Ob.ofV_yes ca, Ob.ofV_yes cb]; rfl⟩))
  · exact .inr (.inr (.inl ⟨ha, hb, h2⟩))
theorem needs_known {o : Ob} {F : FixL} {d n : Int} (hc : o.clean) (h : o.ofV F d = ⟨n, true, 0⟩) : (((o.needs F d).length : Int) == 0) = true := by
  rcases o.ofV_cases F d with ⟨h1, h2⟩ | ⟨h1, h2⟩
  · rw [h2] at h
    have := Ob.needs_is (F := F) (d := d) hc h1 (by rw [h])
    rw [h, decide_eq_true_eq] at this
    rw [this]; rfl
  · rw [h2] at h; cases h
theorem needs_unknown {o : Ob} {F : FixL} {d : Int} (hc : o.clean) (h : o.ofV F d = ⟨0, false, 0⟩) : (((o.needs F d).length : Int) == 0) = false := by
  rcases o.ofV_cases F d with ⟨h1, h2⟩ | ⟨h1, h2⟩
  · rw [h2] at h
    have := Ob.needs_is (F := F) (d := d) hc h1 (by rw [h])
    rw [h, decide_eq_false_iff_not] at this
    rw [beq_eq_false_iff_ne]
    omega
  · rw [h2] at h; cases h
theorem neg_ways {a : Ob} {F : FixL} {d n : Int} (h : a.ofV F d = ⟨n, true, 0⟩) : (Ob.neg a).ofV F d = ⟨0, false, 2⟩ ∨ (Ob.neg a).ofV F d = ⟨0, false, 6⟩ ∨ (Ob.neg a).ofV F d = ⟨-n, true, 0⟩ := by
  rcases (Ob.neg a).ofV_cases F d with ⟨h1, h2⟩ | ⟨h1, h2⟩
  · rcases a.ofV_cases F d with ⟨h3, h4⟩ | ⟨h3, h4⟩
    · rw [h4] at h
      rw [h2]
      simp only [Ob.value]
      rw [h, negK_ok rfl rfl]
      unfold negS
      split
      · exact .inr (.inr rfl)
      · exact .inr (.inl rfl)
    · rw [h4] at h; cases h
  · exact .inl h2
theorem max_ways {a b : Ob} {F : FixL} {d n m : Int} (h : a.ofV F d = ⟨n, true, 0⟩) (h' : b.ofV F d = ⟨m, true, 0⟩) : (Ob.max a b).ofV F d = ⟨0, false, 2⟩ ∨ (Ob.max a b).ofV F d = ⟨Max.max n m, true, 0⟩ := by
  rcases (Ob.max a b).ofV_cases F d with ⟨h1, h2⟩ | ⟨h1, h2⟩
  · rcases a.ofV_cases F d with ⟨h3, h4⟩ | ⟨h3, h4⟩
    · rcases b.ofV_cases F d with ⟨h5, h6⟩ | ⟨h5, h6⟩
      · rw [h4] at h
        rw [h6] at h'
        rw [h2]
        simp only [Ob.value]
        rw [h, h', pairK_ok rfl rfl rfl rfl]
        exact .inr rfl
      · rw [h6] at h'; cases h'
    · rw [h4] at h; cases h
  · exact .inl h2

end Go.Proofs.Ytgjjngkmbplijaa
