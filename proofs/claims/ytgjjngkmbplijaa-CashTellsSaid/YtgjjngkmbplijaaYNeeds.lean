/- What a number needs: plain facts. No program in sight. -/
import Derived.Test.YtgjjngkmbplijaaZVa
import Derived.Test.YtgjjngkmbplijaaZPl

namespace Go.Proofs.Ytgjjngkmbplijaa
set_option linter.unusedSimpArgs false
set_option linter.unusedVariables false

theorem Ob.names_half (o : Ob) : 2 * o.names.length ≤ o.nodes + 1 := by
  induction o with
  | const n => simp [Ob.names]
  | fix s => simp [Ob.names, Ob.nodes]
  | odd v => simp [Ob.names]
  | neg o ih => have := addAll_len [] o.names; simp only [Ob.names, Ob.nodes, List.length_nil] at *; omega
  | _ l r ihl ihr =>
    have h1 := addAll_len [] l.names
    have h2 := addAll_len (addAll [] l.names) r.names
    simp only [Ob.names, Ob.nodes, List.length_nil] at *
    omega
theorem Ob.names_formed {o : Ob} (h : o.formed = true) : ∀ s ∈ o.names, isName s = true := by
  induction o with
  | const n => intro s hs; simp [Ob.names] at hs
  | fix t => intro s hs; simp [Ob.names] at hs; subst hs; exact h
  | odd v => intro s hs; simp [Ob.names] at hs
  | neg o ih =>
    intro s hs
    simp only [Ob.names, mem_addAll] at hs
    exact hs.elim (fun h2 => by simp at h2) (ih h s)
  | _ l r ihl ihr =>
    intro s hs
    simp only [Ob.formed, Bool.and_eq_true] at h
    simp only [Ob.names, mem_addAll] at hs
    exact hs.elim (fun h2 => h2.elim (fun h3 => by simp at h3) (ihl h.1 s)) (ihr h.2 s)
/-- Known, or it runs over. -/
def Kn.told (k : Kn) : Prop := (k.e = 0 ∧ k.is = true) ∨ (k.e = 6 ∧ k.is = false)
theorem toldK_told (p : Int × Bool) : (toldK p).told := by
  unfold toldK
  split
  · exact .inl ⟨rfl, rfl⟩
  · exact .inr ⟨rfl, rfl⟩
theorem pairK_told {put : Int → Int → Int × Bool} {a b : Kn} (ha : a.told) (hb : b.told) : (pairK put a b).told := by
  rcases ha with ⟨h1, h2⟩ | ⟨h1, h2⟩
  · rcases hb with ⟨h3, h4⟩ | ⟨h3, h4⟩
    · rw [pairK_ok h1 h3 h2 h4]; exact toldK_told _
    · rw [pairK_e2 h1 (.inl (by rw [h3]; decide)), h3]; exact .inr ⟨rfl, rfl⟩
  · rw [pairK_e1 (by rw [h1]; decide), h1]; exact .inr ⟨rfl, rfl⟩
theorem negK_told {a : Kn} (ha : a.told) : (negK a).told := by
  rcases ha with ⟨h1, h2⟩ | ⟨h1, h2⟩
  · rw [negK_ok h1 h2]; exact toldK_told _
  · rw [negK_no (.inl (by rw [h1]; decide)), h1]; exact .inr ⟨rfl, rfl⟩
theorem Ob.value_told {F : FixL} {d : Int} (o : Ob) (h : o.clean) (hn : ∀ s ∈ o.names, (F.lookup (s, d)).isSome = true) : (o.value F d).told := by
  induction o with
  | const n => exact .inl ⟨rfl, rfl⟩
  | fix s => exact .inl ⟨rfl, hn s (by simp [Ob.names])⟩
  | odd v => exact h.elim
  | neg o ih => exact negK_told (ih h (fun s hs => hn s (by simp only [Ob.names, mem_addAll]; exact .inr hs)))
  | _ l r ihl ihr => exact pairK_told (ihl h.1 (fun s hs => hn s (by simp only [Ob.names, mem_addAll]; exact .inl (.inr hs)))) (ihr h.2 (fun s hs => hn s (by simp only [Ob.names, mem_addAll]; exact .inr hs)))
/-- The names l fixed at y on day d, one by one. -/
def fixAll (d y : Int) (l : List ByteArray) : FixL := l.map fun s => ((s, d), y)
theorem lookup_fixAll (F : FixL) (d y : Int) (l : List ByteArray) (s : ByteArray) : ((F ++ fixAll d y l).lookup (s, d)).isSome = ((F.lookup (s, d)).isSome || decide (s ∈ l)) := by
  rw [List.lookup_append]
  cases hF : F.lookup (s, d) with
  | some x => simp
  | none =>
    simp only [Option.none_or, Option.isSome_none, Bool.false_or]
    induction l with
    | nil => simp [fixAll]
    | cons x r ih =>
      by_cases hx : s = x
      · subst hx
        simp [fixAll, List.lookup]
      · have : ((s, d) == (x, d)) = false := by simpa using hx
        have e : fixAll d y (x :: r) = ((x, d), y) :: fixAll d y r := rfl
        rw [e, List.lookup_cons, this]
        simp only [ih, List.mem_cons, hx, false_or]
theorem notFixed_split {F : FixL} {d : Int} {l : List ByteArray} {q : Nat} {s : ByteArray} (h : l[q]? = some s) (hs : (F.lookup (s, d)).isSome = false) : (notFixed F d l)[(notFixed F d (l.take q)).length]? = some s := by
  have e : l = l.take q ++ s :: l.drop (q + 1) := by
    obtain ⟨h1, h2⟩ := List.getElem?_eq_some_iff.1 h
    have h3 := (List.take_append_drop q l).symm
    rwa [List.drop_eq_getElem_cons h1, h2] at h3
  have e2 : notFixed F d l = notFixed F d (l.take q) ++ s :: notFixed F d (l.drop (q + 1)) := by
    conv => lhs; rw [e]
    unfold notFixed
    rw [List.filter_append, List.filter_cons, if_pos (by rw [hs]; rfl)]
  rw [e2]
  simp
theorem notFixed_mem {F : FixL} {d : Int} {l : List ByteArray} {s : ByteArray} (h : s ∈ notFixed F d l) : s ∈ l ∧ (F.lookup (s, d)).isSome = false := by
  unfold notFixed at h
  have := List.mem_filter.1 h
  exact ⟨this.1, by simpa using this.2⟩
theorem all_fixed (F : FixL) (d y : Int) (l : List ByteArray) : ∀ s ∈ l, ((F ++ fixAll d y (notFixed F d l)).lookup (s, d)).isSome = true := by
  intro s hs
  rw [lookup_fixAll]
  cases hF : (F.lookup (s, d)).isSome with
  | true => rfl
  | false =>
    have : s ∈ notFixed F d l := List.mem_filter.2 ⟨hs, by simp [hF]⟩
    simp [this]
theorem none_needed (F : FixL) (d y : Int) (l : List ByteArray) : notFixed (F ++ fixAll d y (notFixed F d l)) d l = [] := by
  have e : ∀ G : FixL, notFixed G d l = l.filter (fun s => !(G.lookup (s, d)).isSome) := fun _ => rfl
  rw [e (F ++ fixAll d y (notFixed F d l)), List.filter_eq_nil_iff]
  intro s hs
  rw [all_fixed F d y l s hs]
  simp
theorem fixNew_len (F : FixL) (s : ByteArray) (d v : Int) : (fixNew F s d v).length ≤ F.length + 1 := by
  unfold fixNew
  repeat' split
  all_goals simp

end Go.Proofs.Ytgjjngkmbplijaa
