/- Trees spoilt at places, as plain data: such a tree makes a number, a contract still, perhaps one with nothing within. No program in sight. -/
import Derived.Test.YtgjjngkmbplijaaZPl

namespace Go.Proofs.Ytgjjngkmbplijaa
open Go.RowKit
set_option linter.unusedSimpArgs false
set_option linter.unusedVariables false

/-- The tree, spoilt at some places, or as it was. -/
inductive Spd : Tr → Tr → Prop
  | refl (t : Tr) : Spd t t
  | zero (t : Tr) : Spd t (.mk 0 ⟨#[]⟩ 0 [])
  | name (kd : Int) (s : ByteArray) (n : Int) (k : List Tr) (s' : ByteArray) : s'.size ≤ 20 → Spd (.mk kd s n k) (.mk kd s' n k)
  | num (kd : Int) (s : ByteArray) (n : Int) (k : List Tr) (n' : Int) : -9223372036854775808 ≤ n' → n' ≤ 9223372036854775807 → Spd (.mk kd s n k) (.mk kd s n' k)
  | flipT (kd : Int) (s : ByteArray) (n : Int) (k : List Tr) : 11 ≤ kd → Spd (.mk kd s n k) (.mk 1 ⟨#[]⟩ 0 [])
  | flipO (kd : Int) (s : ByteArray) (n : Int) (k : List Tr) : kd < 11 → Spd (.mk kd s n k) (.mk 11 ⟨#[]⟩ 1 [])
  | kids (kd : Int) (s : ByteArray) (n : Int) (k k' : List Tr) : k'.length = k.length → (∀ (i : Nat) (x y : Tr), k[i]? = some x → k'[i]? = some y → Spd x y) → Spd (.mk kd s n k) (.mk kd s n k')

theorem one_of {k : List Tr} (h : k.length = 1) : ∃ x, k = [x] := by
  match k, h with
  | [x], _ => exact ⟨x, rfl⟩
theorem two_of {k : List Tr} (h : k.length = 2) : ∃ x y, k = [x, y] := by
  match k, h with
  | [x, y], _ => exact ⟨x, y, rfl⟩
theorem three_of {k : List Tr} (h : k.length = 3) : ∃ x y z, k = [x, y, z] := by
  match k, h with
  | [x, y, z], _ => exact ⟨x, y, z, rfl⟩

/-- The spoilt tree's number: no more in it, no deeper. -/
structure ObSp (t : Tr) (N D : Nat) (o : Ob) : Prop where
  is : IsOb t o
  wf : o.wf
  nodes : o.nodes ≤ N
  depth : o.depth ≤ D
structure TeSp (t : Tr) (N D : Nat) (o : Te) : Prop where
  is : IsTe t o
  wf : o.wf
  nodes : o.nodes ≤ N
  depth : o.depth ≤ D
theorem obSp_none (N D : Nat) (kd : Int) (s : ByteArray) (n : Int) (k : List Tr) (h : kd < 11 ∨ 16 < kd) : ∃ o, ObSp (.mk kd s n k) N D o :=
  ⟨_, .none _ _ _ _ h, .inl rfl, Nat.zero_le _, Nat.zero_le _⟩
theorem teSp_none (N D : Nat) (kd : Int) (s : ByteArray) (n : Int) (k : List Tr) (h : kd < 1 ∨ 8 < kd) : ∃ o, TeSp (.mk kd s n k) N D o :=
  ⟨_, .none _ _ _ _ h, .inl rfl, Nat.zero_le _, Nat.zero_le _⟩
theorem obSp_const (t : Tr) (N : Nat) (D : Nat) (n : Int) (s : ByteArray) (k : List Tr) (h1 : -9223372036854775808 ≤ n) (h2 : n ≤ 9223372036854775807) (hN : 1 ≤ N) (hD : 1 ≤ D) : ∃ o, ObSp (.mk 11 s n k) N D o :=
  ⟨_, .const _ _ _, ⟨h1, h2⟩, by simp only [Ob.nodes]; omega, by simp only [Ob.depth]; omega⟩

theorem IsOb.spoil {t : Tr} {o : Ob} (h : IsOb t o) : o.wf → o.clean → ∀ t', Spd t t' → ∃ o', ObSp t' o.nodes o.depth o' := by
  induction h with
  | const s n k =>
    intro hw hc t' hs
    cases hs with
    | refl => exact ⟨_, .const _ _ _, hw, Nat.le_refl _, Nat.le_refl _⟩
    | zero => exact obSp_none _ _ _ _ _ _ (.inl (by omega))
    | name _ _ _ _ s' h => exact ⟨_, .const _ _ _, hw, Nat.le_refl _, Nat.le_refl _⟩
    | num _ _ _ _ n' h1 h2 => exact ⟨_, .const _ _ _, ⟨h1, h2⟩, Nat.le_refl _, Nat.le_refl _⟩
    | flipT => exact obSp_none _ _ _ _ _ _ (.inl (by omega))
    | flipO _ _ _ _ h => omega
    | kids _ _ _ _ k' hl hk => exact ⟨_, .const _ _ _, hw, Nat.le_refl _, Nat.le_refl _⟩
  | fix s n k =>
    intro hw hc t' hs
    cases hs with
    | refl => exact ⟨_, .fix _ _ _, hw, Nat.le_refl _, Nat.le_refl _⟩
    | zero => exact obSp_none _ _ _ _ _ _ (.inl (by omega))
    | name _ _ _ _ s' h => exact ⟨_, .fix _ _ _, Nat.le_trans h (by omega), Nat.le_refl _, Nat.le_refl _⟩
    | num _ _ _ _ n' h1 h2 => exact ⟨_, .fix _ _ _, hw, Nat.le_refl _, Nat.le_refl _⟩
    | flipT => exact obSp_none _ _ _ _ _ _ (.inl (by omega))
    | flipO _ _ _ _ h => omega
    | kids _ _ _ _ k' hl hk => exact ⟨_, .fix _ _ _, hw, Nat.le_refl _, Nat.le_refl _⟩
  | neg s n l a ia ih =>
    intro hw hc t' hs
    cases hs with
    | refl => exact ⟨_, .neg _ _ _ _ ia, hw, Nat.le_refl _, Nat.le_refl _⟩
    | zero => exact obSp_none _ _ _ _ _ _ (.inl (by omega))
    | name _ _ _ _ s' h => exact ⟨_, .neg _ _ _ _ ia, hw, Nat.le_refl _, Nat.le_refl _⟩
    | num _ _ _ _ n' h1 h2 => exact ⟨_, .neg _ _ _ _ ia, hw, Nat.le_refl _, Nat.le_refl _⟩
    | flipT => exact obSp_none _ _ _ _ _ _ (.inl (by omega))
    | flipO _ _ _ _ h => omega
    | kids _ _ _ _ k' hl hk =>
      obtain ⟨x, rfl⟩ := one_of hl
      obtain ⟨a', ha⟩ := ih hw hc x (hk 0 _ _ rfl rfl)
      have n1 := ha.nodes
      have d1 := ha.depth
      exact ⟨.neg a', .neg _ _ _ _ ha.is, ha.wf, by simp only [Ob.nodes]; omega, by simp only [Ob.depth]; omega⟩
  | add s n l r a b ia ib ih1 ih2 =>
    intro hw hc t' hs
    cases hs with
    | refl => exact ⟨_, .add _ _ _ _ _ _ ia ib, hw, Nat.le_refl _, Nat.le_refl _⟩
    | zero => exact obSp_none _ _ _ _ _ _ (.inl (by omega))
    | name _ _ _ _ s' h => exact ⟨_, .add _ _ _ _ _ _ ia ib, hw, Nat.le_refl _, Nat.le_refl _⟩
    | num _ _ _ _ n' h1 h2 => exact ⟨_, .add _ _ _ _ _ _ ia ib, hw, Nat.le_refl _, Nat.le_refl _⟩
    | flipT => exact obSp_none _ _ _ _ _ _ (.inl (by omega))
    | flipO _ _ _ _ h => omega
    | kids _ _ _ _ k' hl hk =>
      obtain ⟨x, y, rfl⟩ := two_of hl
      obtain ⟨a', ha⟩ := ih1 hw.1 hc.1 x (hk 0 _ _ rfl rfl)
      obtain ⟨b', hb⟩ := ih2 hw.2 hc.2 y (hk 1 _ _ rfl rfl)
      have n1 := ha.nodes
      have d1 := ha.depth
      have n2 := hb.nodes
      have d2 := hb.depth
      exact ⟨.add a' b', .add _ _ _ _ _ _ ha.is hb.is, ⟨ha.wf, hb.wf⟩, by simp only [Ob.nodes]; omega, by simp only [Ob.depth]; omega⟩
  | mul s n l r a b ia ib ih1 ih2 =>
    intro hw hc t' hs
    cases hs with
    | refl => exact ⟨_, .mul _ _ _ _ _ _ ia ib, hw, Nat.le_refl _, Nat.le_refl _⟩
    | zero => exact obSp_none _ _ _ _ _ _ (.inl (by omega))
    | name _ _ _ _ s' h => exact ⟨_, .mul _ _ _ _ _ _ ia ib, hw, Nat.le_refl _, Nat.le_refl _⟩
    | num _ _ _ _ n' h1 h2 => exact ⟨_, .mul _ _ _ _ _ _ ia ib, hw, Nat.le_refl _, Nat.le_refl _⟩
    | flipT => exact obSp_none _ _ _ _ _ _ (.inl (by omega))
    | flipO _ _ _ _ h => omega
    | kids _ _ _ _ k' hl hk =>
      obtain ⟨x, y, rfl⟩ := two_of hl
      obtain ⟨a', ha⟩ := ih1 hw.1 hc.1 x (hk 0 _ _ rfl rfl)
      obtain ⟨b', hb⟩ := ih2 hw.2 hc.2 y (hk 1 _ _ rfl rfl)
      have n1 := ha.nodes
      have d1 := ha.depth
      have n2 := hb.nodes
      have d2 := hb.depth
      exact ⟨.mul a' b', .mul _ _ _ _ _ _ ha.is hb.is, ⟨ha.wf, hb.wf⟩, by simp only [Ob.nodes]; omega, by simp only [Ob.depth]; omega⟩
  | max s n l r a b ia ib ih1 ih2 =>
    intro hw hc t' hs
    cases hs with
    | refl => exact ⟨_, .max _ _ _ _ _ _ ia ib, hw, Nat.le_refl _, Nat.le_refl _⟩
    | zero => exact obSp_none _ _ _ _ _ _ (.inl (by omega))
    | name _ _ _ _ s' h => exact ⟨_, .max _ _ _ _ _ _ ia ib, hw, Nat.le_refl _, Nat.le_refl _⟩
    | num _ _ _ _ n' h1 h2 => exact ⟨_, .max _ _ _ _ _ _ ia ib, hw, Nat.le_refl _, Nat.le_refl _⟩
    | flipT => exact obSp_none _ _ _ _ _ _ (.inl (by omega))
    | flipO _ _ _ _ h => omega
    | kids _ _ _ _ k' hl hk =>
      obtain ⟨x, y, rfl⟩ := two_of hl
      obtain ⟨a', ha⟩ := ih1 hw.1 hc.1 x (hk 0 _ _ rfl rfl)
      obtain ⟨b', hb⟩ := ih2 hw.2 hc.2 y (hk 1 _ _ rfl rfl)
      have n1 := ha.nodes
      have d1 := ha.depth
      have n2 := hb.nodes
      have d2 := hb.depth
      exact ⟨.max a' b', .max _ _ _ _ _ _ ha.is hb.is, ⟨ha.wf, hb.wf⟩, by simp only [Ob.nodes]; omega, by simp only [Ob.depth]; omega⟩
  | none kd s n k hk => intro hw hc; exact hc.elim

theorem IsTe.spoil {t : Tr} {o : Te} (h : IsTe t o) : o.wf → o.clean → ∀ t', Spd t t' → ∃ o', TeSp t' o.nodes o.depth o' := by
  induction h with
  | zero s n k =>
    intro hw hc t' hs
    cases hs with
    | refl => exact ⟨_, .zero _ _ _, hw, Nat.le_refl _, Nat.le_refl _⟩
    | zero => exact teSp_none _ _ _ _ _ _ (.inl (by omega))
    | name _ _ _ _ s' h => exact ⟨_, .zero _ _ _, hw, Nat.le_refl _, Nat.le_refl _⟩
    | num _ _ _ _ n' h1 h2 => exact ⟨_, .zero _ _ _, hw, Nat.le_refl _, Nat.le_refl _⟩
    | flipT _ _ _ _ h => omega
    | flipO => exact teSp_none _ _ _ _ _ _ (.inr (by omega))
    | kids _ _ _ _ k' hl hk => exact ⟨_, .zero _ _ _, hw, Nat.le_refl _, Nat.le_refl _⟩
  | one s n k =>
    intro hw hc t' hs
    cases hs with
    | refl => exact ⟨_, .one _ _ _, hw, Nat.le_refl _, Nat.le_refl _⟩
    | zero => exact teSp_none _ _ _ _ _ _ (.inl (by omega))
    | name _ _ _ _ s' h => exact ⟨_, .one _ _ _, Nat.le_trans h (by omega), Nat.le_refl _, Nat.le_refl _⟩
    | num _ _ _ _ n' h1 h2 => exact ⟨_, .one _ _ _, hw, Nat.le_refl _, Nat.le_refl _⟩
    | flipT _ _ _ _ h => omega
    | flipO => exact teSp_none _ _ _ _ _ _ (.inr (by omega))
    | kids _ _ _ _ k' hl hk => exact ⟨_, .one _ _ _, hw, Nat.le_refl _, Nat.le_refl _⟩
  | give s n l a ia iha =>
    intro hw hc t' hs
    cases hs with
    | refl => exact ⟨_, .give _ _ _ _ ia, hw, Nat.le_refl _, Nat.le_refl _⟩
    | zero => exact teSp_none _ _ _ _ _ _ (.inl (by omega))
    | name _ _ _ _ s' h => exact ⟨_, .give _ _ _ _ ia, hw, Nat.le_refl _, Nat.le_refl _⟩
    | num _ _ _ _ n' h1 h2 => exact ⟨_, .give _ _ _ _ ia, hw, Nat.le_refl _, Nat.le_refl _⟩
    | flipT _ _ _ _ h => omega
    | flipO => exact teSp_none _ _ _ _ _ _ (.inr (by omega))
    | kids _ _ _ _ k' hl hk =>
      obtain ⟨x, rfl⟩ := one_of hl
      obtain ⟨a', ha⟩ := iha hw hc x (hk 0 _ _ rfl rfl)
      have na := ha.nodes
      have da := ha.depth
      exact ⟨.give a', .give _ _ _ _ ha.is, ha.wf, by simp only [Te.nodes]; omega, by simp only [Te.depth]; omega⟩
  | and s n l r a b ia ib iha ihb =>
    intro hw hc t' hs
    cases hs with
    | refl => exact ⟨_, .and _ _ _ _ _ _ ia ib, hw, Nat.le_refl _, Nat.le_refl _⟩
    | zero => exact teSp_none _ _ _ _ _ _ (.inl (by omega))
    | name _ _ _ _ s' h => exact ⟨_, .and _ _ _ _ _ _ ia ib, hw, Nat.le_refl _, Nat.le_refl _⟩
    | num _ _ _ _ n' h1 h2 => exact ⟨_, .and _ _ _ _ _ _ ia ib, hw, Nat.le_refl _, Nat.le_refl _⟩
    | flipT _ _ _ _ h => omega
    | flipO => exact teSp_none _ _ _ _ _ _ (.inr (by omega))
    | kids _ _ _ _ k' hl hk =>
      obtain ⟨x, y, rfl⟩ := two_of hl
      obtain ⟨a', ha⟩ := iha hw.1 hc.1 x (hk 0 _ _ rfl rfl)
      have na := ha.nodes
      have da := ha.depth
      obtain ⟨b', hb⟩ := ihb hw.2 hc.2 y (hk 1 _ _ rfl rfl)
      have nb := hb.nodes
      have db := hb.depth
      exact ⟨.and a' b', .and _ _ _ _ _ _ ha.is hb.is, ⟨ha.wf, hb.wf⟩, by simp only [Te.nodes]; omega, by simp only [Te.depth]; omega⟩
  | or s n l r a b ia ib iha ihb =>
    intro hw hc t' hs
    cases hs with
    | refl => exact ⟨_, .or _ _ _ _ _ _ ia ib, hw, Nat.le_refl _, Nat.le_refl _⟩
    | zero => exact teSp_none _ _ _ _ _ _ (.inl (by omega))
    | name _ _ _ _ s' h => exact ⟨_, .or _ _ _ _ _ _ ia ib, ⟨Nat.le_trans h (by omega), hw.2⟩, Nat.le_refl _, Nat.le_refl _⟩
    | num _ _ _ _ n' h1 h2 => exact ⟨_, .or _ _ _ _ _ _ ia ib, hw, Nat.le_refl _, Nat.le_refl _⟩
    | flipT _ _ _ _ h => omega
    | flipO => exact teSp_none _ _ _ _ _ _ (.inr (by omega))
    | kids _ _ _ _ k' hl hk =>
      obtain ⟨x, y, rfl⟩ := two_of hl
      obtain ⟨a', ha⟩ := iha hw.2.1 hc.1 x (hk 0 _ _ rfl rfl)
      have na := ha.nodes
      have da := ha.depth
      obtain ⟨b', hb⟩ := ihb hw.2.2 hc.2 y (hk 1 _ _ rfl rfl)
      have nb := hb.nodes
      have db := hb.depth
      exact ⟨.or _ a' b', .or _ _ _ _ _ _ ha.is hb.is, ⟨hw.1, ha.wf, hb.wf⟩, by simp only [Te.nodes]; omega, by simp only [Te.depth]; omega⟩
  | scale s n l r a b ia ib ihb =>
    intro hw hc t' hs
    cases hs with
    | refl => exact ⟨_, .scale _ _ _ _ _ _ ia ib, hw, Nat.le_refl _, Nat.le_refl _⟩
    | zero => exact teSp_none _ _ _ _ _ _ (.inl (by omega))
    | name _ _ _ _ s' h => exact ⟨_, .scale _ _ _ _ _ _ ia ib, hw, Nat.le_refl _, Nat.le_refl _⟩
    | num _ _ _ _ n' h1 h2 => exact ⟨_, .scale _ _ _ _ _ _ ia ib, hw, Nat.le_refl _, Nat.le_refl _⟩
    | flipT _ _ _ _ h => omega
    | flipO => exact teSp_none _ _ _ _ _ _ (.inr (by omega))
    | kids _ _ _ _ k' hl hk =>
      obtain ⟨x, y, rfl⟩ := two_of hl
      obtain ⟨a', ha⟩ := IsOb.spoil ia hw.1 hc.1 x (hk 0 _ _ rfl rfl)
      have na := ha.nodes
      have da := ha.depth
      obtain ⟨b', hb⟩ := ihb hw.2 hc.2 y (hk 1 _ _ rfl rfl)
      have nb := hb.nodes
      have db := hb.depth
      exact ⟨.scale a' b', .scale _ _ _ _ _ _ ha.is hb.is, ⟨ha.wf, hb.wf⟩, by simp only [Te.nodes]; omega, by simp only [Te.depth]; omega⟩
  | whn s n l a ia iha =>
    intro hw hc t' hs
    cases hs with
    | refl => exact ⟨_, .whn _ _ _ _ ia, hw, Nat.le_refl _, Nat.le_refl _⟩
    | zero => exact teSp_none _ _ _ _ _ _ (.inl (by omega))
    | name _ _ _ _ s' h => exact ⟨_, .whn _ _ _ _ ia, hw, Nat.le_refl _, Nat.le_refl _⟩
    | num _ _ _ _ n' h1 h2 => exact ⟨_, .whn _ _ _ _ ia, ⟨⟨h1, h2⟩, hw.2⟩, Nat.le_refl _, Nat.le_refl _⟩
    | flipT _ _ _ _ h => omega
    | flipO => exact teSp_none _ _ _ _ _ _ (.inr (by omega))
    | kids _ _ _ _ k' hl hk =>
      obtain ⟨x, rfl⟩ := one_of hl
      obtain ⟨a', ha⟩ := iha hw.2 hc x (hk 0 _ _ rfl rfl)
      have na := ha.nodes
      have da := ha.depth
      exact ⟨.whn _ a', .whn _ _ _ _ ha.is, ⟨hw.1, ha.wf⟩, by simp only [Te.nodes]; omega, by simp only [Te.depth]; omega⟩
  | cond s n o l r a b c ia ib ic ihb ihc =>
    intro hw hc t' hs
    cases hs with
    | refl => exact ⟨_, .cond _ _ _ _ _ _ _ _ ia ib ic, hw, Nat.le_refl _, Nat.le_refl _⟩
    | zero => exact teSp_none _ _ _ _ _ _ (.inl (by omega))
    | name _ _ _ _ s' h => exact ⟨_, .cond _ _ _ _ _ _ _ _ ia ib ic, hw, Nat.le_refl _, Nat.le_refl _⟩
    | num _ _ _ _ n' h1 h2 => exact ⟨_, .cond _ _ _ _ _ _ _ _ ia ib ic, hw, Nat.le_refl _, Nat.le_refl _⟩
    | flipT _ _ _ _ h => omega
    | flipO => exact teSp_none _ _ _ _ _ _ (.inr (by omega))
    | kids _ _ _ _ k' hl hk =>
      obtain ⟨x, y, z, rfl⟩ := three_of hl
      obtain ⟨a', ha⟩ := IsOb.spoil ia hw.1 hc.1 x (hk 0 _ _ rfl rfl)
      have na := ha.nodes
      have da := ha.depth
      obtain ⟨b', hb⟩ := ihb hw.2.1 hc.2.1 y (hk 1 _ _ rfl rfl)
      have nb := hb.nodes
      have db := hb.depth
      obtain ⟨c', hc⟩ := ihc hw.2.2 hc.2.2 z (hk 2 _ _ rfl rfl)
      have nc := hc.nodes
      have dc := hc.depth
      exact ⟨.cond a' b' c', .cond _ _ _ _ _ _ _ _ ha.is hb.is hc.is, ⟨ha.wf, hb.wf, hc.wf⟩, by simp only [Te.nodes]; omega, by simp only [Te.depth]; omega⟩
  | none kd s n k hk => intro hw hc; exact hc.elim

end Go.Proofs.Ytgjjngkmbplijaa
