/- Contracts of what the laws of chapter 2 call, besides cents: handfastkeep.Cut, Copy, cents.Sum, Sign, near, wakes. -/
import Derived.Test.YtnlkfdbmedklaaaCents
namespace Go.Proofs.Ytnlkfdbmedklaaa
open Go.RowKit
set_option linter.unusedSimpArgs false
set_option linter.unusedVariables false

/-- Some int comes back; the world is as it was. -/
def SomeInt (w : World) (e : Ending) (w' : World) : Prop := ∃ r : Int, -9223372036854775808 ≤ r ∧ r ≤ 9223372036854775807 ∧ e = .returned (.int .i64 r) ∧ w = w'

set_option maxRecDepth 100000 in
set_option maxHeartbeats 400000 in
theorem near_calls (n how : Int) (w : World) (n1 : -9223372036854775808 ≤ n) (n2 : n ≤ 9223372036854775807) (h1 : -9223372036854775808 ≤ how) (h2 : how ≤ 9223372036854775807) :
    Calls Try.prog 12 #[.int .i64 n, .int .i64 how] w (SomeInt w) := by
  have a1 := within_lo n 2001 (by omega)
  have a2 := within_hi n 2001 (by omega)
  have a3 := within_lo n 7 (by omega)
  have a4 := within_hi n 7 (by omega)
  have a5 := within_lo n 2000000000001 (by omega)
  have a6 := within_hi n 2000000000001 (by omega)
  have c1 := within_lo how 5 (by omega)
  have c2 := within_hi how 5 (by omega)
  have hc : how % 5 = 0 ∨ how % 5 = 1 ∨ how % 5 = 2 ∨ how % 5 = 3 ∨ how % 5 = 4 := by omega
  rcases hc with hc | hc | hc | hc | hc
  all_goals
    clear c1 c2
    go_enter Try.func12, Try.ntmps12
    go_wp2_with (go_at_call 8; (with_reducible refine (within_calls _ _ _ (by omega) (by omega) (by omega) (by omega)).mono ?_); rintro e w' ⟨rfl, rfl⟩)
    go_ret
    exact ⟨_, by omega, by omega, rfl, rfl⟩

theorem elemInt : Elem Try.prog 29 3 1 8 := elem_of (by kernel_rfl) (by kernel_rfl : (Try.prog.info? 3).map (fun i => (i.zero, i.size, i.bytes)) = some (some (.int .i64 0), 1, 8)) rfl (by omega)

/-- A row of the call's own comes back; nothing that was there has turned. -/
def RetOwn (w : World) (E : TypeId) (size n : Nat) (xs : List Value) (e : Ending) (w' : World) : Prop :=
  ∃ v, e = .returned v ∧ w'.ownsRow w.heap.size E size v n xs ∧ Ext w w'

set_option maxRecDepth 100000 in
set_option maxHeartbeats 400000 in
theorem copy_calls (a : Option Addr) (n c : Nat) (l : List Int) (w : World) (hr : Rd w 1 a n (ints l)) (hn : n ≤ 1000) :
    Calls Try.prog 24 #[.slice a n c] w (RetOwn w 3 1 n (ints l)) := by
  have hm : n ≤ maxLen := by unfold maxLen; omega
  go_enter Try.func24, Try.ntmps24
  go_wp2_with (at_builtin; refine wpList_app elemInt rfl _ _ rfl w.heap.size (.slice none 0 0) 0 [] rfl (World.ownsRow_nil _ _ _ _) a n c (ints l) rfl hr (ints_one l) (by omega) (by omega) (Nat.le_refl _) ?_; intro v1 w1 hown hg _)
  go_ret
  refine ⟨_, rfl, ?_, ?_⟩
  · simpa using hown
  · exact (Ext.refl _).grown hg (by simp [Value.ownBlock])

set_option maxRecDepth 100000 in
set_option maxHeartbeats 400000 in
theorem cut_calls (a : Option Addr) (n c : Nat) (l : List Int) (k : Int) (w : World) (hr : Rd w 1 a n (ints l)) (hnc : n ≤ c) (hc : c ≤ maxLen) (h0 : 0 ≤ k) (h1 : k ≤ 1000) :
    Calls Try.prog 15 #[.slice a n c, .int .i64 k] w (RetOwn w 3 1 (min n k.toNat) (ints (l.take (min n k.toNat)))) := by
  obtain ⟨m, rfl⟩ := Int.eq_ofNat_of_zero_le h0
  rw [Int.toNat_natCast]
  unfold maxLen at hc
  by_cases hk : n ≤ m
  · have hmin : min n m = n := by omega
    rw [hmin]
    have hl : l.take n = l := List.take_of_length_le (by have := hr.1; simp [ints] at this; omega)
    rw [hl]
    clear hmin hl
    go_enter Try.func15, Try.ntmps15
    go_wp2_with (go_at_call 24; (with_reducible refine (copy_calls _ _ _ _ _ hr (by omega)).mono ?_); rintro e w' ⟨v, rfl, hown, hext⟩)
    go_ret
    exact ⟨_, rfl, hown, hext⟩
  · have hmin : min n m = m := by omega
    rw [hmin]
    have hr' := hr.take (k := m) (by omega)
    have e1 : (ints l).take (m * 1) = ints (l.take m) := by simp [ints]
    rw [e1] at hr'
    clear hmin e1
    go_enter Try.func15, Try.ntmps15
    go_wp2_with (go_at_call 24; (with_reducible refine (copy_calls _ _ _ _ _ hr' (by omega)).mono ?_); rintro e w' ⟨v, rfl, hown, hext⟩)
    go_ret
    exact ⟨_, rfl, hown, hext⟩

/-- The sum of many, one behind the other. -/
def sumFrom : Int → List Int → Int × Bool
  | n, [] => (n, true)
  | n, x :: r => if (addS n x).2 = true then sumFrom (addS n x).1 r else (0, false)
theorem sumFrom_yes {n x : Int} {r : List Int} (h : (addS n x).2 = true) : sumFrom n (x :: r) = sumFrom (addS n x).1 r := by rw [sumFrom, if_pos h]
theorem sumFrom_no {n x : Int} {r : List Int} (h : (addS n x).2 = false) : sumFrom n (x :: r) = (0, false) := by rw [sumFrom, if_neg (by rw [h]; decide)]

theorem drop_at {l : List Int} {k : Nat} {u : Value} (h : (ints l)[k]? = some u) : ∃ x, u = .int .i64 x ∧ l.drop k = x :: l.drop (k + 1) := by
  simp only [ints, List.getElem?_map] at h
  cases hx : l[k]? with
  | none => rw [hx] at h; cases h
  | some x =>
    rw [hx] at h
    obtain ⟨hlt, he⟩ := List.getElem?_eq_some_iff.1 hx
    refine ⟨x, by simpa using h.symm, ?_⟩
    rw [List.drop_eq_getElem_cons hlt, he]

set_option maxRecDepth 100000 in
set_option maxHeartbeats 400000 in
theorem sum_calls (a : Option Addr) (n c : Nat) (l : List Int) (w : World) (hr : Rd w 1 a n (ints l)) (hn : n ≤ 1000) :
    Calls Try.prog 16 #[.slice a n c] w fun e w' => e = retIB (sumFrom 0 l) ∧ w = w' := by
  have hl : l.length = n := by have := hr.1; simpa [ints] using this
  go_enter Try.func16, Try.ntmps16
  go_wp2
  go_loop [4, 10] (fun s i => ∃ (k : Nat) (acc : Int), k ≤ n ∧ i = .int .i64 k ∧ s = .int .i64 acc ∧ sumFrom 0 l = sumFrom acc (l.drop k)) (fun _ i => n - (intOf i).toNat)
  case atStart => exact ⟨0, 0, Nat.zero_le _, rfl, rfl, rfl⟩
  case round =>
    obtain ⟨k, acc, hk, rfl, rfl, hs⟩ := hrel
    have Hs := Lib.hid hs
    clear hs
    by_cases hlt : k < n
    · obtain ⟨ad, u, rfl, hu, hc⟩ := hr.at1 hlt
      obtain ⟨x, rfl, hd⟩ := drop_at hu
      have Hd := Lib.hid hd
      clear hd hu
      cases hb : (addS acc x).2 with
      | true =>
        have hy := Lib.hid (sumFrom_yes (r := l.drop (k + 1)) hb)
        go_wp2_with (go_at_call 9; (with_reducible refine (add_calls _ _ _).mono ?_); rintro e w' ⟨rfl, rfl⟩; unfold retIB)
        go_round
        case rel => exact ⟨k + 1, _, by omega, by go_num, rfl, by rw [Hs.out, Hd.out, hy.out]⟩
        case measure => simp [intOf]; omega
      | false =>
        have hy := Lib.hid (sumFrom_no (r := l.drop (k + 1)) hb)
        go_wp2_with (go_at_call 9; (with_reducible refine (add_calls _ _ _).mono ?_); rintro e w' ⟨rfl, rfl⟩; unfold retIB)
        go_ret2
        exact ⟨by rw [Hs.out, Hd.out, hy.out]; rfl, rfl⟩
    · have hd := Lib.hid (List.drop_of_length_le (show l.length ≤ k by omega))
      go_wp2
      go_ret2
      exact ⟨by rw [Hs.out, hd.out]; rfl, rfl⟩

set_option maxRecDepth 100000 in
set_option maxHeartbeats 400000 in
theorem rsum_calls (a : Option Addr) (n c : Nat) (l : List Int) (w : World) (hr : Rd w 1 a n (ints l)) (hn : n ≤ 1000) :
    Calls Try.prog 20 #[.slice a n c] w fun e w' => e = retIB (sumFrom 0 l) ∧ w = w' := by
  have hl : l.length = n := by have := hr.1; simpa [ints] using this
  go_enter Try.func20, Try.ntmps20
  go_wp2
  go_loop [4, 10] (fun s i => ∃ (k : Nat) (acc : Int), k ≤ n ∧ i = .int .i64 k ∧ s = .int .i64 acc ∧ sumFrom 0 l = sumFrom acc (l.drop k)) (fun _ i => n - (intOf i).toNat)
  case atStart => exact ⟨0, 0, Nat.zero_le _, rfl, rfl, rfl⟩
  case round =>
    obtain ⟨k, acc, hk, rfl, rfl, hs⟩ := hrel
    have Hs := Lib.hid hs
    clear hs
    by_cases hlt : k < n
    · obtain ⟨ad, u, rfl, hu, hc⟩ := hr.at1 hlt
      obtain ⟨x, rfl, hd⟩ := drop_at hu
      have Hd := Lib.hid hd
      clear hd hu
      cases hb : (addS acc x).2 with
      | true =>
        have hy := Lib.hid (sumFrom_yes (r := l.drop (k + 1)) hb)
        go_wp2_with (go_at_call 17; (with_reducible refine (radd_calls _ _ _).mono ?_); rintro e w' ⟨rfl, rfl⟩; unfold retIB)
        go_round
        case rel => exact ⟨k + 1, _, by omega, by go_num, rfl, by rw [Hs.out, Hd.out, hy.out]⟩
        case measure => simp [intOf]; omega
      | false =>
        have hy := Lib.hid (sumFrom_no (r := l.drop (k + 1)) hb)
        go_wp2_with (go_at_call 17; (with_reducible refine (radd_calls _ _ _).mono ?_); rintro e w' ⟨rfl, rfl⟩; unfold retIB)
        go_ret2
        exact ⟨by rw [Hs.out, Hd.out, hy.out]; rfl, rfl⟩
    · have hd := Lib.hid (List.drop_of_length_le (show l.length ≤ k by omega))
      go_wp2
      go_ret2
      exact ⟨by rw [Hs.out, hd.out]; rfl, rfl⟩

theorem signI_neg {n : Int} (h : n < 0) : signI n = -1 := by simp [signI, h]
theorem signI_pos {n : Int} (h : 0 < n) : signI n = 1 := by unfold signI; rw [if_neg (by omega), if_pos h]
theorem signI_zero {n : Int} (h : n = 0) : signI n = 0 := by subst h; rfl

set_option maxRecDepth 100000 in
set_option maxHeartbeats 400000 in
theorem sign_calls (n : Int) (w : World) :
    Calls Try.prog 21 #[.int .i64 n] w fun e w' => e = .returned (.int .i64 (signI n)) ∧ w = w' := by
  by_cases h : n < 0
  · have e := Lib.hid (signI_neg h)
    go_enter Try.func21, Try.ntmps21
    go_wp2
    go_ret
    exact ⟨by rw [e.out]; rfl, rfl⟩
  · by_cases h' : 0 < n
    · have e := Lib.hid (signI_pos h')
      go_enter Try.func21, Try.ntmps21
      go_wp2
      go_ret
      exact ⟨by rw [e.out]; rfl, rfl⟩
    · have e := Lib.hid (signI_zero (show n = 0 by omega))
      have h2 : n ≤ 0 := by omega
      go_enter Try.func21, Try.ntmps21
      go_wp2
      go_ret
      exact ⟨by rw [e.out]; rfl, rfl⟩

set_option maxRecDepth 100000 in
set_option maxHeartbeats 400000 in
theorem wakes_calls (w : World) :
    Calls Try.prog 11 #[] w fun e w' => e = .returned (.bool true) ∧ w = w' := by
  have e1 : mulS 1000000 1000001 = (0, false) := by decide
  have e2 : mulS 1000000 1000000 = (1000000000000, true) := by decide
  go_enter Try.func11, Try.ntmps11
  go_wp2_with (go_at_call 10; (with_reducible refine (mul_calls _ _ _).mono ?_); rintro e w' ⟨rfl, rfl⟩; unfold retIB)
  go_ret
  exact ⟨rfl, rfl⟩

theorem rng (x : Int) : -9223372036854775808 ≤ wrap64 x ∧ wrap64 x ≤ 9223372036854775807 := by unfold wrap64; omega
theorem addS_comm (a b : Int) : addS b a = addS a b := by unfold addS; rw [Int.add_comm b a]; by_cases h1 : Vd a = true <;> by_cases h2 : Vd b = true <;> simp [h1, h2]
theorem mulS_comm (a b : Int) : mulS b a = mulS a b := by unfold mulS; rw [Int.mul_comm b a]; by_cases h1 : Vd a = true <;> by_cases h2 : Vd b = true <;> simp [h1, h2]
theorem addS_ok {a b : Int} (h : (addS a b).2 = true) : Vd a = true ∧ Vd b = true ∧ Vd (a + b) = true ∧ addS a b = (a + b, true) := by
  unfold addS at h ⊢
  split at h
  · rename_i hc
    rw [if_pos hc]
    exact ⟨hc.1, hc.2.1, hc.2.2, rfl⟩
  · cases h
theorem mulS_ok {a b : Int} (h : (mulS a b).2 = true) : Vd a = true ∧ Vd b = true ∧ Vd (a * b) = true ∧ mulS a b = (a * b, true) := by
  unfold mulS at h ⊢
  split at h
  · rename_i hc
    rw [if_pos hc]
    exact ⟨hc.1, hc.2.1, hc.2.2, rfl⟩
  · cases h
theorem addS_no {a b : Int} (h : (addS a b).2 = false) : addS a b = (0, false) := by
  unfold addS at h ⊢
  split at h
  · cases h
  · rw [if_neg (by assumption)]
theorem mulS_no {a b : Int} (h : (mulS a b).2 = false) : mulS a b = (0, false) := by
  unfold mulS at h ⊢
  split at h
  · cases h
  · rw [if_neg (by assumption)]

theorem tdiv_rng (v k : Int) (h1 : -9223372036854775808 ≤ v) (h2 : v ≤ 9223372036854775807) (hk : 1 ≤ k) : -9223372036854775808 ≤ v.tdiv k ∧ v.tdiv k ≤ 9223372036854775807 := by
  have e : (v.tdiv k).natAbs = v.natAbs / k.natAbs := Int.natAbs_tdiv v k
  have h : v.natAbs / k.natAbs ≤ v.natAbs := Nat.div_le_self _ _
  generalize v.natAbs / k.natAbs = q at e h
  generalize hx : v.tdiv k = x at e
  rcases Int.lt_or_le 0 v with h0 | h0
  · have := Int.tdiv_nonneg (a := v) (b := k) (by omega) (by omega)
    omega
  · have h3 := Int.tdiv_nonneg (a := -v) (b := k) (by omega) (by omega)
    rw [Int.neg_tdiv] at h3
    omega

theorem signI_rng (n : Int) : -1 ≤ signI n ∧ signI n ≤ 1 := by
  rcases Int.lt_or_le n 0 with h | h
  · rw [signI_neg h]; omega
  · by_cases h' : 0 < n
    · rw [signI_pos h']; omega
    · rw [signI_zero (by omega)]; omega
theorem signI_mul (a b : Int) : signI (a * b) = signI a * signI b := by
  rcases Int.lt_trichotomy a 0 with h | h | h <;> rcases Int.lt_trichotomy b 0 with h' | h' | h'
  · rw [signI_neg h, signI_neg h', signI_pos (Int.mul_pos_of_neg_of_neg h h')]; rfl
  · subst h'; simp [signI]
  · rw [signI_neg h, signI_pos h', signI_neg (Int.mul_neg_of_neg_of_pos h h')]; rfl
  · subst h; simp [signI]
  · subst h; simp [signI]
  · subst h; simp [signI]
  · rw [signI_pos h, signI_neg h', signI_neg (Int.mul_neg_of_pos_of_neg h h')]; rfl
  · subst h'; simp [signI]
  · rw [signI_pos h, signI_pos h', signI_pos (Int.mul_pos h h')]; rfl
theorem signI_opp (a : Int) : signI (-a) = - signI a := by
  rcases Int.lt_trichotomy a 0 with h | h | h
  · rw [signI_neg h, signI_pos (by omega)]; rfl
  · subst h; rfl
  · rw [signI_pos h, signI_neg (by omega)]
theorem sumFrom_one {a : Int} (h : Vd a = false) : sumFrom 0 [a] = (0, false) := sumFrom_no (by rw [addS_r h])

def stepS (p : Int × Bool) (x : Int) : Int × Bool := if p.2 = true then addS p.1 x else p
theorem stepS_no (x : Int) : ∀ {p : Int × Bool}, p.2 = false → stepS p x = p := fun h => by unfold stepS; rw [if_neg (by rw [h]; decide)]
theorem stepS_yes (x : Int) : ∀ {p : Int × Bool}, p.2 = true → stepS p x = addS p.1 x := fun h => by unfold stepS; rw [if_pos h]
theorem foldl_no (l : List Int) : ∀ p : Int × Bool, p.2 = false → l.foldl stepS p = p := by
  induction l with
  | nil => intro p _; rfl
  | cons x r ih => intro p h; rw [List.foldl_cons, stepS_no x h, ih p h]
theorem sumFrom_fold (l : List Int) : ∀ n, sumFrom n l = l.foldl stepS (n, true) := by
  induction l with
  | nil => intro n; rfl
  | cons x r ih =>
    intro n
    rw [List.foldl_cons, stepS_yes x rfl]
    cases h : (addS n x).2 with
    | true =>
      rw [sumFrom_yes h, ih]
      congr 1
      rw [← h]
    | false => rw [sumFrom_no h, foldl_no _ _ h, addS_no h]
theorem sumFrom_cut (l : List Int) (k : Nat) : sumFrom 0 l = (l.drop k).foldl stepS (sumFrom 0 (l.take k)) := by
  rw [sumFrom_fold (l.take k), ← List.foldl_append, List.take_append_drop, sumFrom_fold]
theorem sumFrom_zero (l : List Int) : ∀ n, (sumFrom n l).2 = false → (sumFrom n l).1 = 0 := by
  induction l with
  | nil => intro n h; cases h
  | cons x r ih =>
    intro n h
    cases hb : (addS n x).2 with
    | true => rw [sumFrom_yes hb] at h ⊢; exact ih _ h
    | false => rw [sumFrom_no hb]
theorem ints_set (l : List Int) (k : Nat) (x : Int) : (ints l).set k (.int .i64 x) = ints (l.set k x) := by simp [ints, List.map_set]
theorem mem_set {l : List Int} {k : Nat} {x y : Int} (h : y ∈ l.set k x) : y = x ∨ y ∈ l := (List.mem_or_eq_of_mem_set h).symm

def Rng (l : List Int) : Prop := ∀ x ∈ l, -9223372036854775808 ≤ x ∧ x ≤ 9223372036854775807
theorem Rng.set {l : List Int} (h : Rng l) {k : Nat} {x : Int} (h1 : -9223372036854775808 ≤ x) (h2 : x ≤ 9223372036854775807) : Rng (l.set k x) := by
  intro y hy
  rcases mem_set hy with rfl | hy
  · exact ⟨h1, h2⟩
  · exact h y hy
theorem Rng.at {l : List Int} (h : Rng l) {k : Nat} {u : Value} (hu : (ints l)[k]? = some u) : ∃ x, u = .int .i64 x ∧ -9223372036854775808 ≤ x ∧ x ≤ 9223372036854775807 := by
  simp only [ints, List.getElem?_map] at hu
  cases hx : l[k]? with
  | none => rw [hx] at hu; cases hu
  | some x =>
    rw [hx] at hu
    have := h x (List.mem_of_getElem? hx)
    exact ⟨x, by simpa using hu.symm, this.1, this.2⟩

end Go.Proofs.Ytnlkfdbmedklaaa
