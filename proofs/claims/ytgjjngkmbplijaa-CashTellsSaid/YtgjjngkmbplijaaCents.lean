/- Contracts of package cents, and of the document's answer on amounts (handfastref01), over the loaded program. -/
import Derived.Test.YtgjjngkmbplijaaBase
namespace Go.Proofs.Ytgjjngkmbplijaa
open Go.RowKit
set_option linter.unusedSimpArgs false
set_option linter.unusedVariables false

/-- The bound of an amount. -/
def Vd (n : Int) : Bool := decide (-1000000000000 ≤ n ∧ n ≤ 1000000000000)
theorem Vd_iff (n : Int) : Vd n = true ↔ (-1000000000000 ≤ n ∧ n ≤ 1000000000000) := by unfold Vd; simp
theorem Vd_false (n : Int) : Vd n = false ↔ ¬ (-1000000000000 ≤ n ∧ n ≤ 1000000000000) := by unfold Vd; simp
/-- The sum, the product, the other sign, as the document has them. -/
def addS (a b : Int) : Int × Bool := if Vd a = true ∧ Vd b = true ∧ Vd (a + b) = true then (a + b, true) else (0, false)
def mulS (a b : Int) : Int × Bool := if Vd a = true ∧ Vd b = true ∧ Vd (a * b) = true then (a * b, true) else (0, false)
def toldS (n : Int) (ok : Bool) : Int × Bool := if ok = true ∧ Vd n = true then (n, true) else (0, false)
def negS (a : Int) : Int × Bool := if Vd a = true then (-a, true) else (0, false)
theorem toldS_no {n : Int} : toldS n false = (0, false) := by simp [toldS]
theorem toldS_bad {n : Int} {ok : Bool} (h : Vd n = false) : toldS n ok = (0, false) := by simp [toldS, h]
theorem toldS_yes {n : Int} (h : Vd n = true) : toldS n true = (n, true) := by simp [toldS, h]
theorem addS_l {a b : Int} (h : Vd a = false) : addS a b = (0, false) := by simp [addS, h]
theorem addS_r {a b : Int} (h : Vd b = false) : addS a b = (0, false) := by simp [addS, h]
theorem addS_t {a b : Int} (h : Vd a = true) (h' : Vd b = true) : addS a b = toldS (a + b) true := by simp [addS, toldS, h, h']
theorem mulS_l {a b : Int} (h : Vd a = false) : mulS a b = (0, false) := by simp [mulS, h]
theorem mulS_r {a b : Int} (h : Vd b = false) : mulS a b = (0, false) := by simp [mulS, h]
theorem mulS_t {a b : Int} (h : Vd a = true) (h' : Vd b = true) : mulS a b = toldS (a * b) true := by simp [mulS, toldS, h, h']
theorem mulS_o {a b : Int} (h : Vd (a * b) = false) : mulS a b = (0, false) := by simp [mulS, h]
theorem negS_no {a : Int} (h : Vd a = false) : negS a = (0, false) := by simp [negS, h]
theorem negS_yes {a : Int} (h : Vd a = true) : negS a = (-a, true) := by simp [negS, h]
/-- A pair of a number and a bool, as it is returned. -/
def retIB (p : Int × Bool) : Ending := .returned (.tuple #[.int .i64 p.1, .bool p.2])

theorem ret_ib {k : IntKind} {a b : Int} {c d : Bool} (h : a = b) (h' : c = d) : Ending.returned (.tuple #[.int k a, .bool c]) = .returned (.tuple #[.int k b, .bool d]) := by rw [h, h']

set_option maxRecDepth 100000 in
set_option maxHeartbeats 400000 in
theorem valid_calls (n : Int) (w : World) :
    Calls Try.prog 91 #[.int .i64 n] w fun e w' => e = .returned (.bool (Vd n)) ∧ w = w' := by
  by_cases h : -1000000000000 ≤ n
  · by_cases h2 : n ≤ 1000000000000
    · have hv : Vd n = true := (Vd_iff n).2 ⟨h, h2⟩
      go_enter Try.func91, Try.ntmps91
      go_wp2
      go_ret
      exact ⟨by simp [hv], rfl⟩
    · have hv : Vd n = false := (Vd_false n).2 (by omega)
      go_enter Try.func91, Try.ntmps91
      go_wp2
      go_ret
      exact ⟨by simp [hv], rfl⟩
  · have hv : Vd n = false := (Vd_false n).2 (by omega)
    go_enter Try.func91, Try.ntmps91
    go_wp2
    go_ret
    exact ⟨by simp [hv], rfl⟩

set_option maxRecDepth 100000 in
set_option maxHeartbeats 400000 in
theorem told_calls (n : Int) (ok : Bool) (w : World) :
    Calls Try.prog 113 #[.int .i64 n, .bool ok] w fun e w' => e = retIB (toldS n ok) ∧ w = w' := by
  cases ok with
  | false =>
    go_enter Try.func113, Try.ntmps113
    go_wp2
    go_ret2
    exact ⟨by rw [toldS_no]; rfl, rfl⟩
  | true =>
    cases hv : Vd n with
    | false =>
      go_enter Try.func113, Try.ntmps113
      go_wp2_with (go_at_call 91; (with_reducible refine (valid_calls _ _).mono ?_); rintro e w' ⟨rfl, rfl⟩)
      go_ret2
      exact ⟨by rw [toldS_bad hv]; rfl, rfl⟩
    | true =>
      go_enter Try.func113, Try.ntmps113
      go_wp2_with (go_at_call 91; (with_reducible refine (valid_calls _ _).mono ?_); rintro e w' ⟨rfl, rfl⟩)
      go_ret2
      exact ⟨by rw [toldS_yes hv]; rfl, rfl⟩

set_option maxRecDepth 100000 in
set_option maxHeartbeats 400000 in
theorem add_calls (a b : Int) (w : World) :
    Calls Try.prog 72 #[.int .i64 a, .int .i64 b] w fun e w' => e = retIB (addS a b) ∧ w = w' := by
  cases ha : Vd a with
  | false =>
    go_enter Try.func72, Try.ntmps72
    go_wp2_with (go_at_call 91; (with_reducible refine (valid_calls _ _).mono ?_); rintro e w' ⟨rfl, rfl⟩)
    go_ret2
    exact ⟨by rw [addS_l ha]; rfl, rfl⟩
  | true =>
    cases hb : Vd b with
    | false =>
      go_enter Try.func72, Try.ntmps72
      go_wp2_with (go_at_call 91; (with_reducible refine (valid_calls _ _).mono ?_); rintro e w' ⟨rfl, rfl⟩)
      go_ret2
      exact ⟨by rw [addS_r hb]; rfl, rfl⟩
    | true =>
      have h1 := (Vd_iff a).1 ha
      have h2 := (Vd_iff b).1 hb
      go_enter Try.func72, Try.ntmps72
      go_wp2_with (first | (go_at_call 91; (with_reducible refine (valid_calls _ _).mono ?_); rintro e w' ⟨rfl, rfl⟩) | (go_at_call 113; (with_reducible refine (told_calls _ _ _).mono ?_); rintro e w' ⟨rfl, rfl⟩; unfold retIB))
      go_ret2
      exact ⟨by rw [addS_t ha hb]; rfl, rfl⟩

/-- A number without its sign. -/
def absI (n : Int) : Int := n.natAbs
theorem absI_pos {n : Int} (h : 0 ≤ n) : absI n = n := by unfold absI; omega
theorem absI_neg {n : Int} (h : n ≤ 0) : absI n = -n := by unfold absI; omega
theorem absI_nonneg (n : Int) : 0 ≤ absI n := by unfold absI; omega
theorem Vd_abs {n : Int} (h : Vd n = true) : 0 ≤ absI n ∧ absI n ≤ 1000000000000 := by
  have := (Vd_iff n).1 h
  unfold absI; omega
theorem Vd_mul (a b : Int) : Vd (a * b) = true ↔ absI a * absI b ≤ 1000000000000 := by
  rw [Vd_iff]
  have h : ((a * b).natAbs : Int) = (a.natAbs : Int) * (b.natAbs : Int) := by rw [Int.natAbs_mul]; simp
  unfold absI
  omega

set_option maxRecDepth 100000 in
set_option maxHeartbeats 400000 in
theorem size_calls (n : Int) (w : World) (h : Vd n = true) :
    Calls Try.prog 151 #[.int .i64 n] w fun e w' => e = .returned (.int .i64 (absI n)) ∧ w = w' := by
  have h1 := (Vd_iff n).1 h
  have a1 := h1.1
  have a2 := h1.2
  clear h1 h
  by_cases h0 : 0 ≤ n
  · have e1 := Lib.hid (absI_pos h0)
    go_enter Try.func151, Try.ntmps151
    go_wp2
    go_ret
    exact ⟨ret_int (by rw [e1.out]), rfl⟩
  · have e1 := Lib.hid (absI_neg (n := n) (by omega))
    go_enter Try.func151, Try.ntmps151
    go_wp2
    go_ret
    exact ⟨ret_int (by rw [e1.out]), rfl⟩

theorem quo_le (a b : Int) (hb : 0 < absI b) : (absI a ≤ 1000000000000 / absI b) ↔ Vd (a * b) = true := by
  rw [Vd_mul]
  exact Int.le_ediv_iff_mul_le hb

set_option maxRecDepth 100000 in
set_option maxHeartbeats 400000 in
theorem mul_calls (a b : Int) (w : World) :
    Calls Try.prog 137 #[.int .i64 a, .int .i64 b] w fun e w' => e = retIB (mulS a b) ∧ w = w' := by
  cases ha : Vd a with
  | false =>
    go_enter Try.func137, Try.ntmps137
    go_wp2_with (go_at_call 91; (with_reducible refine (valid_calls _ _).mono ?_); rintro e w' ⟨rfl, rfl⟩)
    go_ret2
    exact ⟨by rw [mulS_l ha]; rfl, rfl⟩
  | true =>
    cases hb : Vd b with
    | false =>
      go_enter Try.func137, Try.ntmps137
      go_wp2_with (go_at_call 91; (with_reducible refine (valid_calls _ _).mono ?_); rintro e w' ⟨rfl, rfl⟩)
      go_ret2
      exact ⟨by rw [mulS_r hb]; rfl, rfl⟩
    | true =>
      have h1 := (Vd_iff a).1 ha
      have h2 := (Vd_iff b).1 hb
      have a1 := h1.1
      have a2 := h1.2
      have b1 := h2.1
      have b2 := h2.2
      clear h1 h2
      by_cases h0 : b = 0
      · subst h0
        have e1 := Lib.hid (mulS_t ha hb)
        have e0 : a * 0 = 0 := Int.mul_zero a
        rw [e0] at e1
        have hf : ((0 : Int) != 0) = false := by decide
        go_enter Try.func137, Try.ntmps137
        go_wp2_with (first | (go_at_call 91; (with_reducible refine (valid_calls _ _).mono ?_); rintro e w' ⟨rfl, rfl⟩) | (go_at_call 113; (with_reducible refine (told_calls _ _ _).mono ?_); rintro e w' ⟨rfl, rfl⟩; unfold retIB))
        go_ret2
        exact ⟨by rw [e1.out]; rfl, rfl⟩
      · have hp : 0 < absI b := by unfold absI; omega
        have hab := Vd_abs hb
        have haa := Vd_abs ha
        have q1 : (0 : Int) ≤ 1000000000000 / absI b := Int.ediv_nonneg (by omega) (by omega)
        have q2 : (1000000000000 : Int) / absI b ≤ 1000000000000 := Int.ediv_le_self _ (by omega)
        have p1 := hab.2
        have p2 := haa.1
        have p3 := haa.2
        have key := quo_le a b hp
        have hf : (b != 0) = true := by simpa using h0
        clear hab haa
        cases hk : Vd (a * b) with
        | false =>
          have e1 := Lib.hid (mulS_o hk)
          have hgt : decide (1000000000000 / absI b < absI a) = true := by
            simp only [decide_eq_true_eq]
            rw [hk] at key
            simp at key
            exact key
          have K := Lib.hid key
          clear key hk
          go_enter Try.func137, Try.ntmps137
          go_wp2_with (first | (go_at_call 91; (with_reducible refine (valid_calls _ _).mono ?_); rintro e w' ⟨rfl, rfl⟩) | (go_at_call 151; (with_reducible refine (size_calls _ _ (by assumption)).mono ?_); rintro e w' ⟨rfl, rfl⟩))
          go_ret2
          exact ⟨by rw [e1.out]; rfl, rfl⟩
        | true =>
          have e1 := Lib.hid (mulS_t ha hb)
          have hgt : decide (1000000000000 / absI b < absI a) = false := by
            simp only [decide_eq_false_iff_not]
            have := key.2 hk
            omega
          have hm := (Vd_iff _).1 hk
          have m1 := hm.1
          have m2 := hm.2
          have K := Lib.hid key
          clear key hk hm
          go_enter Try.func137, Try.ntmps137
          go_wp2_with (first | (go_at_call 91; (with_reducible refine (valid_calls _ _).mono ?_); rintro e w' ⟨rfl, rfl⟩) | (go_at_call 151; (with_reducible refine (size_calls _ _ (by assumption)).mono ?_); rintro e w' ⟨rfl, rfl⟩) | (go_at_call 113; (with_reducible refine (told_calls _ _ _).mono ?_); rintro e w' ⟨rfl, rfl⟩; unfold retIB))
          go_ret2
          exact ⟨by rw [e1.out]; rfl, rfl⟩

set_option maxRecDepth 100000 in
set_option maxHeartbeats 400000 in
theorem neg_calls (a : Int) (w : World) :
    Calls Try.prog 140 #[.int .i64 a] w fun e w' => e = retIB (negS a) ∧ w = w' := by
  cases ha : Vd a with
  | false =>
    go_enter Try.func140, Try.ntmps140
    go_wp2_with (go_at_call 91; (with_reducible refine (valid_calls _ _).mono ?_); rintro e w' ⟨rfl, rfl⟩)
    go_ret2
    exact ⟨by rw [negS_no ha]; rfl, rfl⟩
  | true =>
    have h1 := (Vd_iff a).1 ha
    have a1 := h1.1
    have a2 := h1.2
    clear h1
    go_enter Try.func140, Try.ntmps140
    go_wp2_with (go_at_call 91; (with_reducible refine (valid_calls _ _).mono ?_); rintro e w' ⟨rfl, rfl⟩)
    go_ret2
    exact ⟨by rw [negS_yes ha]; rfl, rfl⟩

theorem within_lo (v n : Int) (hn : 1 ≤ n) : 0 ≤ v % n := Int.emod_nonneg v (by omega)
theorem within_hi (v n : Int) (hn : 1 ≤ n) : v % n < n := Int.emod_lt_of_pos v (by omega)
theorem tmod_lo (v n : Int) (hn : 1 ≤ n) : - n < v.tmod n ∧ v.tmod n < n := by
  have h1 := Int.emod_nonneg v (b := n) (by omega)
  have h2 := Int.emod_lt_of_pos v (b := n) (by omega)
  have e := Int.tmod_eq_emod (a := v) (b := n)
  have hn' : (n.natAbs : Int) = n := by omega
  split at e <;> omega
theorem tmod_neg (v n : Int) (hn : 1 ≤ n) (h : v.tmod n < 0) : v.tmod n + n = v % n := by
  have h1 := Int.emod_nonneg v (b := n) (by omega)
  have e := Int.tmod_eq_emod (a := v) (b := n)
  have hn' : (n.natAbs : Int) = n := by omega
  split at e <;> omega
theorem tmod_pos (v n : Int) (hn : 1 ≤ n) (h : 0 ≤ v.tmod n) : v.tmod n = v % n := by
  have h1 := Int.emod_nonneg v (b := n) (by omega)
  have h2 := Int.emod_lt_of_pos v (b := n) (by omega)
  have e := Int.tmod_eq_emod (a := v) (b := n)
  have hn' : (n.natAbs : Int) = n := by omega
  split at e <;> omega

set_option maxRecDepth 100000 in
set_option maxHeartbeats 400000 in
theorem within_calls (v n : Int) (w : World) (hn : 1 ≤ n) (hn' : n ≤ 4000000000000) (v1 : -9223372036854775808 ≤ v) (v2 : v ≤ 9223372036854775807) :
    Calls Try.prog 34 #[.int .i64 v, .int .i64 n] w fun e w' => e = .returned (.int .i64 (v % n)) ∧ w = w' := by
  have hb := tmod_lo v n hn
  have b1 := hb.1
  have b2 := hb.2
  clear hb
  by_cases h0 : v.tmod n < 0
  · have e1 := Lib.hid (tmod_neg v n hn h0)
    go_enter Try.func34, Try.ntmps34
    go_wp2
    go_ret
    exact ⟨ret_int e1.out, rfl⟩
  · have e1 := Lib.hid (tmod_pos v n hn (by omega))
    go_enter Try.func34, Try.ntmps34
    go_wp2
    go_ret
    exact ⟨ret_int e1.out, rfl⟩

def signI (n : Int) : Int := if n < 0 then -1 else if 0 < n then 1 else 0

set_option maxRecDepth 100000 in
set_option maxHeartbeats 400000 in
theorem rvalid_calls (n : Int) (w : World) :
    Calls Try.prog 127 #[.int .i64 n] w fun e w' => e = .returned (.bool (Vd n)) ∧ w = w' := by
  by_cases h : -1000000000000 ≤ n
  · by_cases h2 : n ≤ 1000000000000
    · have hv : Vd n = true := (Vd_iff n).2 ⟨h, h2⟩
      go_enter Try.func127, Try.ntmps127
      go_wp2
      go_ret
      exact ⟨by simp [hv], rfl⟩
    · have hv : Vd n = false := (Vd_false n).2 (by omega)
      go_enter Try.func127, Try.ntmps127
      go_wp2
      go_ret
      exact ⟨by simp [hv], rfl⟩
  · have hv : Vd n = false := (Vd_false n).2 (by omega)
    go_enter Try.func127, Try.ntmps127
    go_wp2
    go_ret
    exact ⟨by simp [hv], rfl⟩

set_option maxRecDepth 100000 in
set_option maxHeartbeats 400000 in
theorem radd_calls (a b : Int) (w : World) :
    Calls Try.prog 111 #[.int .i64 a, .int .i64 b] w fun e w' => e = retIB (addS a b) ∧ w = w' := by
  cases ha : Vd a with
  | false =>
    go_enter Try.func111, Try.ntmps111
    go_wp2_with (go_at_call 127; (with_reducible refine (rvalid_calls _ _).mono ?_); rintro e w' ⟨rfl, rfl⟩)
    go_ret2
    exact ⟨by rw [addS_l ha]; rfl, rfl⟩
  | true =>
    cases hb : Vd b with
    | false =>
      go_enter Try.func111, Try.ntmps111
      go_wp2_with (go_at_call 127; (with_reducible refine (rvalid_calls _ _).mono ?_); rintro e w' ⟨rfl, rfl⟩)
      go_ret2
      exact ⟨by rw [addS_r hb]; rfl, rfl⟩
    | true =>
      have h1 := (Vd_iff a).1 ha
      have h2 := (Vd_iff b).1 hb
      have a1 := h1.1
      have a2 := h1.2
      have b1 := h2.1
      have b2 := h2.2
      have e1 := Lib.hid (addS_t ha hb)
      clear h1 h2
      cases hk : Vd (a + b) with
      | false =>
        have e2 := Lib.hid (toldS_bad (ok := true) hk)
        go_enter Try.func111, Try.ntmps111
        go_wp2_with (go_at_call 127; (with_reducible refine (rvalid_calls _ _).mono ?_); rintro e w' ⟨rfl, rfl⟩)
        go_ret2
        exact ⟨by rw [e1.out, e2.out]; rfl, rfl⟩
      | true =>
        have e2 := Lib.hid (toldS_yes hk)
        go_enter Try.func111, Try.ntmps111
        go_wp2_with (go_at_call 127; (with_reducible refine (rvalid_calls _ _).mono ?_); rintro e w' ⟨rfl, rfl⟩)
        go_ret2
        exact ⟨by rw [e1.out, e2.out]; rfl, rfl⟩

theorem ltge (a : Int) : a < 0 ∨ 0 ≤ a := by omega
set_option maxRecDepth 100000 in
set_option maxHeartbeats 400000 in
theorem rmul_calls (a b : Int) (w : World) :
    Calls Try.prog 112 #[.int .i64 a, .int .i64 b] w fun e w' => e = retIB (mulS a b) ∧ w = w' := by
  cases ha : Vd a with
  | false =>
    go_enter Try.func112, Try.ntmps112
    go_wp2_with (go_at_call 127; (with_reducible refine (rvalid_calls _ _).mono ?_); rintro e w' ⟨rfl, rfl⟩)
    go_ret2
    exact ⟨by rw [mulS_l ha]; rfl, rfl⟩
  | true =>
    cases hb : Vd b with
    | false =>
      go_enter Try.func112, Try.ntmps112
      go_wp2_with (go_at_call 127; (with_reducible refine (rvalid_calls _ _).mono ?_); rintro e w' ⟨rfl, rfl⟩)
      go_ret2
      exact ⟨by rw [mulS_r hb]; rfl, rfl⟩
    | true =>
      have h1 := (Vd_iff a).1 ha
      have h2 := (Vd_iff b).1 hb
      have a1 := h1.1
      have a2 := h1.2
      have b1 := h2.1
      have b2 := h2.2
      clear h1 h2
      by_cases h0 : a = 0
      · subst h0
        have e0 : 0 * b = 0 := Int.zero_mul b
        have e1 : mulS 0 b = (0, true) := by rw [mulS_t ha hb, e0, toldS_yes ha]
        have E1 := Lib.hid e1
        clear e1
        have hf : ((0 : Int) != 0) = false := by decide
        go_enter Try.func112, Try.ntmps112
        go_wp2_with (go_at_call 127; (with_reducible refine (rvalid_calls _ _).mono ?_); rintro e w' ⟨rfl, rfl⟩)
        go_ret2
        exact ⟨by rw [E1.out]; rfl, rfl⟩
      · have hf : (a != 0) = true := by simpa using h0
        have hp : 0 < absI a := by unfold absI; omega
        have key : (absI b ≤ 1000000000000 / absI a) ↔ Vd (a * b) = true := by rw [Int.mul_comm]; exact quo_le b a hp
        have q2 : (1000000000000 : Int) / absI a ≤ 1000000000000 := Int.ediv_le_self _ (by omega)
        have q1 : (0 : Int) ≤ 1000000000000 / absI a := Int.ediv_nonneg (by omega) (by omega)
        cases hk : Vd (a * b) with
        | false =>
          have e1 := Lib.hid (mulS_o hk)
          have hgt : 1000000000000 / absI a < absI b := by
            rw [hk] at key
            simp at key
            exact key
          clear key hk
          rcases ltge a with hA | hA <;> rcases ltge b with hB | hB
          · obtain ⟨c, rfl⟩ : ∃ c, a = -c := ⟨-a, by omega⟩
            have c0 : 0 < c := by omega
            have ea : absI (-c) = c := by unfold absI; omega
            have eb : absI b = -b := absI_neg (by omega)
            rw [ea] at q1 q2
            rw [ea, eb] at hgt
            have hg : decide (1000000000000 / c < -b) = true := by simpa using hgt
            clear ea eb hgt
            go_enter Try.func112, Try.ntmps112
            go_wp2_with (go_at_call 127; (with_reducible refine (rvalid_calls _ _).mono ?_); rintro e w' ⟨rfl, rfl⟩)
            go_ret2
            exact ⟨by rw [e1.out]; rfl, rfl⟩
          · obtain ⟨c, rfl⟩ : ∃ c, a = -c := ⟨-a, by omega⟩
            have c0 : 0 < c := by omega
            have ea : absI (-c) = c := by unfold absI; omega
            have eb : absI b = b := absI_pos (by omega)
            rw [ea] at q1 q2
            rw [ea, eb] at hgt
            have hg : decide (1000000000000 / c < b) = true := by simpa using hgt
            clear ea eb hgt
            go_enter Try.func112, Try.ntmps112
            go_wp2_with (go_at_call 127; (with_reducible refine (rvalid_calls _ _).mono ?_); rintro e w' ⟨rfl, rfl⟩)
            go_ret2
            exact ⟨by rw [e1.out]; rfl, rfl⟩
          · have ea : absI a = a := absI_pos (by omega)
            have eb : absI b = -b := absI_neg (by omega)
            rw [ea] at q1 q2
            rw [ea, eb] at hgt
            have hg : decide (1000000000000 / a < -b) = true := by simpa using hgt
            clear ea eb hgt
            go_enter Try.func112, Try.ntmps112
            go_wp2_with (go_at_call 127; (with_reducible refine (rvalid_calls _ _).mono ?_); rintro e w' ⟨rfl, rfl⟩)
            go_ret2
            exact ⟨by rw [e1.out]; rfl, rfl⟩
          · have ea : absI a = a := absI_pos (by omega)
            have eb : absI b = b := absI_pos (by omega)
            rw [ea] at q1 q2
            rw [ea, eb] at hgt
            have hg : decide (1000000000000 / a < b) = true := by simpa using hgt
            clear ea eb hgt
            go_enter Try.func112, Try.ntmps112
            go_wp2_with (go_at_call 127; (with_reducible refine (rvalid_calls _ _).mono ?_); rintro e w' ⟨rfl, rfl⟩)
            go_ret2
            exact ⟨by rw [e1.out]; rfl, rfl⟩
        | true =>
          have e1 : mulS a b = (a * b, true) := by rw [mulS_t ha hb, toldS_yes hk]
          have E1 := Lib.hid e1
          have hgt : ¬ 1000000000000 / absI a < absI b := by
            have := key.2 hk
            omega
          have hm := (Vd_iff _).1 hk
          have m1 := hm.1
          have m2 := hm.2
          clear key hk e1 hm
          rcases ltge a with hA | hA <;> rcases ltge b with hB | hB
          · obtain ⟨c, rfl⟩ : ∃ c, a = -c := ⟨-a, by omega⟩
            have c0 : 0 < c := by omega
            have ea : absI (-c) = c := by unfold absI; omega
            have eb : absI b = -b := absI_neg (by omega)
            rw [ea] at q1 q2
            rw [ea, eb] at hgt
            have hg : decide (1000000000000 / c < -b) = false := by simpa using hgt
            clear ea eb hgt
            go_enter Try.func112, Try.ntmps112
            go_wp2_with (go_at_call 127; (with_reducible refine (rvalid_calls _ _).mono ?_); rintro e w' ⟨rfl, rfl⟩)
            go_ret2
            exact ⟨by rw [E1.out]; rfl, rfl⟩
          · obtain ⟨c, rfl⟩ : ∃ c, a = -c := ⟨-a, by omega⟩
            have c0 : 0 < c := by omega
            have ea : absI (-c) = c := by unfold absI; omega
            have eb : absI b = b := absI_pos (by omega)
            rw [ea] at q1 q2
            rw [ea, eb] at hgt
            have hg : decide (1000000000000 / c < b) = false := by simpa using hgt
            clear ea eb hgt
            go_enter Try.func112, Try.ntmps112
            go_wp2_with (go_at_call 127; (with_reducible refine (rvalid_calls _ _).mono ?_); rintro e w' ⟨rfl, rfl⟩)
            go_ret2
            exact ⟨by rw [E1.out]; rfl, rfl⟩
          · have ea : absI a = a := absI_pos (by omega)
            have eb : absI b = -b := absI_neg (by omega)
            rw [ea] at q1 q2
            rw [ea, eb] at hgt
            have hg : decide (1000000000000 / a < -b) = false := by simpa using hgt
            clear ea eb hgt
            go_enter Try.func112, Try.ntmps112
            go_wp2_with (go_at_call 127; (with_reducible refine (rvalid_calls _ _).mono ?_); rintro e w' ⟨rfl, rfl⟩)
            go_ret2
            exact ⟨by rw [E1.out]; rfl, rfl⟩
          · have ea : absI a = a := absI_pos (by omega)
            have eb : absI b = b := absI_pos (by omega)
            rw [ea] at q1 q2
            rw [ea, eb] at hgt
            have hg : decide (1000000000000 / a < b) = false := by simpa using hgt
            clear ea eb hgt
            go_enter Try.func112, Try.ntmps112
            go_wp2_with (go_at_call 127; (with_reducible refine (rvalid_calls _ _).mono ?_); rintro e w' ⟨rfl, rfl⟩)
            go_ret2
            exact ⟨by rw [E1.out]; rfl, rfl⟩

end Go.Proofs.Ytgjjngkmbplijaa
