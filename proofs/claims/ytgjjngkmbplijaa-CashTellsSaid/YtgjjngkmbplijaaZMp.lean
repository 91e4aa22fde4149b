/- Texts put together: Runes, Map. -/
import Derived.Test.YtgjjngkmbplijaaBase
import Derived.Lib.OthersKept
import Derived.WalkSmall
/- Contracts of the functions on names: runes.Name, Letter, digit; the document's answer (handfastref01.Name, runes, Letter); handfastkeep.Text, Name. -/
namespace Go.Proofs.Ytgjjngkmbplijaa
open Go.RowKit
set_option linter.unusedSimpArgs false
set_option linter.unusedVariables false

/-- The runes of a text from a place on, as a range tells them. -/
def rl (s : ByteArray) : Nat → Nat → List Int
  | 0, _ => []
  | b + 1, pos => if pos < s.size then ((Utf8.decode s pos).1 : Int) :: rl s b (pos + (Utf8.decode s pos).2) else []
def runeL (s : ByteArray) : List Int := rl s s.size 0
theorem width_pos (s : ByteArray) (pos : Nat) (h : pos < s.size) : 1 ≤ (Utf8.decode s pos).2 := by
  by_cases ha : (s[pos]'h).toNat < 128
  · rw [decode_ascii s pos h ha]
    exact Nat.le_refl _
  · exact (decode_high s pos h (by omega)).2
theorem rl_end (s : ByteArray) (b pos : Nat) (h : ¬ pos < s.size) : rl s b pos = [] := by
  cases b with
  | zero => rfl
  | succ b => simp [rl, h]
theorem rl_step (s : ByteArray) (b pos : Nat) (h : pos < s.size) (hb : s.size ≤ pos + b) :
    ∃ b', rl s b pos = ((Utf8.decode s pos).1 : Int) :: rl s b' (pos + (Utf8.decode s pos).2) ∧ s.size ≤ pos + (Utf8.decode s pos).2 + b' := by
  cases b with
  | zero => omega
  | succ b =>
    refine ⟨b, by rw [rl, if_pos h], ?_⟩
    have := width_pos s pos h
    omega
theorem rl_len (s : ByteArray) : ∀ b pos, (rl s b pos).length ≤ b := by
  intro b
  induction b with
  | zero => intro pos; simp [rl]
  | succ b ih =>
    intro pos
    rw [rl]
    split
    · have := ih (pos + (Utf8.decode s pos).2)
      simp only [List.length_cons]
      omega
    · simp
theorem runeL_len (s : ByteArray) : (runeL s).length ≤ s.size := rl_len s _ _

def digB (r : Int) : Bool := decide (48 ≤ r ∧ r ≤ 57)
def letB (r : Int) : Bool := decide ((97 ≤ r ∧ r ≤ 122) ∨ (48 ≤ r ∧ r ≤ 57) ∨ r = 95 ∨ (128 ≤ r ∧ r ≠ 65533))
theorem digB_iff (r : Int) : digB r = true ↔ (48 ≤ r ∧ r ≤ 57) := by unfold digB; simp
theorem letB_iff (r : Int) : letB r = true ↔ ((97 ≤ r ∧ r ≤ 122) ∨ (48 ≤ r ∧ r ≤ 57) ∨ r = 95 ∨ (128 ≤ r ∧ r ≠ 65533)) := by unfold letB; simp
/-- A name, rune by rune: n of them are behind us. -/
def nameFrom : Nat → List Int → Bool
  | n, [] => decide (0 < n)
  | n, r :: t => if letB r = true ∧ ¬ (n = 0 ∧ digB r = true) ∧ n + 1 ≤ 12 then nameFrom (n + 1) t else false
def isName (s : ByteArray) : Bool := nameFrom 0 (runeL s)

theorem bool_of {b : Bool} {p : Prop} [Decidable p] (h : b = true ↔ p) (hp : p) : b = true := h.2 hp
theorem bool_no {b : Bool} {p : Prop} (h : b = true ↔ p) (hp : ¬ p) : b = false := by cases b with | false => rfl | true => exact absurd (h.1 rfl) hp

set_option maxRecDepth 100000 in
set_option maxHeartbeats 400000 in
theorem digit_calls (r : Int) (w : World) :
    Calls Try.prog 124 #[.int .i32 r] w fun e w' => e = .returned (.bool (digB r)) ∧ w = w' := by
  by_cases h1 : 48 ≤ r
  · by_cases h2 : r ≤ 57
    · have e := Lib.hid (bool_of (digB_iff r) ⟨h1, h2⟩)
      go_enter Try.func124, Try.ntmps124
      go_wp2
      go_ret
      exact ⟨by rw [e.out]; first | rfl | exact ret_bool (decide_eq_false (by omega)) | exact ret_bool (decide_eq_true (by omega)) | exact ret_bool (by simp; omega), rfl⟩
    · have e := Lib.hid (bool_no (digB_iff r) (by omega))
      go_enter Try.func124, Try.ntmps124
      go_wp2
      go_ret
      exact ⟨by rw [e.out]; first | rfl | exact ret_bool (decide_eq_false (by omega)) | exact ret_bool (decide_eq_true (by omega)) | exact ret_bool (by simp; omega), rfl⟩
  · have e := Lib.hid (bool_no (digB_iff r) (by omega))
    go_enter Try.func124, Try.ntmps124
    go_wp2
    go_ret
    exact ⟨by rw [e.out]; rfl, rfl⟩

/-- The ways through 'Letter'. -/
theorem let_ways (r : Int) : (letB r = true ∧ 97 ≤ r ∧ r ≤ 122) ∨ (letB r = true ∧ digB r = true ∧ 48 ≤ r ∧ r ≤ 57) ∨ (letB r = true ∧ digB r = false ∧ r = 95) ∨ (letB r = true ∧ digB r = false ∧ 128 ≤ r ∧ (r == 95) = false ∧ (r != 65533) = true) ∨
    (letB r = false ∧ digB r = false ∧ r < 97 ∧ (r == 95) = false ∧ (r < 48 ∨ 57 < r)) ∨ (letB r = false ∧ digB r = false ∧ 122 < r ∧ r < 128 ∧ (r == 95) = false) ∨ (letB r = false ∧ digB r = false ∧ r = 65533) := by
  by_cases h1 : 97 ≤ r ∧ r ≤ 122
  · exact .inl ⟨(letB_iff r).2 (.inl h1), h1⟩
  by_cases h2 : 48 ≤ r ∧ r ≤ 57
  · exact .inr (.inl ⟨(letB_iff r).2 (.inr (.inl h2)), (digB_iff r).2 h2, h2⟩)
  have hd : digB r = false := bool_no (digB_iff r) h2
  by_cases h3 : r = 95
  · exact .inr (.inr (.inl ⟨(letB_iff r).2 (.inr (.inr (.inl h3))), hd, h3⟩))
  have h3' : (r == 95) = false := by simpa using h3
  by_cases h4 : 128 ≤ r
  · by_cases h5 : r = 65533
    · exact .inr (.inr (.inr (.inr (.inr (.inr ⟨bool_no (letB_iff r) (by omega), hd, h5⟩)))))
    · exact .inr (.inr (.inr (.inl ⟨(letB_iff r).2 (.inr (.inr (.inr ⟨h4, h5⟩))), hd, h4, h3', by simpa using h5⟩)))
  have hl : letB r = false := bool_no (letB_iff r) (by omega)
  by_cases h6 : r < 97
  · exact .inr (.inr (.inr (.inr (.inl ⟨hl, hd, h6, h3', by omega⟩))))
  · exact .inr (.inr (.inr (.inr (.inr (.inl ⟨hl, hd, by omega, by omega, h3'⟩)))))

set_option maxRecDepth 100000 in
set_option maxHeartbeats 400000 in
theorem letter_calls (r : Int) (w : World) :
    Calls Try.prog 123 #[.int .i32 r] w fun e w' => e = .returned (.bool (letB r)) ∧ w = w' := by
  rcases let_ways r with ⟨hl, h1, h2⟩ | ⟨hl, hd, h1, h2⟩ | ⟨hl, hd, rfl⟩ | ⟨hl, hd, h1, h2, h3⟩ | ⟨hl, hd, h1, h2, h3⟩ | ⟨hl, hd, h1, h2, h3⟩ | ⟨hl, hd, rfl⟩
  all_goals
    have e := Lib.hid hl
    clear hl
    go_enter Try.func123, Try.ntmps123
    go_wp2_with (go_at_call 124; (with_reducible refine (digit_calls _ _).mono ?_); rintro e w' ⟨rfl, rfl⟩)
    all_goals
      go_ret
      exact ⟨by rw [e.out]; first | rfl | exact ret_bool (decide_eq_false (by omega)) | exact ret_bool (decide_eq_true (by omega)) | exact ret_bool (by simp; omega), rfl⟩

set_option maxRecDepth 100000 in
set_option maxHeartbeats 400000 in
theorem rletter_calls (r : Int) (w : World) :
    Calls Try.prog 149 #[.int .i32 r] w fun e w' => e = .returned (.bool (letB r)) ∧ w = w' := by
  rcases let_ways r with ⟨hl, h1, h2⟩ | ⟨hl, hd, h1, h2⟩ | ⟨hl, hd, rfl⟩ | ⟨hl, hd, h1, h2, h3⟩ | ⟨hl, hd, h1, h2, h3 | h3⟩ | ⟨hl, hd, h1, h2, h3⟩ | ⟨hl, hd, rfl⟩
  all_goals
    have e := Lib.hid hl
    clear hl
    go_enter Try.func149, Try.ntmps149
    go_wp2
    all_goals
      go_ret
      exact ⟨by rw [e.out]; first | rfl | exact ret_bool (decide_eq_false (by omega)) | exact ret_bool (decide_eq_true (by omega)) | exact ret_bool (by simp; omega), rfl⟩

theorem nameFrom_no1 {n : Nat} {r : Int} {t : List Int} (h : letB r = false) : nameFrom n (r :: t) = false := by rw [nameFrom, if_neg (by simp [h])]
theorem nameFrom_no2 {r : Int} {t : List Int} (h : digB r = true) : nameFrom 0 (r :: t) = false := by rw [nameFrom, if_neg (by simp [h])]
theorem nameFrom_no3 {n : Nat} {r : Int} {t : List Int} (h : 12 ≤ n) : nameFrom n (r :: t) = false := by rw [nameFrom, if_neg (by omega)]
theorem nameFrom_yes {n : Nat} {r : Int} {t : List Int} (h : letB r = true) (h' : n = 0 → digB r = false) (h2 : n < 12) : nameFrom n (r :: t) = nameFrom (n + 1) t := by
  rw [nameFrom, if_pos]
  refine ⟨h, ?_, by omega⟩
  rintro ⟨h3, h4⟩
  rw [h' h3] at h4
  cases h4

set_option maxRecDepth 100000 in
set_option maxHeartbeats 400000 in
theorem name_calls (s : ByteArray) (w : World) :
    Calls Try.prog 89 #[.string s] w fun e w' => e = .returned (.bool (isName s)) ∧ ∃ pos, w' = w.iter s pos := by
  go_enter Try.func89, Try.ntmps89
  go_wp2
  go_loopw [3] (fun c w' => ∃ (pos b n : Nat), w' = w.iter s pos ∧ c = .int .i64 n ∧ n ≤ 12 ∧ isName s = nameFrom n (rl s b pos) ∧ s.size ≤ pos + b) (fun _ w' => s.size - w'.iterPos w.heap.size)
  case atStart => exact ⟨0, s.size, 0, rfl, rfl, by omega, rfl, by omega⟩
  case round =>
    obtain ⟨pos, b, n, rfl, rfl, hn, hs, hb⟩ := hrel
    have Hs := Lib.hid hs
    clear hs
    by_cases h : pos < s.size
    · obtain ⟨b', hst, hb'⟩ := rl_step s b pos h hb
      have Hst := Lib.hid hst
      clear hst
      have hw := width_pos s pos h
      have hle := decode_le s pos
      have hnx := fun ty => run_next_any (P := Try.prog) w s pos ty h
      generalize hr : (Utf8.decode s pos).1 = r at *
      generalize hw' : (Utf8.decode s pos).2 = wd at *
      have Hr := Lib.hid hr
      clear hr hw' hb
      cases hl : letB r with
      | false =>
        have e := Lib.hid (nameFrom_no1 (n := n) (t := rl s b' (pos + wd)) hl)
        go_wp2_with (go_at_call 123; (with_reducible refine (letter_calls _ _).mono ?_); rintro e w' ⟨rfl, rfl⟩)
        go_ret
        exact ⟨by rw [Hs.out, Hst.out, e.out]; rfl, _, rfl⟩
      | true =>
        rcases Nat.eq_zero_or_pos n with rfl | hn0
        · cases hd : digB r with
          | true =>
            have e := Lib.hid (nameFrom_no2 (t := rl s b' (pos + wd)) hd)
            go_wp2_with (first | (go_at_call 123; (with_reducible refine (letter_calls _ _).mono ?_); rintro e w' ⟨rfl, rfl⟩) | (go_at_call 124; (with_reducible refine (digit_calls _ _).mono ?_); rintro e w' ⟨rfl, rfl⟩))
            go_ret
            exact ⟨by rw [Hs.out, Hst.out, e.out]; rfl, _, rfl⟩
          | false =>
            have e := Lib.hid (nameFrom_yes (t := rl s b' (pos + wd)) hl (fun _ => hd) (show 0 < 12 by omega))
            go_wp2_with (first | (go_at_call 123; (with_reducible refine (letter_calls _ _).mono ?_); rintro e w' ⟨rfl, rfl⟩) | (go_at_call 124; (with_reducible refine (digit_calls _ _).mono ?_); rintro e w' ⟨rfl, rfl⟩))
            go_roundw
            case rel => exact ⟨pos + wd, b', 1, rfl, rfl, by omega, by rw [Hs.out, Hst.out, e.out], hb'⟩
            case measure => simp; omega
        · have h1 : ((n : Int) + 1 == 1) = false := beq_eq_false_iff_ne.2 (by omega)
          by_cases h12 : n < 12
          · have e := Lib.hid (nameFrom_yes (t := rl s b' (pos + wd)) hl (fun h => by omega) h12)
            go_wp2_with (first | (go_at_call 123; (with_reducible refine (letter_calls _ _).mono ?_); rintro e w' ⟨rfl, rfl⟩) | (go_at_call 124; (with_reducible refine (digit_calls _ _).mono ?_); rintro e w' ⟨rfl, rfl⟩))
            go_roundw
            case rel => exact ⟨pos + wd, b', n + 1, rfl, by go_num, by omega, by rw [Hs.out, Hst.out, e.out], hb'⟩
            case measure => simp; omega
          · have e := Lib.hid (nameFrom_no3 (r := r) (t := rl s b' (pos + wd)) (show 12 ≤ n by omega))
            go_wp2_with (first | (go_at_call 123; (with_reducible refine (letter_calls _ _).mono ?_); rintro e w' ⟨rfl, rfl⟩) | (go_at_call 124; (with_reducible refine (digit_calls _ _).mono ?_); rintro e w' ⟨rfl, rfl⟩))
            go_ret
            exact ⟨by rw [Hs.out, Hst.out, e.out]; rfl, _, rfl⟩
    · have e := Lib.hid (rl_end s b pos h)
      have hnx := fun ty => run_next_end (P := Try.prog) w s pos ty h
      go_wp2
      go_ret
      refine ⟨?_, _, rfl⟩
      rw [Hs.out, e.out]
      exact ret_bool (by simp [nameFrom])

def i32s (l : List Int) : List Value := l.map (Value.int .i32)
theorem i32s_one (l : List Int) : ∀ u ∈ i32s l, u.oneCell' = true := by
  intro u hu
  obtain ⟨x, _, rfl⟩ := List.mem_map.1 hu
  rfl
theorem elemRune : Elem Try.prog 248 21 1 4 := elem_of (by kernel_rfl) (by kernel_rfl : (Try.prog.info? 21).map (fun i => (i.zero, i.size, i.bytes)) = some (some (.int .i32 0), 1, 4)) rfl (by omega)
/-- A row of the call's own comes back; nothing that was there has turned. -/
def RetOwn (w : World) (E : TypeId) (size n : Nat) (xs : List Value) (e : Ending) (w' : World) : Prop :=
  ∃ v, e = .returned v ∧ w'.ownsRow w.heap.size E size v n xs ∧ Ext w w'

set_option maxRecDepth 100000 in
set_option maxHeartbeats 400000 in
theorem rrunes_calls (s : ByteArray) (w : World) (hsz : s.size ≤ 1000) :
    Calls Try.prog 148 #[.string s] w (RetOwn w 21 1 (runeL s).length (i32s (runeL s))) := by
  have hlen := runeL_len s
  go_enter Try.func148, Try.ntmps148
  go_wp2
  go_loopw [3] (fun v wr => ∃ (pos b : Nat) (pre : List Int), wr.heap[w.heap.size]? = some (.stringIter s pos) ∧ wr.ownsRow (w.heap.size + 1) 21 1 v pre.length (i32s pre) ∧ runeL s = pre ++ rl s b pos ∧ s.size ≤ pos + b ∧ Ext w wr ∧ w.heap.size + 1 ≤ wr.heap.size)
    (fun _ wr => s.size - wr.iterPos w.heap.size)
  case atStart => exact ⟨0, s.size, [], World.iter_heap w s 0, World.ownsRow_nil _ _ _ _, rfl, by omega, (Ext.refl w).alloc _, by simp [World.iter]⟩
  case round =>
    obtain ⟨pos, b, pre, hit, hown, hs, hb, hext, hsize⟩ := hrel
    have Hs := Lib.hid hs
    have hpl : pre.length ≤ s.size := by have := hlen; rw [hs] at this; simp at this; omega
    clear hs
    by_cases h : pos < s.size
    · obtain ⟨b', hst, hb'⟩ := rl_step s b pos h hb
      have Hst := Lib.hid hst
      clear hst
      have hw := width_pos s pos h
      have hnx := fun ty => Lib.run_next_any_at (P := Try.prog) wr w.heap.size s pos ty hit h
      have hit' := Lib.iterAt_heap wr w.heap.size s pos (pos + (Utf8.decode s pos).2) hit
      have hown' := ownsRow_iterAt hown (k := w.heap.size) (by omega) s (pos + (Utf8.decode s pos).2)
      have hext' := hext.iter (k := w.heap.size) (Nat.le_refl _) s (pos + (Utf8.decode s pos).2)
      have hsz' : w.heap.size + 1 ≤ (wr.iterAt w.heap.size s (pos + (Utf8.decode s pos).2)).heap.size := by rw [Lib.iterAt_size]; exact hsize
      have hmeas := Lib.hid (iterPos_of hit)
      generalize (Utf8.decode s pos).1 = r at *
      generalize (Utf8.decode s pos).2 = wd at *
      have hm1 : pre.length + 1 ≤ maxLen := by unfold maxLen; omega
      have Hit := Lib.hid hit'
      clear hit hit' hown hext hb hlen
      generalize wr.iterAt w.heap.size s (pos + wd) = wn at *
      go_wp2_with (at_builtin; refine wpList_app elemRune rfl _ _ rfl (w.heap.size + 1) _ pre.length (i32s pre) rfl (hown'.alloc _) _ 1 1 (i32s [(r : Int)]) rfl (Rd.new _ #[.int .i32 (r : Int)] _ 1 1 rfl) (i32s_one _) hm1 (by omega) (by simp; omega) ?_; intro v1 w1 hown1 hg1 hat1)
      have hlt := (hown'.alloc (.cells #[.int .i32 (r : Int)] 21)).lt
      have hblk : w1.heap[w.heap.size]? = some (.stringIter s (pos + wd)) := by
        rw [hg1.block w.heap.size (by simp; omega) (fun e => by have := hlt _ e.symm; omega)]
        exact (Below.heap_alloc _ _ _ (by omega)).trans Hit.out
      have hx1 : Ext w w1 := (hext'.alloc _).grown hg1 (fun k hk => by have := hlt k hk; omega)
      have hz1 : w.heap.size + 1 ≤ w1.heap.size := by have := hg1.size; simp at this; omega
      have Hblk := Lib.hid hblk
      clear hblk hlt
      go_roundw
      case rel => exact ⟨pos + wd, b', pre ++ [(r : Int)], Hblk.out, by simpa [i32s] using hown1, by rw [Hs.out, Hst.out]; simp, hb', hx1, hz1⟩
      case measure =>
        rw [iterPos_of Hblk.out, hmeas.out]
        omega
    · have e := Lib.hid (rl_end s b pos h)
      have hnx := fun ty => Lib.run_next_end_at (P := Try.prog) wr w.heap.size s pos ty hit h
      go_wp2
      go_ret
      refine ⟨_, rfl, ?_, hext⟩
      rw [Hs.out, e.out, List.append_nil]
      exact ⟨hown.1, hown.2.imp id (fun ⟨g, cap, cur, h1, h2, h3⟩ => ⟨g, cap, cur, h1, by omega, h3⟩)⟩

/-- The document's answer: may a name be? -/
def letters (l : List Int) : Bool := l.all letB
def rName (l : List Int) : Bool := letters l && !(digB (l.headD 0)) && decide (1 ≤ l.length ∧ l.length ≤ 12)
theorem nameFrom_all (l : List Int) : ∀ n, 0 < n → n ≤ 12 → nameFrom n l = (letters l && decide (n + l.length ≤ 12)) := by
  induction l with
  | nil => intro n h h'; simp [nameFrom, letters, h, h']
  | cons r t ih =>
    intro n h h'
    cases hl : letB r with
    | false => rw [nameFrom_no1 hl]; simp [letters, hl]
    | true =>
      by_cases h12 : n < 12
      · rw [nameFrom_yes hl (fun e => by omega) h12, ih (n + 1) (by omega) (by omega)]
        simp only [letters, List.all_cons, hl, Bool.true_and, List.length_cons]
        congr 2
        exact propext ⟨fun h => by omega, fun h => by omega⟩
      · rw [nameFrom_no3 (by omega)]
        simp [letters, hl]
        intro _
        omega
theorem isName_eq (s : ByteArray) : isName s = rName (runeL s) := by
  unfold isName
  cases h : runeL s with
  | nil => simp [nameFrom, rName]
  | cons r t =>
    cases hl : letB r with
    | false => rw [nameFrom_no1 hl]; simp [rName, letters, hl]
    | true =>
      cases hd : digB r with
      | true => rw [nameFrom_no2 hd]; simp [rName, hd]
      | false =>
        rw [nameFrom_yes hl (fun _ => hd) (by omega), nameFrom_all t 1 (by omega) (by omega)]
        simp [rName, letters, hl, hd]
        congr 2
        exact propext ⟨fun h => by omega, fun h => by omega⟩

theorem i32_at {l : List Int} {k : Nat} {u : Value} (h : (i32s l)[k]? = some u) : ∃ x, u = .int .i32 x ∧ l[k]? = some x ∧ l.drop k = x :: l.drop (k + 1) := by
  simp only [i32s, List.getElem?_map] at h
  cases hx : l[k]? with
  | none => rw [hx] at h; cases h
  | some x =>
    rw [hx] at h
    obtain ⟨hlt, he⟩ := List.getElem?_eq_some_iff.1 hx
    refine ⟨x, by simpa using h.symm, rfl, ?_⟩
    rw [List.drop_eq_getElem_cons hlt, he]

set_option maxRecDepth 100000 in
set_option maxHeartbeats 400000 in
theorem rname_calls (s : ByteArray) (w : World) (hsz : s.size ≤ 1000) :
    Calls Try.prog 126 #[.string s] w fun e w' => e = .returned (.bool (isName s)) ∧ Ext w w' := by
  have hlen := runeL_len s
  have hN := Lib.hid (isName_eq s)
  go_enter Try.func126, Try.ntmps126
  (go_wp2_with fail; (with_reducible refine (rrunes_calls s w hsz).mono ?_); rintro e w' ⟨v, rfl, hown, hext⟩)
  obtain ⟨A, C, rfl, hC1, hC2⟩ := own_form hown
  have hrd := Rd.of_own hown
  clear hown
  generalize runeL s = L at *
  generalize hn : L.length = n at *
  have Hn := Lib.hid hn
  clear hn
  go_wp2_with fail
  go_loop [9] (fun i => ∃ k : Nat, k ≤ n ∧ i = .int .i64 k ∧ (∀ j x, j < k → L[j]? = some x → letB x = true ∧ (j = 0 → digB x = false))) (fun i => n - (intOf i).toNat)
  case atStart => exact ⟨0, Nat.zero_le _, rfl, fun j x h => by omega⟩
  case round =>
    obtain ⟨k, hk, rfl, hall⟩ := hrel
    have Hall := Lib.hid hall
    clear hall
    by_cases hlt : k < n
    · obtain ⟨ad, u, rfl, hu, hc⟩ := hrd.at1 hlt
      obtain ⟨x, rfl, hx, _⟩ := i32_at hu
      have Hx := Lib.hid hx
      clear hx hu
      cases hl : letB x with
      | false =>
        have e := Lib.hid (show rName L = false by
          have : letters L = false := by
            unfold letters
            rw [List.all_eq_false]
            exact ⟨x, List.mem_of_getElem? Hx.out, by simp [hl]⟩
          simp [rName, this])
        go_wp2_with (go_at_call 149; (with_reducible refine (rletter_calls _ _).mono ?_); rintro e w' ⟨rfl, rfl⟩)
        go_ret
        exact ⟨by rw [hN.out, e.out]; rfl, hext⟩
      | true =>
        rcases Nat.eq_zero_or_pos k with rfl | hk0
        · rw [Addr.add_zero'] at hc
          by_cases hd : 48 ≤ x ∧ x ≤ 57
          · have d1 := hd.1
            have d2 := hd.2
            have e := Lib.hid (show rName L = false by
              have : L.headD 0 = x := by have := Hx.out; cases hL : L with | nil => rw [hL] at this; cases this | cons a b => rw [hL] at this; simpa using this
              unfold rName; rw [this, (digB_iff x).2 hd]; simp)
            go_wp2_with (go_at_call 149; (with_reducible refine (rletter_calls _ _).mono ?_); rintro e w' ⟨rfl, rfl⟩)
            go_ret
            exact ⟨by rw [hN.out, e.out]; rfl, hext⟩
          · have hrel2 : ∀ j y, j < 1 → L[j]? = some y → letB y = true ∧ (j = 0 → digB y = false) := by
              intro j y hj hy
              obtain rfl : j = 0 := by omega
              rw [Hx.out] at hy
              injection hy with hy
              subst hy
              exact ⟨hl, fun _ => bool_no (digB_iff _) hd⟩
            have HR := Lib.hid hrel2
            clear hrel2
            have hd' : x < 48 ∨ 57 < x := by omega
            clear hd
            rcases hd' with hd | hd
            all_goals
              go_wp2_with (go_at_call 149; (with_reducible refine (rletter_calls _ _).mono ?_); rintro e w' ⟨rfl, rfl⟩)
              all_goals
                go_round
                case rel => exact ⟨1, by omega, rfl, HR.out⟩
                case measure => simp [intOf]; omega
        · have hk1 : ((k : Int) == 0) = false := beq_eq_false_iff_ne.2 (by omega)
          have hrel2 : ∀ j y, j < k + 1 → L[j]? = some y → letB y = true ∧ (j = 0 → digB y = false) := by
            intro j y hj hy
            by_cases hjk : j < k
            · exact Hall.out j y hjk hy
            · obtain rfl : j = k := by omega
              rw [Hx.out] at hy
              injection hy with hy
              subst hy
              exact ⟨hl, fun _ => by omega⟩
          have HR := Lib.hid hrel2
          clear hrel2
          go_wp2_with (go_at_call 149; (with_reducible refine (rletter_calls _ _).mono ?_); rintro e w' ⟨rfl, rfl⟩)
          go_round
          case rel => exact ⟨k + 1, by omega, by go_num, HR.out⟩
          case measure => simp [intOf]; omega
    · have hk2 : k = n := by omega
      have hall : letters L = true := by
        unfold letters
        rw [List.all_eq_true]
        intro x hx
        obtain ⟨j, hj, he⟩ := List.getElem_of_mem hx
        exact (Hall.out j x (by have := Hn.out; omega) (by rw [List.getElem?_eq_getElem hj, he])).1
      have hfin : rName L = decide (1 ≤ n ∧ n ≤ 12) := by
        unfold rName
        rw [hall, Hn.out]
        cases hL : L with
        | nil => have := Hn.out; rw [hL] at this; simp at this; subst this; simp
        | cons a b =>
          have := (Hall.out 0 a (by have := Hn.out; rw [hL] at this; simp at this; omega) (by rw [hL]; rfl)).2 rfl
          simp [this]
      have HF := Lib.hid hfin
      clear hfin hall hk2
      go_wp2_with fail
      all_goals
        go_ret
        refine ⟨?_, hext⟩
        rw [hN.out, HF.out]
        refine ret_bool ?_
        by_cases h1 : 1 ≤ n <;> by_cases h2 : n ≤ 12 <;> simp [h1, h2] <;> omega

set_option maxRecDepth 100000 in
set_option maxHeartbeats 400000 in
theorem text_calls (s : ByteArray) (n : Nat) (w : World) (hs : s.size ≤ maxLen) (hn : n ≤ 1000) :
    Calls Try.prog 97 #[.string s, .int .i64 n] w fun e w' => e = .returned (.string (s.extract 0 (min s.size n))) ∧ w = w' := by
  unfold maxLen at hs
  by_cases h : s.size ≤ n
  · have hmin : min s.size n = s.size := by omega
    have he : s.extract 0 s.size = s := by simp
    rw [hmin, he]
    clear hmin he
    go_enter Try.func97, Try.ntmps97
    go_wp2
    go_ret
    exact ⟨rfl, rfl⟩
  · have hmin : min s.size n = n := by omega
    rw [hmin]
    clear hmin
    go_enter Try.func97, Try.ntmps97
    go_wp2
    go_ret
    exact ⟨rfl, rfl⟩
theorem text_size (s : ByteArray) (n : Nat) : (s.extract 0 (min s.size n)).size ≤ n := by
  simp [ByteArray.size_extract]
  omega

end Go.Proofs.Ytgjjngkmbplijaa

/- Maps with struct keys, entry by entry: look up, store, length, copy. -/
namespace Go.Proofs.Ytgjjngkmbplijaa
open Go.RowKit
set_option linter.unusedSimpArgs false
set_option linter.unusedVariables false
set_option linter.unusedSectionVars false

section
variable {P : Program} {κ : Type} [BEq κ] {K E T : TypeId} {kv : κ → Value} {z : Value}
/-- The entries es are the list l, key by key. -/
def Ent (kv : κ → Value) (es : Array MapEntry) (l : List (κ × Value)) : Prop := es.toList.map (fun e => (e.key, e.val)) = l.map (fun x => (kv x.1, x.2))

/-- What the table tells of a map's type, and of its key's. -/
structure MapT (P : Program) (T K E : TypeId) (kv : κ → Value) (z : Value) : Prop where
  under : P.underlying T = some (.map K E)
  kind : P.underlying K = some (.struct (P.fieldsOf K))
  eq : ∀ (a b : κ) (w : World), (Op.equal K (kv a) (kv b)).run P w = .ok (a == b) w
  key : ∀ (e : Bool) (a : κ) (w : World), (Instr.checkKey e 10000 K (kv a)).run P w = .ok () w
  zero : ∀ w : World, (zeroValue E).run P w = .ok z w

theorem run_asking (heq : ∀ (a b : κ) (w : World), (Op.equal K (kv a) (kv b)).run P w = .ok (a == b) w) (a : κ) (w : World) : ∀ (es : List MapEntry) (l : List (κ × Value)) (i : Nat),
    es.map (fun e => (e.key, e.val)) = l.map (fun x => (kv x.1, x.2)) →
    ∃ r, (Instr.findAsking K (kv a) es i).run P w = .ok r w ∧ r.map (·.2) = l.lookup a := by
  intro es
  induction es with
  | nil =>
    intro l i h
    cases l with
    | nil => exact ⟨none, rfl, rfl⟩
    | cons x r => simp at h
  | cons e r ih =>
    intro l i h
    cases l with
    | nil => simp at h
    | cons x r' =>
      simp only [List.map_cons, List.cons.injEq, Prod.mk.injEq] at h
      obtain ⟨⟨h1, h2⟩, h3⟩ := h
      rw [Instr.findAsking]
      simp only [Sem.run_bind, h1, heq, Result.andThen_ok]
      cases hb : a == x.1 with
      | true => exact ⟨some (i, e.val), by simp, by simp [List.lookup, hb, h2]⟩
      | false =>
        obtain ⟨q, hq1, hq2⟩ := ih r' (i + 1) h3
        exact ⟨q, by simpa using hq1, by rw [hq2]; simp [List.lookup, hb]⟩

theorem run_find (M : MapT P T K E kv z) (a : κ) (w : World) (es : Array MapEntry) (l : List (κ × Value)) (h : Ent kv es l) :
    ∃ r, (Instr.findKey K (kv a) es.toList).run P w = .ok r w ∧ r.map (·.2) = l.lookup a := by
  have hfs := M.kind
  generalize P.fieldsOf K = fs at hfs
  unfold Instr.findKey
  rw [Sem.run_bind, run_underlying hfs]
  simp only [Result.andThen_ok]
  cases hes : es.toList with
  | nil =>
    have : l = [] := by
      unfold Ent at h
      rw [hes] at h
      cases l with
      | nil => rfl
      | cons x r => simp at h
    subst this
    exact ⟨none, rfl, rfl⟩
  | cons e r =>
    have hn : Instr.findNow (.struct fs) (kv a) (e :: r) 0 = none := by
      simp [Instr.findNow, Instr.sameNow]
    rw [hn]
    unfold Ent at h
    rw [hes] at h
    exact run_asking M.eq a w (e :: r) l 0 h

/-- 'v, ok := m[k]'. -/
theorem run_look (M : MapT P T K E kv z) {w : World} {b : Nat} {es : Array MapEntry} {ck : Nat} {l : List (κ × Value)} (hb : w.heap[b]? = some (.map es ck)) (h : Ent kv es l) (a : κ) :
    (Instr.lookup T (.map (some b)) (kv a) true).run P w = .ok (.tuple #[(l.lookup a).getD z, .bool (l.lookup a).isSome]) w := by
  obtain ⟨r, h1, h2⟩ := run_find M a w es l h
  have hg : (getObj b).run P w = .ok (.map es ck) w := by simp [getObj, Sem.run, hb]
  simp only [Instr.lookup, Sem.run_bind, run_underlying M.under, Result.andThen_ok, hg, Sem.run_pure, M.key, h1]
  rw [← h2]
  cases r with
  | none => simp [M.zero]
  | some x => simp

/-- The world in which block b is that object. -/
def putObj (w : World) (b : Nat) (o : Obj) : World := { w with heap := w.heap.setIfInBounds b o }
omit [BEq κ] in
theorem putObj_same {w : World} {b : Nat} {o o' : Obj} (h : w.heap[b]? = some o') : (putObj w b o).heap[b]? = some o := by
  have hlt : b < w.heap.size := (Array.getElem?_eq_some_iff.1 h).1
  simp [putObj, hlt]
omit [BEq κ] in
theorem putObj_other (w : World) {b k : Nat} (o : Obj) (h : k ≠ b) : (putObj w b o).heap[k]? = w.heap[k]? := by
  simp [putObj, Ne.symm h]
omit [BEq κ] in
theorem putObj_grown (w : World) (b : Nat) (o : Obj) : w.grownBy (putObj w b o) (some b) :=
  ⟨rfl, rfl, rfl, by simp [putObj], fun k _ hne => putObj_other w o (fun e => hne (by rw [e]))⟩

/-- 'm[k] = v', k not in it. -/
theorem run_put (M : MapT P T K E kv z) {w : World} {b : Nat} {es : Array MapEntry} {ck : Nat} {l : List (κ × Value)} (hb : w.heap[b]? = some (.map es ck)) (h : Ent kv es l) (a : κ) (v : Value) (ha : l.lookup a = none) :
    (Instr.mapUpdate T (.map (some b)) (kv a) v).run P w = .ok () (putObj w b (.map (es.push { key := kv a, val := v, born := ck }) (ck + 1))) ∧
      Ent kv (es.push { key := kv a, val := v, born := ck }) (l ++ [(a, v)]) := by
  obtain ⟨r, h1, h2⟩ := run_find M a w es l h
  have hg : (getObj b).run P w = .ok (.map es ck) w := by simp [getObj, Sem.run, hb]
  have hr : r = none := by
    rw [ha] at h2
    cases r with
    | none => rfl
    | some x => cases h2
  subst hr
  refine ⟨?_, ?_⟩
  · simp only [Instr.mapUpdate, Sem.run_bind, run_underlying M.under, Result.andThen_ok, hg, M.key, h1]
    simp [setObj, Sem.run, hb, putObj]
  · unfold Ent at h ⊢
    simp [h]

theorem ent_size {es : Array MapEntry} {l : List (κ × Value)} (h : Ent kv es l) : es.size = l.length := by
  have := congrArg List.length h
  simpa using this

/-- 'len(m)'. -/
theorem run_len_map (hT : P.underlying T = some (.map K E)) {w : World} {b : Nat} {es : Array MapEntry} {ck : Nat} (hb : w.heap[b]? = some (.map es ck)) (ty : TypeId) (n : Nat) (hn : es.size = n) :
    (Builtin.len_ #[T] ty #[.map (some b)]).run P w = .ok (.int .i64 n) w := by
  have hg : (getObj b).run P w = .ok (.map es ck) w := by simp [getObj, Sem.run, hb]
  subst hn
  simp [Builtin.len_, run_underlying hT, hg, goInt]
end

def fixKey (k : ByteArray × Int) : Value := .agg #[.string k.1, .int .i64 k.2]
def chKey (k : ByteArray × ByteArray) : Value := .agg #[.string k.1, .string k.2]
/-- Bytes are the same if their lists are. -/
theorem bytes_beq (a b : ByteArray) : (a.toList == b.toList) = (a == b) := (beq_toListBytes a b).symm

theorem pair_and {a b : Bool} : (if a = true then b else false) = (a && b) := by cases a <;> simp

theorem bytes_of_beq {a b : ByteArray} (h : (a == b) = true) : a = b := by
  obtain ⟨⟨x⟩⟩ := a
  obtain ⟨⟨y⟩⟩ := b
  have h' : ((⟨x⟩ : Array UInt8) == ⟨y⟩) = true := h
  simp at h'
  subst h'
  rfl
theorem bytes_rfl (a : ByteArray) : (a == a) = true := by
  obtain ⟨⟨x⟩⟩ := a
  show ((⟨x⟩ : Array UInt8) == ⟨x⟩) = true
  simp
instance bytesLawful : LawfulBEq ByteArray where
  eq_of_beq := bytes_of_beq
  rfl := bytes_rfl _
theorem toList_inj {a b : ByteArray} : a.toList = b.toList ↔ a = b := by
  constructor
  · intro h
    have := beq_toListBytes a b
    rw [h] at this
    simpa using this
  · rintro rfl
    rfl
set_option maxRecDepth 100000 in
theorem fixT : MapT Try.prog 163 168 3 fixKey (.int .i64 0) where
  under := by kernel_rfl
  kind := by kernel_rfl
  eq := fun a b w => by
    unfold Op.equal Op.maxDepth fixKey
    go_simp
    obtain ⟨a1, a2⟩ := a
    obtain ⟨b1, b2⟩ := b
    simp only [toList_inj]
    by_cases h1 : a1 = b1 <;> by_cases h2 : a2 = b2 <;> simp [h1, h2]
  key := fun e a w => by
    unfold fixKey
    kernel_rfl
  zero := fun w => by kernel_rfl
set_option maxRecDepth 100000 in
theorem chT : MapT Try.prog 164 171 173 chKey (.agg #[.int .i64 0, .int .i64 0]) where
  under := by kernel_rfl
  kind := by kernel_rfl
  eq := fun a b w => by
    unfold Op.equal Op.maxDepth chKey
    go_simp
    obtain ⟨a1, a2⟩ := a
    obtain ⟨b1, b2⟩ := b
    simp only [toList_inj]
    by_cases h1 : a1 = b1 <;> by_cases h2 : a2 = b2 <;> simp [h1, h2]
  key := fun e a w => by
    unfold chKey
    kernel_rfl
  zero := fun w => by kernel_rfl

end Go.Proofs.Ytgjjngkmbplijaa
