/- Lists of strings: slices.Index, slices.Contains on strings; what is put behind a list once. -/
import Derived.Test.YtgjjngkmbplijaaZWo

namespace Go.Proofs.Ytgjjngkmbplijaa
open Go.RowKit
set_option linter.unusedSimpArgs false
set_option linter.unusedVariables false

def strVals (l : List ByteArray) : List Value := l.map Value.string
theorem strVals_len (l : List ByteArray) : (strVals l).length = l.length := by simp [strVals]
theorem strVals_one (l : List ByteArray) : ∀ u ∈ strVals l, u.oneCell' = true := by
  intro u hu; obtain ⟨x, _, rfl⟩ := List.mem_map.1 hu; rfl
theorem strVals_app (l r : List ByteArray) : strVals (l ++ r) = strVals l ++ strVals r := by simp [strVals]
theorem strVals_at {l : List ByteArray} {j : Nat} (h : j < l.length) : ∃ s, l[j]? = some s ∧ (strVals l)[j]? = some (.string s) := by
  have h1 : l[j]? = some l[j] := List.getElem?_eq_getElem h
  exact ⟨l[j], h1, by simp [strVals, h1]⟩
theorem elemStr : Elem Try.prog 64 9 1 16 := elem_of (z := .string ⟨#[]⟩) (by kernel_rfl) (by kernel_rfl) rfl (by omega)

/-- A truth comes back; nothing that was there has turned. -/
def RetB (w : World) (a : Bool) (e : Ending) (w' : World) : Prop := e = .returned (.bool a) ∧ Ext w w'
/-- A slice is searched: the place of the first that fits, -1 if there is none. -/
def RetAny (w : World) (b : Bool) (e : Ending) (w' : World) : Prop := ∃ r : Int, e = .returned (.int .i64 r) ∧ decide (0 ≤ r) = b ∧ Ext w w'
theorem any_take_succ {α : Type} {l : List α} {p : α → Bool} {j : Nat} {x : α} (h : l[j]? = some x) : (l.take (j + 1)).any p = ((l.take j).any p || p x) := by
  rw [List.take_add_one, h]; simp
theorem any_hit {α : Type} {l : List α} {p : α → Bool} {j : Nat} {x : α} (h : l[j]? = some x) (hp : p x = true) : l.any p = true :=
  List.any_eq_true.2 ⟨x, List.mem_of_getElem? h, hp⟩

set_option maxRecDepth 100000 in
set_option maxHeartbeats 800000 in
theorem sindex_calls (l : List ByteArray) (s : ByteArray) (a : Option Addr) (c : Nat) (w : World) (hr : Rd w 1 a l.length (strVals l)) (hnc : l.length ≤ c) (hcm : c ≤ maxLen) :
    Calls Try.prog 131 #[.slice a l.length c, .string s] w fun e w' => RetAny w (l.any fun x => s == x) e w' := by
  unfold maxLen at hcm
  go_enter Try.func131, Try.ntmps131
  go_wp2_with fail
  go_loopw [8] (fun i wr => ∃ j : Nat, j ≤ l.length ∧ i = .int .i64 j ∧ ((l.take j).any fun x => s == x) = false ∧ Ext w wr ∧ Rd wr 1 a l.length (strVals l)) (fun i _ => l.length - (intOf i).toNat)
  case atStart => exact ⟨0, by omega, rfl, rfl, Ext.refl w, hr⟩
  case round =>
    obtain ⟨j, hj, rfl, hno, hx, hr⟩ := hrel
    by_cases hlt : j < l.length
    · obtain ⟨k, e1, hv⟩ := strVals_at hlt
      obtain ⟨ad, u, rfl, hu, hc⟩ := hr.at1 hlt
      obtain rfl : Value.string k = u := by rw [hv] at hu; injection hu
      have hs := any_take_succ (p := fun x => s == x) e1
      rw [hno] at hs
      have hr0 := Lib.hid hr
      have e0 := Lib.hid e1
      have hs0 := Lib.hid hs
      have hj0 := Lib.hid (show j + 1 ≤ l.length from hlt)
      clear hr hv hu e1 hs hno
      cases hp : s.toList == k.toList with
      | true =>
        go_wp2
        go_ret
        exact ⟨_, rfl, by rw [any_hit e0.out (show (s == k) = true from (bytes_beq s k).symm.trans hp)]; simp, hx⟩
      | false =>
        go_wp2_with fail
        go_roundw
        case rel => exact ⟨j + 1, hj0.out, by go_num, by rw [hs0.out, ← bytes_beq, hp]; rfl, hx, hr0.out⟩
        case measure => simp [intOf]; omega
    · obtain rfl : j = l.length := by omega
      rw [List.take_length] at hno
      go_wp2
      go_ret
      exact ⟨_, rfl, by rw [hno]; rfl, hx⟩

set_option maxRecDepth 100000 in
set_option maxHeartbeats 800000 in
theorem scontains_calls (l : List ByteArray) (s : ByteArray) (a : Option Addr) (c : Nat) (w : World) (hr : Rd w 1 a l.length (strVals l)) (hnc : l.length ≤ c) (hcm : c ≤ maxLen) :
    Calls Try.prog 100 #[.slice a l.length c, .string s] w fun e w' => RetB w (l.any fun x => s == x) e w' := by
  have H := fun w' (h : Ext w w') => sindex_calls l s a c w' (hr.ext h) hnc hcm
  generalize (l.any fun x => s == x) = b at *
  go_enter Try.func100, Try.ntmps100
  (go_wp2_with fail; (with_reducible refine (H _ (Ext.refl w)).mono ?_); rintro e w' ⟨r, rfl, rfl, hx⟩)
  go_wp2
  go_ret
  exact ⟨rfl, hx⟩

def addNew (L : List ByteArray) (s : ByteArray) : List ByteArray := if (L.any fun x => s == x) = true then L else L ++ [s]
def addAll (L N : List ByteArray) : List ByteArray := N.foldl addNew L
theorem addNew_len (L : List ByteArray) (s : ByteArray) : (addNew L s).length ≤ L.length + 1 := by
  unfold addNew; split <;> simp
theorem addAll_len (L N : List ByteArray) : (addAll L N).length ≤ L.length + N.length := by
  unfold addAll
  induction N generalizing L with
  | nil => simp
  | cons s t ih => have h1 := ih (addNew L s); have h2 := addNew_len L s; simp only [List.foldl_cons, List.length_cons]; omega
theorem addAll_take {L N : List ByteArray} {j : Nat} {s : ByteArray} (h : N[j]? = some s) : addAll L (N.take (j + 1)) = addNew (addAll L (N.take j)) s := by
  unfold addAll; rw [List.take_add_one, h]; simp

end Go.Proofs.Ytgjjngkmbplijaa
