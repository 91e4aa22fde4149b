/- The maker of package play: a plan's numbers, taken one by one; words. -/
import Derived.Test.YtgjjngkmbplijaaTree
import Derived.Test.YtgjjngkmbplijaaLaw04
namespace Go.Proofs.Ytgjjngkmbplijaa
open Go.RowKit
set_option linter.unusedSimpArgs false
set_option linter.unusedVariables false

/-- A plan that came in: its two rows. -/
structure Pl where
  a : Option Addr
  n : Nat
  c : Nat
  l : List Int
  a2 : Option Addr
  n2 : Nat
  c2 : Nat
  ws : List ByteArray
def Pl.val (p : Pl) : Value := .agg #[.slice p.a p.n p.c, .slice p.a2 p.n2 p.c2]
structure Pl.In (p : Pl) (q : Nat → Prop) (w : World) : Prop where
  rn : Rd w 1 p.a p.n (ints p.l)
  nc : p.n ≤ p.c
  cm : p.c ≤ maxLen
  wf : ∀ x ∈ p.l, (Lit.int .i64 x).wf = true
  rw : Rd w 1 p.a2 p.n2 (strVals p.ws)
  nc2 : p.n2 ≤ p.c2
  cm2 : p.c2 ≤ maxLen
  wf2 : ∀ s ∈ p.ws, s.size ≤ maxLen
  qn : ∀ ad, p.a = some ad → p.n ≠ 0 → q ad.block
  qw : ∀ ad, p.a2 = some ad → p.n2 ≠ 0 → q ad.block
theorem Rd.grownZ {w w' : World} {size n : Nat} {a : Option Addr} {xs : List Value} {m : Nat} (h : Rd w size a n xs) (hg : w.grownBy w' (some m)) (hne : ∀ ad, a = some ad → n ≠ 0 → ad.block ≠ m) : Rd w' size a n xs := by
  by_cases hn : n = 0
  · subst hn
    have : xs = [] := List.eq_nil_of_length_eq_zero (by simpa using h.1)
    subst this
    exact ⟨h.1, fun j u hu => by simp at hu⟩
  · exact h.grown hg (fun ad e => hne ad e hn)
section
variable {q : Nat → Prop} {w w' : World} {p : Pl}
theorem Pl.In.ext (h : p.In q w) (hx : Ext w w') : p.In q w' := ⟨h.rn.ext hx, h.nc, h.cm, h.wf, h.rw.ext hx, h.nc2, h.cm2, h.wf2, h.qn, h.qw⟩
theorem Pl.In.grown {m : Nat} (h : p.In q w) (hq : ∀ b, q b → b ≠ m) (hg : w.grownBy w' (some m)) : p.In q w' :=
  ⟨h.rn.grownZ hg (fun ad e hn => hq _ (h.qn ad e hn)), h.nc, h.cm, h.wf, h.rw.grownZ hg (fun ad e hn => hq _ (h.qw ad e hn)), h.nc2, h.cm2, h.wf2, h.qn, h.qw⟩
end
theorem grown_trans {a b c : World} {row : Option Nat} (h : a.grownBy b row) (k : b.grownBy c row) : a.grownBy c row :=
  ⟨k.os.trans h.os, k.tape.trans h.tape, k.output.trans h.output, Nat.le_trans h.size k.size, fun i hi hne => (k.block i (Nat.lt_of_lt_of_le hi h.size) hne).trans (h.block i hi hne)⟩
theorem grown_ext {a b : World} (h : Ext a b) (row : Option Nat) : a.grownBy b row := ⟨h.os, h.tape, h.output, h.size, fun i hi _ => Ext.block h hi⟩

/-- The maker at block m: its plan, how many numbers were taken, how many parts may still be made, the last label. -/
structure Mk (w : World) (m : Nat) (p : Pl) (i : Nat) (left label : Int) : Prop where
  blk : w.heap[m]? = some (.cells #[.slice p.a p.n p.c, .slice p.a2 p.n2 p.c2, .int .i64 i, .int .i64 left, .int .i64 label] 192 (0, 0))
  pl : p.In (· < m) w
theorem Mk.cells {w : World} {m : Nat} {p : Pl} {i : Nat} {left label : Int} (h : Mk w m p i left label) :
    w.cell? ⟨m, 0, none⟩ = some (.slice p.a p.n p.c) ∧ w.cell? ⟨m, 1, none⟩ = some (.slice p.a2 p.n2 p.c2) ∧ w.cell? ⟨m, 2, none⟩ = some (.int .i64 i) ∧ w.cell? ⟨m, 3, none⟩ = some (.int .i64 left) ∧ w.cell? ⟨m, 4, none⟩ = some (.int .i64 label) ∧ ∀ o, w.frozen? ⟨m, o, none⟩ = false := by
  have hb := h.blk
  refine ⟨?_, ?_, ?_, ?_, ?_, fun o => ?_⟩
  all_goals simp [World.cell?, World.frozen?, hb]
theorem Mk.ext {w w' : World} {m : Nat} {p : Pl} {i : Nat} {left label : Int} (h : Mk w m p i left label) (hx : Ext w w') : Mk w' m p i left label := ⟨hx.obj h.blk, h.pl.ext hx⟩

theorem setCell_block (w : World) (m o : Nat) (v : Value) {cs : Array Value} {e : TypeId} {fz : Nat × Nat} (h : w.heap[m]? = some (.cells cs e fz)) : (w.setCell ⟨m, o, none⟩ v).heap[m]? = some (.cells (cs.setIfInBounds o v) e fz) := by
  simp [World.setCell, Array.getElem?_modify, h]
theorem setCell_grown (w : World) (m o : Nat) (v : Value) : w.grownBy (w.setCell ⟨m, o, none⟩ v) (some m) :=
  ⟨rfl, rfl, rfl, by simp [World.setCell], fun k hk hne => by
    have : m ≠ k := fun e => hne (by rw [e])
    simp [World.setCell, Array.getElem?_modify, this]⟩
theorem Mk.setI {w : World} {m : Nat} {p : Pl} {i : Nat} {left label : Int} (h : Mk w m p i left label) (x : Nat) : Mk (w.setCell ⟨m, 2, none⟩ (.int .i64 x)) m p x left label :=
  ⟨by rw [setCell_block w m 2 _ h.blk]; rfl, h.pl.grown (fun _ hb => Nat.ne_of_lt hb) (setCell_grown w m 2 _)⟩
theorem Mk.setLeft {w : World} {m : Nat} {p : Pl} {i : Nat} {left label : Int} (h : Mk w m p i left label) (x : Int) : Mk (w.setCell ⟨m, 3, none⟩ (.int .i64 x)) m p i x label :=
  ⟨by rw [setCell_block w m 3 _ h.blk]; rfl, h.pl.grown (fun _ hb => Nat.ne_of_lt hb) (setCell_grown w m 3 _)⟩
theorem Mk.setLabel {w : World} {m : Nat} {p : Pl} {i : Nat} {left label : Int} (h : Mk w m p i left label) (x : Int) : Mk (w.setCell ⟨m, 4, none⟩ (.int .i64 x)) m p i left x :=
  ⟨by rw [setCell_block w m 4 _ h.blk]; rfl, h.pl.grown (fun _ hb => Nat.ne_of_lt hb) (setCell_grown w m 4 _)⟩

/-- The number that is next (0 behind the last one). -/
def nextN (p : Pl) (i : Nat) (of : Int) : Int := (p.l[i]?.getD 0) % of
/-- A value comes back; the maker is at its next number; nothing else that was there has turned. -/
def RetMk (w : World) (m : Nat) (p : Pl) (i : Nat) (left label : Int) (v : Value) (e : Ending) (w' : World) : Prop :=
  e = .returned v ∧ Mk w' m p i left label ∧ w.grownBy w' (some m)

set_option maxRecDepth 100000 in
set_option maxHeartbeats 800000 in
theorem mn_calls (w : World) (m : Nat) (p : Pl) (i : Nat) (left label of : Int) (h : Mk w m p i left label) (hi : i < 2 ^ 40) (h1 : 1 ≤ of) (h2 : of ≤ 1000) :
    Calls Try.prog 132 #[.pointer (some ⟨m, 0, none⟩), .int .i64 of] w fun e w' => RetMk w m p (i + 1) left label (.int .i64 (nextN p i of)) e w' := by
  have HM := Lib.hid h
  obtain ⟨c0, c1, c2, c3, c4, hf⟩ := h.cells
  have hnc := h.pl.nc
  have hcm := h.pl.cm
  unfold maxLen at hcm
  have hlen : p.l.length = p.n := by have := h.pl.rn.1; simpa [ints] using this
  by_cases hlt : i < p.n
  · obtain ⟨ad, u, e1, hu, hc⟩ := h.pl.rn.at1 hlt
    simp only [ints, List.getElem?_map] at hu
    cases hx : p.l[i]? with
    | none => rw [hx] at hu; cases hu
    | some x =>
      rw [hx] at hu
      obtain rfl : u = .int .i64 x := by simpa using hu.symm
      have hb := i64_of (h.pl.wf x (List.mem_of_getElem? hx))
      have hne := Nat.ne_of_lt (h.pl.qn ad e1 (by omega))
      have HN := Lib.hid (show nextN p i of = x % of by unfold nextN; rw [hx]; rfl)
      rw [e1] at c0
      generalize nextN p i of = r at *
      have hc' : ∀ o v, (w.setCell ⟨m, o, none⟩ v).cell? (ad.add i) = some (.int .i64 x) := fun o v => (setCell_grown w m o v).cell hc (by rw [add_block]; intro e2; injection e2 with e2; exact hne e2)
      have ht : (i : Int) < (p.n : Int) := by omega
      clear h hu hx hlen e1
      generalize p.n = n at *
      generalize p.c = c at *
      generalize p.a2 = a2 at *
      generalize p.n2 = n2 at *
      generalize p.c2 = cc2 at *
      go_enter Try.func132, Try.ntmps132
      go_wp2_with fail
      go_quiet (fail)
      go_wp2_with fail
      go_quiet (fail)
      (go_wp2_with fail; (with_reducible refine (within_calls _ _ _ (by omega) (by omega) hb.1 hb.2).mono ?_); rintro e w' ⟨rfl, rfl⟩)
      go_wp2
      apply bodyPost_ret
      · exact results_tmp rfl _ _ _
      · rfl
      exact ⟨by rw [HN.out]; rfl, (HM.out.ext ((Ext.refl w).drewN _)).setI (i + 1), grown_trans (grown_ext ((Ext.refl w).drewN _) _) (setCell_grown _ _ _ _)⟩
  · have HN := Lib.hid (show nextN p i of = 0 % of by unfold nextN; rw [List.getElem?_eq_none (by omega)]; rfl)
    have ht : decide ((i : Int) < (p.n : Int)) = false := by simp; omega
    generalize nextN p i of = r at *
    clear h hlen ht
    generalize p.a = a at *
    generalize p.n = n at *
    generalize p.c = c at *
    generalize p.a2 = a2 at *
    generalize p.n2 = n2 at *
    generalize p.c2 = cc2 at *
    go_enter Try.func132, Try.ntmps132
    go_wp2_with fail
    go_quiet (fail)
    (go_wp2_with fail; (with_reducible refine (within_calls 0 _ _ (by omega) (by omega) (by omega) (by omega)).mono ?_); rintro e w' ⟨rfl, rfl⟩)
    go_wp2
    apply bodyPost_ret
    · exact results_tmp rfl _ _ _
    · rfl
    exact ⟨by rw [HN.out]; rfl, (HM.out.ext ((Ext.refl w).drewN _)).setI (i + 1), grown_trans (grown_ext ((Ext.refl w).drewN _) _) (setCell_grown _ _ _ _)⟩

/-- A word of few, or the plan's. -/
def wordB (p : Pl) (i : Nat) (l : List ByteArray) : ByteArray :=
  let k := nextN p i (l.length + 6)
  if (l.length : Int) ≤ k ∧ p.ws.length ≠ 0 ∧ k % 7 = 0 then (p.ws[(k % p.ws.length).toNat]?.getD ⟨#[]⟩).extract 0 (min (p.ws[(k % p.ws.length).toNat]?.getD ⟨#[]⟩).size 14)
  else l[(k % l.length).toNat]?.getD ⟨#[]⟩
theorem nextN_lo (p : Pl) (i : Nat) (of : Int) (h : 1 ≤ of) : 0 ≤ nextN p i of := Int.emod_nonneg _ (by omega)
theorem nextN_hi (p : Pl) (i : Nat) (of : Int) (h : 1 ≤ of) : nextN p i of < of := Int.emod_lt_of_pos _ (by omega)

set_option maxRecDepth 100000 in
set_option maxHeartbeats 800000 in
theorem mword_calls (w : World) (m : Nat) (p : Pl) (i : Nat) (left label : Int) (l : List ByteArray) (a : Option Addr) (c : Nat) (h : Mk w m p i left label) (hi : i < 2 ^ 40)
    (hr : Rd w 1 a l.length (strVals l)) (hnc : l.length ≤ c) (hcm : c ≤ maxLen) (hq : ∀ ad, a = some ad → ad.block ≠ m) (hl : 1 ≤ l.length ∧ l.length ≤ 10) :
    Calls Try.prog 133 #[.pointer (some ⟨m, 0, none⟩), .slice a l.length c] w fun e w' => RetMk w m p (i + 1) left label (.string (wordB p i l)) e w' := by
  have H1 := mn_calls w m p i left label (l.length + 6) h hi (by omega) (by omega)
  have k1 := nextN_lo p i (l.length + 6) (by omega)
  have k2 := nextN_hi p i (l.length + 6) (by omega)
  have HW := Lib.hid (show wordB p i l = (let k := nextN p i (l.length + 6)
    if (l.length : Int) ≤ k ∧ p.ws.length ≠ 0 ∧ k % 7 = 0 then (p.ws[(k % p.ws.length).toNat]?.getD ⟨#[]⟩).extract 0 (min (p.ws[(k % p.ws.length).toNat]?.getD ⟨#[]⟩).size 14)
    else l[(k % l.length).toNat]?.getD ⟨#[]⟩) from rfl)
  have hwl : p.ws.length = p.n2 := by have := h.pl.rw.1; simpa [strVals] using this
  generalize wordB p i l = r at *
  generalize nextN p i (l.length + 6) = k at *
  unfold maxLen at hcm
  have hnc2 := h.pl.nc2
  have hcm2 := h.pl.cm2
  unfold maxLen at hcm2
  clear h
  go_enter Try.func133, Try.ntmps133
  (go_wp2_with fail; (with_reducible refine (H1).mono ?_); rintro e w' ⟨rfl, hM, hg⟩)
  clear H1
  have hr2 := hr.grown hg hq
  obtain ⟨c0, c1, c2, c3, c4, hf⟩ := hM.cells
  have HM := Lib.hid hM
  by_cases hT : (l.length : Int) ≤ k ∧ p.ws.length ≠ 0 ∧ k % 7 = 0
  · obtain ⟨hk1, hk2, hk3⟩ := hT
    obtain ⟨j, hj⟩ : ∃ j : Nat, k % p.ws.length = j := ⟨(k % p.ws.length).toNat, by have := Int.emod_nonneg k (show (p.ws.length : Int) ≠ 0 by omega); omega⟩
    have hjl : j < p.ws.length := by have := Int.emod_lt_of_pos k (show (0 : Int) < p.ws.length by omega); omega
    have hjt : k.tmod (p.n2 : Int) = j := by rw [← hwl, Int.tmod_eq_emod_of_nonneg (by omega)]; exact hj
    have h7 : k.tmod 7 = 0 := by rw [Int.tmod_eq_emod_of_nonneg (by omega)]; exact hk3
    obtain ⟨y, ey, hyv⟩ := strVals_at hjl
    obtain ⟨ad, u, e1, hu, hc⟩ := hM.pl.rw.at1 (k := j) (by omega)
    obtain rfl : Value.string y = u := by rw [hyv] at hu; injection hu
    have hys := hM.pl.wf2 y (List.mem_of_getElem? ey)
    rw [e1] at c1
    have HR := Lib.hid (show r = y.extract 0 (min y.size 14) by rw [HW.out, if_pos ⟨hk1, hk2, hk3⟩, hj, Int.toNat_natCast, ey]; rfl)
    have hji : (j : Int) < (p.n2 : Int) := by omega
    have hn20 : (0 : Int) < (p.n2 : Int) := by omega
    have hn21 : (p.n2 : Int) ≠ 0 := by omega
    clear hM hu hyv ey hj hjl hk3 hk2 hwl e1 HW hr hr2
    generalize p.n2 = n2 at *
    generalize p.c2 = cc2 at *
    generalize p.a = a1 at *
    generalize p.n = n1 at *
    generalize p.c = cc1 at *
    go_wp2_with fail
    go_quiet (first | (go_at_call 97; refine Calls.quiet_of_same ((text_calls y 14 _ hys (by omega)).mono fun _ _ h => ⟨h.1, h.2.symm⟩)) | fail)
    go_wp2
    apply bodyPost_ret
    · exact results_tmp rfl _ _ _
    · rfl
    exact ⟨by rw [HR.out]; rfl, HM.out.ext ((Ext.refl _).drewN _), grown_trans hg (grown_ext ((Ext.refl _).drewN _) _)⟩
  · obtain ⟨j, hj⟩ : ∃ j : Nat, k % l.length = j := ⟨(k % l.length).toNat, by have := Int.emod_nonneg k (show (l.length : Int) ≠ 0 by omega); omega⟩
    have hjl : j < l.length := by have := Int.emod_lt_of_pos k (show (0 : Int) < l.length by omega); omega
    have hjt : k.tmod (l.length : Int) = j := by rw [Int.tmod_eq_emod_of_nonneg (by omega)]; exact hj
    have h7 : k.tmod 7 = k % 7 := by rw [Int.tmod_eq_emod_of_nonneg (by omega)]
    obtain ⟨y, ey, hyv⟩ := strVals_at hjl
    obtain ⟨ad, u, rfl, hu, hc⟩ := hr2.at1 hjl
    obtain rfl : Value.string y = u := by rw [hyv] at hu; injection hu
    have HR := Lib.hid (show r = y by rw [HW.out, if_neg hT, hj, Int.toNat_natCast, ey]; rfl)
    have hji : (j : Int) < (l.length : Int) := by omega
    have hln : (l.length : Int) ≠ 0 := by omega
    rw [hwl] at hT
    clear hM hu hyv ey hj hjl hwl HW hr hr2
    generalize p.n2 = n2 at *
    generalize p.c2 = cc2 at *
    generalize p.a = a1 at *
    generalize p.n = n1 at *
    generalize p.c = cc1 at *
    by_cases hk1 : (l.length : Int) ≤ k
    · by_cases hk2 : n2 = 0
      · subst hk2
        clear hT
        go_wp2
        apply bodyPost_ret
        · exact results_tmp rfl _ _ _
        · rfl
        exact ⟨by rw [HR.out]; rfl, HM.out, hg⟩
      · have hk3 : (k % 7 == 0) = false := by simp; exact fun h => hT ⟨hk1, hk2, h⟩
        have hk4 : (0 : Int) < n2 := by omega
        clear hT hk2
        go_wp2
        apply bodyPost_ret
        · exact results_tmp rfl _ _ _
        · rfl
        exact ⟨by rw [HR.out]; rfl, HM.out, hg⟩
    · clear hT
      go_wp2
      apply bodyPost_ret
      · exact results_tmp rfl _ _ _
      · rfl
      exact ⟨by rw [HR.out]; rfl, HM.out, hg⟩

end Go.Proofs.Ytgjjngkmbplijaa
