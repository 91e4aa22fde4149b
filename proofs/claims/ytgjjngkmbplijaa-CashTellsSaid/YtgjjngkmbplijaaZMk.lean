/- Texts put together: Maker, RegInv. -/
import Derived.Test.YtgjjngkmbplijaaZTr
import Derived.Test.YtgjjngkmbplijaaYLaw04
import Derived.Test.YtgjjngkmbplijaaBase
import Derived.RegionTactic
/- The maker of package play: a plan's numbers, taken one by one; words. -/
namespace Go.Proofs.Ytgjjngkmbplijaa
open Go.RowKit
set_option linter.unusedSimpArgs false
set_option linter.unusedVariables false

/-- A plan that came in: its two rows. -/
structure Pl where
  a : Option Addr
  n : Nat
  c : Nat
  l : List Int
  a2 : Option Addr
  n2 : Nat
  c2 : Nat
  ws : List ByteArray
def Pl.val (p : Pl) : Value := .agg #[.slice p.a p.n p.c, .slice p.a2 p.n2 p.c2]
structure Pl.In (p : Pl) (q : Nat → Prop) (w : World) : Prop where
  rn : Rd w 1 p.a p.n (ints p.l)
  nc : p.n ≤ p.c
  cm : p.c ≤ maxLen
  wf : ∀ x ∈ p.l, (Lit.int .i64 x).wf = true
  rw : Rd w 1 p.a2 p.n2 (strVals p.ws)
  nc2 : p.n2 ≤ p.c2
  cm2 : p.c2 ≤ maxLen
  wf2 : ∀ s ∈ p.ws, s.size ≤ maxLen
  qn : ∀ ad, p.a = some ad → p.n ≠ 0 → q ad.block
  qw : ∀ ad, p.a2 = some ad → p.n2 ≠ 0 → q ad.block
theorem Rd.grownZ {w w' : World} {size n : Nat} {a : Option Addr} {xs : List Value} {m : Nat} (h : Rd w size a n xs) (hg : w.grownBy w' (some m)) (hne : ∀ ad, a = some ad → n ≠ 0 → ad.block ≠ m) : Rd w' size a n xs := by
  by_cases hn : n = 0
  · subst hn
    have : xs = [] := List.eq_nil_of_length_eq_zero (by simpa using h.1)
    subst this
    exact ⟨h.1, fun j u hu => by simp at hu⟩
  · exact h.grown hg (fun ad e => hne ad e hn)
section
variable {q : Nat → Prop} {w w' : World} {p : Pl}
theorem Pl.In.ext (h : p.In q w) (hx : Ext w w') : p.In q w' := ⟨h.rn.ext hx, h.nc, h.cm, h.wf, h.rw.ext hx, h.nc2, h.cm2, h.wf2, h.qn, h.qw⟩
theorem Pl.In.grown {m : Nat} (h : p.In q w) (hq : ∀ b, q b → b ≠ m) (hg : w.grownBy w' (some m)) : p.In q w' :=
  ⟨h.rn.grownZ hg (fun ad e hn => hq _ (h.qn ad e hn)), h.nc, h.cm, h.wf, h.rw.grownZ hg (fun ad e hn => hq _ (h.qw ad e hn)), h.nc2, h.cm2, h.wf2, h.qn, h.qw⟩
end
theorem grown_trans {a b c : World} {row : Option Nat} (h : a.grownBy b row) (k : b.grownBy c row) : a.grownBy c row :=
  ⟨k.os.trans h.os, k.tape.trans h.tape, k.output.trans h.output, Nat.le_trans h.size k.size, fun i hi hne => (k.block i (Nat.lt_of_lt_of_le hi h.size) hne).trans (h.block i hi hne)⟩
theorem grown_ext {a b : World} (h : Ext a b) (row : Option Nat) : a.grownBy b row := ⟨h.os, h.tape, h.output, h.size, fun i hi _ => Ext.block h hi⟩

/-- The maker at block m: its plan, how many numbers were taken, how many parts may still be made, the last label. -/
structure Mk (w : World) (m : Nat) (p : Pl) (i : Nat) (left label : Int) : Prop where
  blk : w.heap[m]? = some (.cells #[.slice p.a p.n p.c, .slice p.a2 p.n2 p.c2, .int .i64 i, .int .i64 left, .int .i64 label] 192 (0, 0))
  pl : p.In (· < m) w
theorem Mk.cells {w : World} {m : Nat} {p : Pl} {i : Nat} {left label : Int} (h : Mk w m p i left label) :
    w.cell? ⟨m, 0, none⟩ = some (.slice p.a p.n p.c) ∧ w.cell? ⟨m, 1, none⟩ = some (.slice p.a2 p.n2 p.c2) ∧ w.cell? ⟨m, 2, none⟩ = some (.int .i64 i) ∧ w.cell? ⟨m, 3, none⟩ = some (.int .i64 left) ∧ w.cell? ⟨m, 4, none⟩ = some (.int .i64 label) ∧ ∀ o, w.frozen? ⟨m, o, none⟩ = false := by
  have hb := h.blk
  refine ⟨?_, ?_, ?_, ?_, ?_, fun o => ?_⟩
  all_goals simp [World.cell?, World.frozen?, hb]
theorem Mk.ext {w w' : World} {m : Nat} {p : Pl} {i : Nat} {left label : Int} (h : Mk w m p i left label) (hx : Ext w w') : Mk w' m p i left label := ⟨hx.obj h.blk, h.pl.ext hx⟩

theorem setCell_block (w : World) (m o : Nat) (v : Value) {cs : Array Value} {e : TypeId} {fz : Nat × Nat} (h : w.heap[m]? = some (.cells cs e fz)) : (w.setCell ⟨m, o, none⟩ v).heap[m]? = some (.cells (cs.setIfInBounds o v) e fz) := by
  simp [World.setCell, Array.getElem?_modify, h]
theorem setCell_grown (w : World) (m o : Nat) (v : Value) : w.grownBy (w.setCell ⟨m, o, none⟩ v) (some m) :=
  ⟨rfl, rfl, rfl, by simp [World.setCell], fun k hk hne => by
    have : m ≠ k := fun e => hne (by rw [e])
    simp [World.setCell, Array.getElem?_modify, this]⟩
theorem Mk.setI {w : World} {m : Nat} {p : Pl} {i : Nat} {left label : Int} (h : Mk w m p i left label) (x : Nat) : Mk (w.setCell ⟨m, 2, none⟩ (.int .i64 x)) m p x left label :=
  ⟨by rw [setCell_block w m 2 _ h.blk]; rfl, h.pl.grown (fun _ hb => Nat.ne_of_lt hb) (setCell_grown w m 2 _)⟩
theorem Mk.setLeft {w : World} {m : Nat} {p : Pl} {i : Nat} {left label : Int} (h : Mk w m p i left label) (x : Int) : Mk (w.setCell ⟨m, 3, none⟩ (.int .i64 x)) m p i x label :=
  ⟨by rw [setCell_block w m 3 _ h.blk]; rfl, h.pl.grown (fun _ hb => Nat.ne_of_lt hb) (setCell_grown w m 3 _)⟩
theorem Mk.setLabel {w : World} {m : Nat} {p : Pl} {i : Nat} {left label : Int} (h : Mk w m p i left label) (x : Int) : Mk (w.setCell ⟨m, 4, none⟩ (.int .i64 x)) m p i left x :=
  ⟨by rw [setCell_block w m 4 _ h.blk]; rfl, h.pl.grown (fun _ hb => Nat.ne_of_lt hb) (setCell_grown w m 4 _)⟩

/-- The number that is next (0 behind the last one). -/
def nextN (p : Pl) (i : Nat) (of : Int) : Int := (p.l[i]?.getD 0) % of
/-- A value comes back; the maker is at its next number; nothing else that was there has turned. -/
def RetMk (w : World) (m : Nat) (p : Pl) (i : Nat) (left label : Int) (v : Value) (e : Ending) (w' : World) : Prop :=
  e = .returned v ∧ Mk w' m p i left label ∧ w.grownBy w' (some m)

set_option maxRecDepth 100000 in
set_option maxHeartbeats 800000 in
theorem mn_calls (w : World) (m : Nat) (p : Pl) (i : Nat) (left label of : Int) (h : Mk w m p i left label) (hi : i < 2 ^ 40) (h1 : 1 ≤ of) (h2 : of ≤ 1000) :
    Calls Try.prog 132 #[.pointer (some ⟨m, 0, none⟩), .int .i64 of] w fun e w' => RetMk w m p (i + 1) left label (.int .i64 (nextN p i of)) e w' := by
  have HM := Lib.hid h
  obtain ⟨c0, c1, c2, c3, c4, hf⟩ := h.cells
  have hnc := h.pl.nc
  have hcm := h.pl.cm
  unfold maxLen at hcm
  have hlen : p.l.length = p.n := by have := h.pl.rn.1; simpa [ints] using this
  by_cases hlt : i < p.n
  · obtain ⟨ad, u, e1, hu, hc⟩ := h.pl.rn.at1 hlt
    simp only [ints, List.getElem?_map] at hu
    cases hx : p.l[i]? with
    | none => rw [hx] at hu; cases hu
    | some x =>
      rw [hx] at hu
      obtain rfl : u = .int .i64 x := by simpa using hu.symm
      have hb := i64_of (h.pl.wf x (List.mem_of_getElem? hx))
      have hne := Nat.ne_of_lt (h.pl.qn ad e1 (by omega))
      have HN := Lib.hid (show nextN p i of = x % of by unfold nextN; rw [hx]; rfl)
      rw [e1] at c0
      generalize nextN p i of = r at *
      have hc' : ∀ o v, (w.setCell ⟨m, o, none⟩ v).cell? (ad.add i) = some (.int .i64 x) := fun o v => (setCell_grown w m o v).cell hc (by rw [add_block]; intro e2; injection e2 with e2; exact hne e2)
      have ht : (i : Int) < (p.n : Int) := by omega
      clear h hu hx hlen e1
      generalize p.n = n at *
      generalize p.c = c at *
      generalize p.a2 = a2 at *
      generalize p.n2 = n2 at *
      generalize p.c2 = cc2 at *
      go_enter Try.func132, Try.ntmps132
      go_wp2_with fail
      go_quiet (fail)
      go_wp2_with fail
      go_quiet (fail)
      (go_wp2_with fail; (with_reducible refine (within_calls _ _ _ (by omega) (by omega) hb.1 hb.2).mono ?_); rintro e w' ⟨rfl, rfl⟩)
      go_wp2
      apply bodyPost_ret
      · exact results_tmp rfl _ _ _
      · rfl
      exact ⟨by rw [HN.out]; rfl, (HM.out.ext ((Ext.refl w).drewN _)).setI (i + 1), grown_trans (grown_ext ((Ext.refl w).drewN _) _) (setCell_grown _ _ _ _)⟩
  · have HN := Lib.hid (show nextN p i of = 0 % of by unfold nextN; rw [List.getElem?_eq_none (by omega)]; rfl)
    have ht : decide ((i : Int) < (p.n : Int)) = false := by simp; omega
    generalize nextN p i of = r at *
    clear h hlen ht
    generalize p.a = a at *
    generalize p.n = n at *
    generalize p.c = c at *
    generalize p.a2 = a2 at *
    generalize p.n2 = n2 at *
    generalize p.c2 = cc2 at *
    go_enter Try.func132, Try.ntmps132
    go_wp2_with fail
    go_quiet (fail)
    (go_wp2_with fail; (with_reducible refine (within_calls 0 _ _ (by omega) (by omega) (by omega) (by omega)).mono ?_); rintro e w' ⟨rfl, rfl⟩)
    go_wp2
    apply bodyPost_ret
    · exact results_tmp rfl _ _ _
    · rfl
    exact ⟨by rw [HN.out]; rfl, (HM.out.ext ((Ext.refl w).drewN _)).setI (i + 1), grown_trans (grown_ext ((Ext.refl w).drewN _) _) (setCell_grown _ _ _ _)⟩

/-- A word of few, or the plan's. -/
def wordB (p : Pl) (i : Nat) (l : List ByteArray) : ByteArray :=
  let k := nextN p i (l.length + 6)
  if (l.length : Int) ≤ k ∧ p.ws.length ≠ 0 ∧ k % 7 = 0 then (p.ws[(k % p.ws.length).toNat]?.getD ⟨#[]⟩).extract 0 (min (p.ws[(k % p.ws.length).toNat]?.getD ⟨#[]⟩).size 14)
  else l[(k % l.length).toNat]?.getD ⟨#[]⟩
theorem nextN_lo (p : Pl) (i : Nat) (of : Int) (h : 1 ≤ of) : 0 ≤ nextN p i of := Int.emod_nonneg _ (by omega)
theorem nextN_hi (p : Pl) (i : Nat) (of : Int) (h : 1 ≤ of) : nextN p i of < of := Int.emod_lt_of_pos _ (by omega)

set_option maxRecDepth 100000 in
set_option maxHeartbeats 800000 in
theorem mword_calls (w : World) (m : Nat) (p : Pl) (i : Nat) (left label : Int) (l : List ByteArray) (a : Option Addr) (c : Nat) (h : Mk w m p i left label) (hi : i < 2 ^ 40)
    (hr : Rd w 1 a l.length (strVals l)) (hnc : l.length ≤ c) (hcm : c ≤ maxLen) (hq : ∀ ad, a = some ad → ad.block ≠ m) (hl : 1 ≤ l.length ∧ l.length ≤ 10) :
    Calls Try.prog 133 #[.pointer (some ⟨m, 0, none⟩), .slice a l.length c] w fun e w' => RetMk w m p (i + 1) left label (.string (wordB p i l)) e w' := by
  have H1 := mn_calls w m p i left label (l.length + 6) h hi (by omega) (by omega)
  have k1 := nextN_lo p i (l.length + 6) (by omega)
  have k2 := nextN_hi p i (l.length + 6) (by omega)
  have HW := Lib.hid (show wordB p i l = (let k := nextN p i (l.length + 6)
    if (l.length : Int) ≤ k ∧ p.ws.length ≠ 0 ∧ k % 7 = 0 then (p.ws[(k % p.ws.length).toNat]?.getD ⟨#[]⟩).extract 0 (min (p.ws[(k % p.ws.length).toNat]?.getD ⟨#[]⟩).size 14)
    else l[(k % l.length).toNat]?.getD ⟨#[]⟩) from rfl)
  have hwl : p.ws.length = p.n2 := by have := h.pl.rw.1; simpa [strVals] using this
  generalize wordB p i l = r at *
  generalize nextN p i (l.length + 6) = k at *
  unfold maxLen at hcm
  have hnc2 := h.pl.nc2
  have hcm2 := h.pl.cm2
  unfold maxLen at hcm2
  clear h
  go_enter Try.func133, Try.ntmps133
  (go_wp2_with fail; (with_reducible refine (H1).mono ?_); rintro e w' ⟨rfl, hM, hg⟩)
  clear H1
  have hr2 := hr.grown hg hq
  obtain ⟨c0, c1, c2, c3, c4, hf⟩ := hM.cells
  have HM := Lib.hid hM
  by_cases hT : (l.length : Int) ≤ k ∧ p.ws.length ≠ 0 ∧ k % 7 = 0
  · obtain ⟨hk1, hk2, hk3⟩ := hT
    obtain ⟨j, hj⟩ : ∃ j : Nat, k % p.ws.length = j := ⟨(k % p.ws.length).toNat, by have := Int.emod_nonneg k (show (p.ws.length : Int) ≠ 0 by omega); omega⟩
    have hjl : j < p.ws.length := by have := Int.emod_lt_of_pos k (show (0 : Int) < p.ws.length by omega); omega
    have hjt : k.tmod (p.n2 : Int) = j := by rw [← hwl, Int.tmod_eq_emod_of_nonneg (by omega)]; exact hj
    have h7 : k.tmod 7 = 0 := by rw [Int.tmod_eq_emod_of_nonneg (by omega)]; exact hk3
    obtain ⟨y, ey, hyv⟩ := strVals_at hjl
    obtain ⟨ad, u, e1, hu, hc⟩ := hM.pl.rw.at1 (k := j) (by omega)
    obtain rfl : Value.string y = u := by rw [hyv] at hu; injection hu
    have hys := hM.pl.wf2 y (List.mem_of_getElem? ey)
    rw [e1] at c1
    have HR := Lib.hid (show r = y.extract 0 (min y.size 14) by rw [HW.out, if_pos ⟨hk1, hk2, hk3⟩, hj, Int.toNat_natCast, ey]; rfl)
    have hji : (j : Int) < (p.n2 : Int) := by omega
    have hn20 : (0 : Int) < (p.n2 : Int) := by omega
    have hn21 : (p.n2 : Int) ≠ 0 := by omega
    clear hM hu hyv ey hj hjl hk3 hk2 hwl e1 HW hr hr2
    generalize p.n2 = n2 at *
    generalize p.c2 = cc2 at *
    generalize p.a = a1 at *
    generalize p.n = n1 at *
    generalize p.c = cc1 at *
    go_wp2_with fail
    go_quiet (first | (go_at_call 97; refine Calls.quiet_of_same ((text_calls y 14 _ hys (by omega)).mono fun _ _ h => ⟨h.1, h.2.symm⟩)) | fail)
    go_wp2
    apply bodyPost_ret
    · exact results_tmp rfl _ _ _
    · rfl
    exact ⟨by rw [HR.out]; rfl, HM.out.ext ((Ext.refl _).drewN _), grown_trans hg (grown_ext ((Ext.refl _).drewN _) _)⟩
  · obtain ⟨j, hj⟩ : ∃ j : Nat, k % l.length = j := ⟨(k % l.length).toNat, by have := Int.emod_nonneg k (show (l.length : Int) ≠ 0 by omega); omega⟩
    have hjl : j < l.length := by have := Int.emod_lt_of_pos k (show (0 : Int) < l.length by omega); omega
    have hjt : k.tmod (l.length : Int) = j := by rw [Int.tmod_eq_emod_of_nonneg (by omega)]; exact hj
    have h7 : k.tmod 7 = k % 7 := by rw [Int.tmod_eq_emod_of_nonneg (by omega)]
    obtain ⟨y, ey, hyv⟩ := strVals_at hjl
    obtain ⟨ad, u, rfl, hu, hc⟩ := hr2.at1 hjl
    obtain rfl : Value.string y = u := by rw [hyv] at hu; injection hu
    have HR := Lib.hid (show r = y by rw [HW.out, if_neg hT, hj, Int.toNat_natCast, ey]; rfl)
    have hji : (j : Int) < (l.length : Int) := by omega
    have hln : (l.length : Int) ≠ 0 := by omega
    rw [hwl] at hT
    clear hM hu hyv ey hj hjl hwl HW hr hr2
    generalize p.n2 = n2 at *
    generalize p.c2 = cc2 at *
    generalize p.a = a1 at *
    generalize p.n = n1 at *
    generalize p.c = cc1 at *
    by_cases hk1 : (l.length : Int) ≤ k
    · by_cases hk2 : n2 = 0
      · subst hk2
        clear hT
        go_wp2
        apply bodyPost_ret
        · exact results_tmp rfl _ _ _
        · rfl
        exact ⟨by rw [HR.out]; rfl, HM.out, hg⟩
      · have hk3 : (k % 7 == 0) = false := by simp; exact fun h => hT ⟨hk1, hk2, h⟩
        have hk4 : (0 : Int) < n2 := by omega
        clear hT hk2
        go_wp2
        apply bodyPost_ret
        · exact results_tmp rfl _ _ _
        · rfl
        exact ⟨by rw [HR.out]; rfl, HM.out, hg⟩
    · clear hT
      go_wp2
      apply bodyPost_ret
      · exact results_tmp rfl _ _ _
      · rfl
      exact ⟨by rw [HR.out]; rfl, HM.out, hg⟩

end Go.Proofs.Ytgjjngkmbplijaa

/- A region that draws its order, by an invariant over what of it is done: one step for each operation, whatever the order. -/
namespace Go.Proofs.Ytgjjngkmbplijaa
open Go.RowKit
set_option linter.unusedSimpArgs false
set_option linter.unusedVariables false

/-- Operation j is done. -/
def Dn (l : Array Bool) (j : Nat) : Prop := l.getD j false = true
theorem Dn.set {l : Array Bool} {i j : Nat} (h : Dn (l.setIfInBounds i true) j) (hne : i ≠ j) : Dn l j := by
  unfold Dn at *
  rwa [getD_set_ne false hne] at h
theorem Dn.of_true {l : Array Bool} {i : Nat} (hi : i < l.size) : Dn (l.setIfInBounds i true) i := by
  unfold Dn
  simp [hi]
theorem Dn.keep {l : Array Bool} {i j : Nat} (h : Dn l j) : Dn (l.setIfInBounds i true) j := getD_set_true h
theorem dn_none (n j : Nat) : ¬ Dn (Array.replicate n false) j := by
  intro hd
  unfold Dn at hd
  rcases Nat.lt_or_ge j n with h | h
  · simp [h] at hd
  · simp [h] at hd
/-- Each edge goes back. -/
def backB (md : Region.Mode) (ops : Array Oper) : Bool :=
  (List.range ops.size).all fun i => match ops[i]? with
    | some o => o.after.all fun e => !Region.binds md e || decide (e.on < i)
    | none => true
def freeN (l : Array Bool) : Nat := (l.toList.filter (fun b => !b)).length
theorem freeN_set {l : Array Bool} {i : Nat} (h : l.getD i true = false) : freeN (l.setIfInBounds i true) + 1 = freeN l := by
  have hi : i < l.size := by
    rcases Nat.lt_or_ge i l.size with h' | h'
    · exact h'
    · simp [Array.getElem?_eq_none h'] at h
  have hg : l[i] = false := by simpa [hi] using h
  obtain ⟨l⟩ := l
  simp only [freeN, List.size_toArray] at *
  have hg' : l[i] = false := by simpa using hg
  have e1 : l = l.take i ++ false :: l.drop (i + 1) := by
    have h1 := (List.take_append_drop i l).symm
    rw [List.drop_eq_getElem_cons hi, hg'] at h1
    exact h1
  have e2 : (List.toArray l).setIfInBounds i true = List.toArray (l.set i true) := by simp
  rw [e2]
  show (List.filter (fun b => !b) (l.set i true)).length + 1 = (List.filter (fun b => !b) l).length
  rw [List.set_eq_take_append_cons_drop, if_pos (show i < l.length from hi)]
  conv => rhs; rw [e1]
  simp only [List.filter_append, List.filter_cons, List.length_append]
  simp
  omega

section
variable {P : Program} {md : Region.Mode} {ops : Array Oper} {Q : Exit → Act → World → Prop}
theorem all_done (hb : backB md ops = true) {l : Array Bool} (hs : l.size = ops.size) (hr : Region.ready md ops l = []) : ∀ i, i < ops.size → Dn l i := by
  intro i
  induction i using Nat.strongRecOn with
  | _ i ih =>
    intro hi
    cases hd : l.getD i true with
    | true =>
      have : i < l.size := by omega
      unfold Dn
      simpa [this] using hd
    | false =>
      exfalso
      have hmem : i ∈ Region.ready md ops l := by
        refine mem_ready.2 ⟨hd, ops[i], Array.getElem?_eq_getElem hi, fun e he hbd => ?_⟩
        have h1 := List.all_eq_true.1 hb i (List.mem_range.2 hi)
        rw [Array.getElem?_eq_getElem hi] at h1
        have h2 := Array.all_eq_true_iff_forall_mem.1 h1 e he
        simp only [hbd, Bool.not_true, Bool.false_or, decide_eq_true_eq] at h2
        exact ih _ h2 (by omega)
      rw [hr] at hmem
      cases hmem
/-- What is done has all done that it waits for. -/
def Closed (md : Region.Mode) (ops : Array Oper) (l : Array Bool) : Prop := ∀ j oj, ops[j]? = some oj → Dn l j → ∀ e ∈ oj.after, Region.binds md e = true → Dn l e.on
theorem Closed.set {l : Array Bool} {i : Nat} {o : Oper} (h : Closed md ops l) (ho : ops[i]? = some o) (hd : ∀ e ∈ o.after, Region.binds md e = true → Dn l e.on) : Closed md ops (l.setIfInBounds i true) := by
  intro j oj hj hdn e he hb
  by_cases hij : i = j
  · subst hij
    rw [ho] at hj
    injection hj with hj
    subst hj
    exact (hd e he hb).keep
  · exact (h j oj hj (hdn.set hij) e he hb).keep
theorem wpAny_inv (I : Array Bool → Act → World → Prop) (hb : backB md ops = true)
    (hstep : ∀ (i : Nat) (o : Oper), ops[i]? = some o → ∀ l a w, l.size = ops.size → Closed md ops l → I l a w → l.getD i true = false → (∀ e ∈ o.after, Region.binds md e = true → Dn l e.on) → wpOp P ops Q i (I (l.setIfInBounds i true)) a w)
    (hend : ∀ l a w, l.size = ops.size → I l a w → (∀ i, i < ops.size → Dn l i) → Q .normal a w) :
    ∀ (fuel : Nat) l a w, l.size = ops.size → Closed md ops l → freeN l ≤ fuel → I l a w → wpAny P md ops Q fuel l a w := by
  intro fuel
  induction fuel with
  | zero =>
    intro l a w hs _ hf hI
    have hr : Region.ready md ops l = [] := by
      cases hr : Region.ready md ops l with
      | nil => rfl
      | cons i r =>
        have hi : i ∈ Region.ready md ops l := by rw [hr]; exact List.mem_cons_self ..
        obtain ⟨h1, _⟩ := mem_ready.1 hi
        have := freeN_set h1
        omega
    exact ⟨hr, hend l a w hs hI (all_done hb hs hr)⟩
  | succ fuel ih =>
    intro l a w hs hc hf hI
    refine ⟨fun hr => hend l a w hs hI (all_done hb hs hr), fun i hi => ?_⟩
    obtain ⟨h1, o, ho, h2⟩ := mem_ready.1 hi
    exact wpOp_mono (fun a' w' hI' => ih _ a' w' (by simpa using hs) (hc.set ho h2) (by have := freeN_set h1; omega) hI') (hstep i o ho l a w hs hc hI h1 h2)
/-- The law: an invariant that holds at the beginning, that each operation keeps, and that tells enough at the end. -/
theorem wp_region_inv {id : Nat} {a : Act} {w : World} (I : Array Bool → Act → World → Prop) (hm : P.follows .mixedOrders = true) (hb : backB .any ops = true)
    (h0 : I (Array.replicate ops.size false) a w.drew)
    (hstep : ∀ (i : Nat) (o : Oper), ops[i]? = some o → ∀ l a w, l.size = ops.size → Closed .any ops l → I l a w → l.getD i true = false → (∀ e ∈ o.after, Region.binds .any e = true → Dn l e.on) → wpOp P ops Q i (I (l.setIfInBounds i true)) a w)
    (hend : ∀ l a w, l.size = ops.size → I l a w → (∀ i, i < ops.size → Dn l i) → Q .normal a w) : (Code.region id ops true).wp P Q a w :=
  wp_region_any hm (wpAny_inv I hb hstep hend _ _ a _ (by simp) (fun j oj _ hd => absurd hd (dn_none _ _)) (by simp [freeN]) h0)
/-- Each operation ahead of the last one is waited for by a later one. -/
def lastB (ops : Array Oper) (n : Nat) : Bool :=
  (List.range n).all fun i => (List.range (n + 1)).any fun j => decide (i < j) && match ops[j]? with
    | some o => o.after.any fun e => Region.binds .any e && e.on == i
    | none => false
theorem all_ahead {n : Nat} {on : Oper} (hl : lastB ops n = true) (hon : ops[n]? = some on) {l : Array Bool} (hc : Closed .any ops l) (hd : ∀ e ∈ on.after, Region.binds .any e = true → Dn l e.on) : ∀ (d i : Nat), n - i = d → i < n → Dn l i := by
  intro d
  induction d using Nat.strongRecOn with
  | _ d ih =>
    intro i hid hi
    have h1 := List.all_eq_true.1 hl i (List.mem_range.2 hi)
    obtain ⟨j, hj, h2⟩ := List.any_eq_true.1 h1
    simp only [Bool.and_eq_true, decide_eq_true_eq] at h2
    obtain ⟨hij, h3⟩ := h2
    have hjn := List.mem_range.1 hj
    cases hoj : ops[j]? with
    | none => rw [hoj] at h3; cases h3
    | some oj =>
      rw [hoj] at h3
      obtain ⟨e, he, h4⟩ := Array.any_eq_true'.1 h3
      simp only [Bool.and_eq_true, beq_iff_eq] at h4
      by_cases hjn2 : j = n
      · subst hjn2
        rw [hon] at hoj
        injection hoj with hoj
        subst hoj
        have := hd e he h4.1
        rwa [h4.2] at this
      · have hdj := ih (n - j) (by omega) j rfl (by omega)
        have := hc j oj hoj hdj e he h4.1
        rwa [h4.2] at this
/-- What one operation has to show: the invariant is kept. -/
def StepOk (P : Program) (ops : Array Oper) (Q : Exit → Act → World → Prop) (I : Array Bool → Act → World → Prop) (i : Nat) (o : Oper) : Prop :=
  ∀ l a w, l.size = ops.size → I l a w → l.getD i true = false → (∀ e ∈ o.after, Region.binds .any e = true → Dn l e.on) →
    ∀ K : Act → World → Prop, (∀ a' w', I (l.setIfInBounds i true) a' w' → K a' w') → if Region.wanted o (yielded ops a.tmps) = true then Oper.wp P o a w K Q else K (a.put o.dst undef) w
theorem steps_nil {I : Array Bool → Act → World → Prop} : ∀ j ∈ ([] : List Nat), ∀ o, ops[j]? = some o → StepOk P ops Q I j o := fun _ h => by cases h
theorem steps_cons {I : Array Bool → Act → World → Prop} {i : Nat} {o : Oper} {rs : List Nat} (ho : ops[i]? = some o) (h : StepOk P ops Q I i o) (hs : ∀ j ∈ rs, ∀ o, ops[j]? = some o → StepOk P ops Q I j o) :
    ∀ j ∈ i :: rs, ∀ o, ops[j]? = some o → StepOk P ops Q I j o := by
  intro j hj o' ho'
  rcases List.mem_cons.1 hj with rfl | hj
  · rw [ho] at ho'
    injection ho' with ho'
    subst ho'
    exact h
  · exact hs j hj o' ho'
/-- The same, where the last operation waits for all others. -/
theorem wp_region_last {id : Nat} {a : Act} {w : World} (n : Nat) (on : Oper) (I : Array Bool → Act → World → Prop) (hm : P.follows .mixedOrders = true) (hn : ops.size = n + 1) (hb : backB .any ops = true) (hl : lastB ops n = true) (hon : ops[n]? = some on)
    (h0 : I (Array.replicate ops.size false) a w.drew)
    (hstep : ∀ j ∈ List.range n, ∀ o, ops[j]? = some o → StepOk P ops Q I j o)
    (hlast : ∀ l a w, I l a w → (∀ i, i < n → Dn l i) → ∀ K : Act → World → Prop, (∀ a' w', Q .normal a' w' → K a' w') → if Region.wanted on (yielded ops a.tmps) = true then Oper.wp P on a w K Q else K (a.put on.dst undef) w) : (Code.region id ops true).wp P Q a w := by
  refine wp_region_inv (fun l a w => (l.getD n true = false ∧ I l a w) ∨ ((∀ i, i < n + 1 → Dn l i) ∧ Q .normal a w)) hm hb ?_ ?_ ?_
  · refine .inl ⟨?_, h0⟩
    have : n < (Array.replicate ops.size false).size := by simp; omega
    simp [hn]
  · intro i o ho l a w hs hcl hI hi hd
    have hin : i < n + 1 := by rw [← hn]; exact (Array.getElem?_eq_some_iff.1 ho).1
    rcases hI with ⟨hne, hI⟩ | ⟨hall, hQ⟩
    · by_cases hin2 : i = n
      · subst hin2
        rw [hon] at ho
        injection ho with ho
        subst ho
        have hall : ∀ j, j < i → Dn l j := fun j hj => all_ahead hl hon hcl hd _ j rfl hj
        refine wpOp_step hon (fun K hK => hlast l a w hI hall K (fun a' w' hq => hK a' w' (.inr ⟨fun j hj => ?_, hq⟩)))
        by_cases hji : j = i
        · subst hji; exact Dn.of_true (by omega)
        · exact (hall j (by omega)).keep
      · refine wpOp_step ho (fun K hK => hstep i (List.mem_range.2 (by omega)) o ho l a w hs hI hi hd K (fun a' w' h => hK a' w' (.inl ⟨?_, h⟩)))
        rw [getD_set_ne true hin2]
        exact hne
    · exfalso
      have := hall i hin
      unfold Dn at this
      have h2 : i < l.size := by omega
      simp [h2] at this hi
      rw [hi] at this
      cases this
  · intro l a w hs hI hall
    rcases hI with ⟨hne, hI⟩ | ⟨_, hQ⟩
    · exfalso
      have := hall n (by omega)
      unfold Dn at this
      have h2 : n < l.size := by omega
      simp [h2] at this hne
      rw [hne] at this
      cases this
    · exact hQ
end

/-- A slot behind a store into another one. -/
theorem ev_put {a : Act} {d t : Tmp} {v : Value} (h : t ≠ d) : (a.put (some d) v).eval (.tmp t) = a.eval (.tmp t) := Act.eval_put (fun e he => by injection he with he; subst he; intro e2; injection e2 with e2; exact h e2)
theorem ev_same {a : Act} {d : Tmp} {v : Value} (h : d < a.tmps.size) : (a.put (some d) v).eval (.tmp d) = v := by
  simp [Act.eval, Act.put, h]
theorem put_size {a : Act} {d : Tmp} {v : Value} : (a.put (some d) v).tmps.size = a.tmps.size := by simp [Act.put]
theorem put_defers' {a : Act} {d : Tmp} {v : Value} : (a.put (some d) v).defers = a.defers := rfl


/-- The frame is as at first but for the slots ds. -/
structure Off (ds : List Tmp) (a0 a : Act) : Prop where
  size : a.tmps.size = a0.tmps.size
  defers : a.defers = a0.defers
  slot : ∀ t : Nat, t ∉ ds → a.tmps[t]? = a0.tmps[t]?
theorem Off.ev {ds : List Tmp} {a0 a : Act} (h : Off ds a0 a) (t : Nat) (ht : (ds.contains t) = false) : a.tmps[t]?.getD undef = a0.tmps[t]?.getD undef := by
  rw [h.slot t (fun hm => by simp [hm] at ht)]
theorem Off.put {ds : List Tmp} {a0 a : Act} (h : Off ds a0 a) {d : Tmp} (hd : d ∈ ds) (v : Value) : Off ds a0 (a.put (some d) v) :=
  ⟨put_size.trans h.size, h.defers, fun t ht => by
    have hne : d ≠ t := fun e => ht (e ▸ hd)
    have : (a.put (some d) v).tmps[t]? = a.tmps[t]? := by simp [Act.put, Array.getElem?_setIfInBounds_ne hne]
    rw [this]; exact h.slot t ht⟩
/-- The frame written out: the slots ds stored one by one. -/
theorem Off.puts {ds : List Tmp} {a0 a : Act} (h : Off ds a0 a) : a = ds.foldl (fun b d => b.put (some d) (a.tmps[d]?.getD undef)) a0 := by
  have key : ∀ (es : List Tmp) (b : Act), b.tmps.size = a.tmps.size → b.defers = a.defers → (∀ t : Nat, t ∉ es → b.tmps[t]? = a.tmps[t]?) → a = es.foldl (fun b d => b.put (some d) (a.tmps[d]?.getD undef)) b := by
    intro es
    induction es with
    | nil =>
      intro b h1 h2 h3
      have : b.tmps = a.tmps := Array.ext_getElem? (fun t => h3 t (by simp))
      obtain ⟨bt, bd⟩ := b
      obtain ⟨at', ad⟩ := a
      simp only at this h2
      subst this h2
      rfl
    | cons d r ih =>
      intro b h1 h2 h3
      rw [List.foldl_cons]
      refine ih _ (by simp [Act.put, h1]) h2 (fun t ht => ?_)
      by_cases htd : t = d
      · subst htd
        by_cases hlt : t < a.tmps.size
        · have : t < b.tmps.size := by omega
          simp [Act.put, this, hlt]
        · have : ¬ t < b.tmps.size := by omega
          simp [Act.put, this, hlt]
      · have hne : d ≠ t := fun e => htd e.symm
        have : (b.put (some d) (a.tmps[d]?.getD undef)).tmps[t]? = b.tmps[t]? := by simp [Act.put, Array.getElem?_setIfInBounds_ne hne]
        rw [this]
        exact h3 t (by simp [htd, ht])
  exact key ds a0 h.size.symm h.defers.symm (fun t ht => (h.slot t ht).symm)
section
variable {P : Program} {ops : Array Oper} {Q : Exit → Act → World → Prop}
/-- What one operation has to show, by what each slot holds once it is written: F; and what holds of the world meanwhile: G. -/
def SlotStep (P : Program) (ops : Array Oper) (Q : Exit → Act → World → Prop) (ds : List Tmp) (a0 : Act) (F : Nat → World → Value → Prop) (G : Array Bool → World → Prop) (i : Nat) (o : Oper) : Prop :=
  ∀ l a w, l.size = ops.size → Off ds a0 a → G l w → (∀ e ∈ o.after, Region.binds .any e = true → F e.on w (a.tmps[ds.getD e.on 0]?.getD undef)) → ¬ Dn l i →
    ∀ K : Act → World → Prop, (∀ v w', F i w' v → G (l.setIfInBounds i true) w' → (∀ j v', j ≠ i → F j w v' → F j w' v') → K (a.put (some (ds.getD i 0)) v) w') → if Region.wanted o (yielded ops a.tmps) = true then Oper.wp P o a w K Q else K (a.put o.dst undef) w
theorem slots_nil {ds : List Tmp} {a0 : Act} {F : Nat → World → Value → Prop} {G : Array Bool → World → Prop} : ∀ j ∈ ([] : List Nat), ∀ o, ops[j]? = some o → SlotStep P ops Q ds a0 F G j o := fun _ h => by cases h
theorem slots_cons {ds : List Tmp} {a0 : Act} {F : Nat → World → Value → Prop} {G : Array Bool → World → Prop} {i : Nat} {o : Oper} {rs : List Nat} (ho : ops[i]? = some o) (h : SlotStep P ops Q ds a0 F G i o) (hs : ∀ j ∈ rs, ∀ o, ops[j]? = some o → SlotStep P ops Q ds a0 F G j o) :
    ∀ j ∈ i :: rs, ∀ o, ops[j]? = some o → SlotStep P ops Q ds a0 F G j o := by
  intro j hj o' ho'
  rcases List.mem_cons.1 hj with rfl | hj
  · rw [ho] at ho'
    injection ho' with ho'
    subst ho'
    exact h
  · exact hs j hj o' ho'
/-- A region that draws its order, the last operation behind all others; by the slots that it writes. -/
theorem wp_region_slots {id : Nat} {a0 : Act} {w : World} (n : Nat) (rs : List Nat) (on : Oper) (ds : List Tmp) (F : Nat → World → Value → Prop) (G : Array Bool → World → Prop) (hm : P.follows .mixedOrders = true) (hn : ops.size = n + 1) (hb : backB .any ops = true) (hl : lastB ops n = true) (hon : ops[n]? = some on)
    (hrs : List.range n = rs) (hlen : ds.length = n) (hnd : ds.Nodup) (hsz : (ds.all fun d => decide (d < a0.tmps.size)) = true)
    (h0 : G (Array.replicate (n + 1) false) w.drew)
    (hstep : ∀ j ∈ rs, ∀ o, ops[j]? = some o → SlotStep P ops Q ds a0 F G j o)
    (hlast : ∀ l a w, Off ds a0 a → G l w → (∀ i, i < n → Dn l i) → (∀ i, i < n → F i w (a.tmps[ds.getD i 0]?.getD undef)) → ∀ K : Act → World → Prop, (∀ a' w', Q .normal a' w' → K a' w') → if Region.wanted on (yielded ops a.tmps) = true then Oper.wp P on a w K Q else K (a.put on.dst undef) w) : (Code.region id ops true).wp P Q a0 w := by
  subst hrs
  refine wp_region_last n on (fun l a w => Off ds a0 a ∧ G l w ∧ ∀ i, i < n → Dn l i → F i w (a.tmps[ds.getD i 0]?.getD undef)) hm hn hb hl hon ?_ ?_ ?_
  · refine ⟨⟨rfl, rfl, fun _ _ => rfl⟩, by rw [hn]; exact h0, fun i _ hd => ?_⟩
    exact absurd hd (dn_none _ _)
  · intro i hi o ho l a w hs ⟨hoff, hG, hF⟩ hne hdep K hK
    have hin := List.mem_range.1 hi
    refine hstep i hi o ho l a w hs hoff hG (fun e he hbd => hF e.on ?_ (hdep e he hbd)) (fun hd => ?_) K (fun v w' hv hG' hmono => hK _ _ ⟨?_, hG', fun j hj hd => ?_⟩)
    · have h1 := List.all_eq_true.1 hb i (List.mem_range.2 (by omega))
      rw [ho] at h1
      have h2 := Array.all_eq_true_iff_forall_mem.1 h1 e he
      simp only [hbd, Bool.not_true, Bool.false_or, decide_eq_true_eq] at h2
      omega
    · unfold Dn at hd
      have h2 : l.getD i false = false := by
        rcases Nat.lt_or_ge i l.size with h' | h'
        · simp [h'] at hne ⊢; exact hne
        · simp [Array.getElem?_eq_none h'] at hne
      rw [h2] at hd
      cases hd
    · have : ds.getD i 0 ∈ ds := by
        rw [List.getD_eq_getElem?_getD, List.getElem?_eq_getElem (by omega)]
        exact List.getElem_mem _
      exact hoff.put this v
    · have e1 : ds.getD i 0 = ds[i]'(by omega) := by rw [List.getD_eq_getElem?_getD, List.getElem?_eq_getElem (by omega)]; rfl
      have e2 : ds.getD j 0 = ds[j]'(by omega) := by rw [List.getD_eq_getElem?_getD, List.getElem?_eq_getElem (by omega)]; rfl
      by_cases hij : i = j
      · subst hij
        have hlt : ds.getD i 0 < a.tmps.size := by
          rw [hoff.size, e1]
          have := List.all_eq_true.1 hsz (ds[i]'(by omega)) (List.getElem_mem _)
          simpa using this
        have : ∀ d : Tmp, d < a.tmps.size → (a.put (some d) v).tmps[d]?.getD undef = v := fun d hd => by simp [Act.put, hd]
        rw [this _ hlt]
        exact hv
      · have hne2 : ds.getD i 0 ≠ ds.getD j 0 := by
          rw [e1, e2]
          intro e
          have h3 := List.pairwise_iff_getElem.1 hnd
          rcases Nat.lt_or_gt_of_ne hij with hlt | hlt
          · exact h3 i j (by omega) (by omega) hlt e
          · exact h3 j i (by omega) (by omega) hlt e.symm
        have : ∀ d d' : Tmp, d ≠ d' → (a.put (some d) v).tmps[d']?.getD undef = a.tmps[d']?.getD undef := fun d d' hne => by simp [Act.put, Array.getElem?_setIfInBounds_ne hne]
        rw [this _ _ hne2]
        exact hmono j _ (fun e => hij e.symm) (hF j hj (hd.set hij))
  · intro l a w ⟨hoff, hG, hF⟩ hall K hK
    exact hlast l a w hoff hG hall (fun i hi => hF i hi (hall i hi)) K hK
end

end Go.Proofs.Ytgjjngkmbplijaa
