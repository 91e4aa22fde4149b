/- Package cash: wait, number. -/
import Derived.Test.YtgjjngkmbplijaaCash2
namespace Go.Proofs.Ytgjjngkmbplijaa
open Go.RowKit
set_option linter.unusedSimpArgs false
set_option linter.unusedVariables false

/-- Nothing comes back; the walk's memory holds what it holds then. -/
def RetW0 (base : Nat) (w : World) (b p f c : Nat) (F : FixL) (C : ChL) (id : ByteArray) (v1 v2 : Value) (st : CSt) (e : Ending) (w' : World) : Prop :=
  ∃ v1' v2', e = .returned (.tuple #[]) ∧ Wk base w' b p f c F C id v1' v2' st ∧ Moved w w' b v1 v2 v1' v2'
/-- An error's number comes back. -/
def RetW (base : Nat) (w : World) (b p f c : Nat) (F : FixL) (C : ChL) (id : ByteArray) (v1 v2 : Value) (r : Int × CSt) (e : Ending) (w' : World) : Prop :=
  ∃ v1' v2', e = .returned (.int .i64 r.1) ∧ Wk base w' b p f c F C id v1' v2' r.2 ∧ Moved w w' b v1 v2 v1' v2'

theorem waitsFor_take {L : List Wa} {d : Int} {l : List ByteArray} {j : Nat} {s : ByteArray} (h : l[j]? = some s) : waitsFor L d (l.take (j + 1)) = addW (waitsFor L d (l.take j)) (waitFix d s) := by
  unfold waitsFor; rw [List.take_add_one, h]; simp
theorem addW_len (L : List Wa) (y : Wa) : (addW L y).length ≤ L.length + 1 := by unfold addW; split <;> simp
theorem waitsFor_len (L : List Wa) (d : Int) (l : List ByteArray) : (waitsFor L d l).length ≤ L.length + l.length := by
  unfold waitsFor
  induction l generalizing L with
  | nil => simp
  | cons s t ih => have h1 := ih (addW L (waitFix d s)); have h2 := addW_len L (waitFix d s); simp only [List.foldl_cons, List.length_cons]; omega

theorem Rd.moved {w w' : World} {b size n : Nat} {v1 v2 v1' v2' : Value} {A : Option Addr} {xs : List Value} (h : Rd w size A n xs) (m : Moved w w' b v1 v2 v1' v2') (hq : ∀ ad, A = some ad → ad.block ≠ b ∧ v1.ownBlock ≠ some ad.block ∧ v2.ownBlock ≠ some ad.block) : Rd w' size A n xs :=
  ⟨h.1, fun j u hu => by
    obtain ⟨ad, e, hc⟩ := h.2 j u hu
    obtain ⟨q1, q2, q3⟩ := hq ad e
    have hlt := World.block_lt_of_cell? w _ hc
    have hb : (ad.add j).block = ad.block := add_block ad j
    refine ⟨ad, e, ?_⟩
    rw [World.cell?_of_block (w := w) (m.block (ad.add j).block hlt (by rw [hb]; exact q1) (by rw [hb]; exact q2) (by rw [hb]; exact q3))]
    exact hc⟩
theorem Wk.grown1 {base : Nat} {w w1 : World} {b p f c : Nat} {F : FixL} {C : ChL} {id : ByteArray} {v1 v2 : Value} {st : CSt} (h : Wk base w b p f c F C id v1 v2 st) (hg : w.grownBy w1 v1.ownBlock) : w1.cell? ⟨b, 2, none⟩ = some v1 ∧ ∀ o, w1.frozen? ⟨b, o, none⟩ = false := by
  have hb1 : w1.heap[b]? = some (.cells #[.string id, .pointer (some ⟨p, 0, none⟩), v1, v2] 221 (0, 0)) := by rw [hg.block b (Array.getElem?_eq_some_iff.1 h.blk).1 (fun e => h.n1 e.symm)]; exact h.blk
  obtain ⟨h1, h2, _⟩ := obj_cells hb1
  exact ⟨h1 2 _ rfl, h2⟩
theorem Wk.grown2 {base : Nat} {w w1 : World} {b p f c : Nat} {F : FixL} {C : ChL} {id : ByteArray} {v1 v2 : Value} {st : CSt} (h : Wk base w b p f c F C id v1 v2 st) (hg : w.grownBy w1 v2.ownBlock) : w1.cell? ⟨b, 3, none⟩ = some v2 ∧ ∀ o, w1.frozen? ⟨b, o, none⟩ = false := by
  have hb1 : w1.heap[b]? = some (.cells #[.string id, .pointer (some ⟨p, 0, none⟩), v1, v2] 221 (0, 0)) := by rw [hg.block b (Array.getElem?_eq_some_iff.1 h.blk).1 (fun e => h.n2 e.symm)]; exact h.blk
  obtain ⟨h1, h2, _⟩ := obj_cells hb1
  exact ⟨h1 3 _ rfl, h2⟩
theorem waitFix_cells (d : Int) (s : ByteArray) : (waitFix d s).cells = [.bool false, .string s, .string ⟨#[]⟩, .int .i64 d, .int .i64 0] := rfl

set_option maxRecDepth 100000 in
set_option maxHeartbeats 3200000 in
theorem cwait_calls (base : Nat) (w : World) (b p f c : Nat) (F : FixL) (C : ChL) (id : ByteArray) (v1 v2 : Value) (st : CSt) (d : Int) (N : List ByteArray) (A : Option Addr) (c2 : Nat) (h : Wk base w b p f c F C id v1 v2 st)
    (hN : Rd w 1 A N.length (strVals N)) (hq : ∀ ad, A = some ad → ad.block ≠ b ∧ v1.ownBlock ≠ some ad.block ∧ v2.ownBlock ≠ some ad.block) (hcm : c2 ≤ maxLen) (hn : N.length ≤ 2 ^ 33) (hl : st.2.length ≤ 2 ^ 33) :
    Calls Try.prog 154 #[.pointer (some ⟨b, 0, none⟩), .int .i64 d, .slice A N.length c2] w (RetW0 base w b p f c F C id v1 v2 (st.1, waitsFor st.2 d N)) := by
  unfold maxLen at hcm
  obtain ⟨fl, wa⟩ := st
  have H0 := Lib.hid h
  have hN0 := Lib.hid hN
  have hq0 := Lib.hid hq
  clear h hN hq
  go_enter Try.func154, Try.ntmps154
  go_wp2_with fail
  go_loopw [11] (fun i wr => ∃ (j : Nat) (u1 u2 : Value), j ≤ N.length ∧ i = .int .i64 j ∧ Wk base wr b p f c F C id u1 u2 (fl, waitsFor wa d (N.take j)) ∧ Moved w wr b v1 v2 u1 u2) (fun i _ => N.length - (intOf i).toNat)
  case atStart => exact ⟨0, v1, v2, by omega, rfl, H0.out, Moved.of_ext (Ext.refl w) b v1 v2⟩
  case round =>
    obtain ⟨j, u1, u2, hj, rfl, hW, hM⟩ := hrel
    by_cases hlt : j < N.length
    · obtain ⟨s, e1, hv⟩ := strVals_at hlt
      obtain ⟨ad, u, rfl, hu, hc⟩ := (hN0.out.moved hM hq0.out).at1 hlt
      obtain rfl : Value.string s = u := by rw [hv] at hu; injection hu
      have hwl := waitsFor_len wa d (N.take j)
      rw [List.length_take] at hwl
      have hS := Lib.hid (waitsFor_take (L := wa) (d := d) e1)
      have hj0 := Lib.hid (show j + 1 ≤ N.length from hlt)
      have hlen : (waitsFor wa d (N.take j)).length ≤ 2 ^ 34 := by have hl' : wa.length ≤ 2 ^ 33 := hl; omega
      generalize waitsFor wa d (N.take j) = L at *
      obtain ⟨A2, C2, rfl, hA1, hA2⟩ := own_form hW.wa
      obtain ⟨k0, k1, k2, k3, kf, kb⟩ := hW.cells
      have hC := fun w' (h : Ext wr w') => wcontains_calls base L (waitFix d s) A2 C2 w' (h.own hW.wa) (by omega) hA2
      have hW0 := Lib.hid hW
      have hM0 := Lib.hid hM
      unfold maxLen at hA2
      clear hv hu e1 hW hM hl hwl
      simp only [Wa.val, waitFix] at hC
      cases hb : (L.any fun x => Wa.same ⟨false, s, ⟨#[]⟩, d, 0⟩ x) with
      | true =>
        rw [hb] at hC
        have hadd := Lib.hid (show addW L (waitFix d s) = L by unfold addW waitFix; rw [if_pos hb])
        clear hb
        go_wp2_with fail
        go_region_with (go_at_call 155; (with_reducible refine (hC _ ?_).mono ?_); exact ((by repeat' (first | (with_reducible exact Ext.refl _) | (with_reducible assumption) | (with_reducible refine Ext.alloc ?_ _) | (with_reducible refine Ext.drew ?_) | (with_reducible refine Ext.drewN ?_ _) | (with_reducible refine Ext.setCell ?_ (by first | exact Nat.le_refl _ | (simp; done) | (simp; omega) | omega) _) | (with_reducible refine Ext.trans ?_ (by assumption))))); rintro e w2 ⟨rfl, hx⟩)
        all_goals
          go_wp2_with fail
          exact ⟨⟨j + 1, u1, _, hj0.out, by go_num, by rw [hS.out, hadd.out]; exact hW0.out.ext ((by repeat' (first | (with_reducible exact Ext.refl _) | (with_reducible assumption) | (with_reducible refine Ext.alloc ?_ _) | (with_reducible refine Ext.drew ?_) | (with_reducible refine Ext.drewN ?_ _) | (with_reducible refine Ext.setCell ?_ (by first | exact Nat.le_refl _ | (simp; done) | (simp; omega) | omega) _) | (with_reducible refine Ext.trans ?_ (by assumption))))), hM0.out.trans (Moved.of_ext ((by repeat' (first | (with_reducible exact Ext.refl _) | (with_reducible assumption) | (with_reducible refine Ext.alloc ?_ _) | (with_reducible refine Ext.drew ?_) | (with_reducible refine Ext.drewN ?_ _) | (with_reducible refine Ext.setCell ?_ (by first | exact Nat.le_refl _ | (simp; done) | (simp; omega) | omega) _) | (with_reducible refine Ext.trans ?_ (by assumption))))) b _ _)⟩, by simp [intOf]; omega⟩
      | false =>
        rw [hb] at hC
        have hadd := Lib.hid (show addW L (waitFix d s) = L ++ [waitFix d s] by unfold addW waitFix; rw [if_neg (by rw [hb]; decide)])
        have h63 : L.length + 1 ≤ maxLen := by unfold maxLen; omega
        have hby : (L.length + 1) * 56 ≤ 140737488355328 := by omega
        clear hb
        go_wp2_with fail
        go_region_with (go_at_call 155; (with_reducible refine (hC _ ?_).mono ?_); exact ((by repeat' (first | (with_reducible exact Ext.refl _) | (with_reducible assumption) | (with_reducible refine Ext.alloc ?_ _) | (with_reducible refine Ext.drew ?_) | (with_reducible refine Ext.drewN ?_ _) | (with_reducible refine Ext.setCell ?_ (by first | exact Nat.le_refl _ | (simp; done) | (simp; omega) | omega) _) | (with_reducible refine Ext.trans ?_ (by assumption))))); rintro e w2 ⟨rfl, hx⟩)
        all_goals
          have hW2 := hW0.out.ext (show Ext wr w2 from ((by repeat' (first | (with_reducible exact Ext.refl _) | (with_reducible assumption) | (with_reducible refine Ext.alloc ?_ _) | (with_reducible refine Ext.drew ?_) | (with_reducible refine Ext.drewN ?_ _) | (with_reducible refine Ext.setCell ?_ (by first | exact Nat.le_refl _ | (simp; done) | (simp; omega) | omega) _) | (with_reducible refine Ext.trans ?_ (by assumption))))))
          obtain ⟨k0, k1, k2, k3, kf, kb⟩ := hW2.cells
          obtain ⟨q, hfz, hlt0⟩ := obj_cells (hx.lit (heap_new wr _))
          have s0 := q 0 _ rfl
          have s1 := q 1 _ rfl
          have s2 := q 2 _ rfl
          have s3 := q 3 _ rfl
          have s4 := q 4 _ rfl
          have hW3 := Lib.hid hW2
          have hM3 := Lib.hid (hM0.out.trans (Moved.of_ext (show Ext wr w2 from ((by repeat' (first | (with_reducible exact Ext.refl _) | (with_reducible assumption) | (with_reducible refine Ext.alloc ?_ _) | (with_reducible refine Ext.drew ?_) | (with_reducible refine Ext.drewN ?_ _) | (with_reducible refine Ext.setCell ?_ (by first | exact Nat.le_refl _ | (simp; done) | (simp; omega) | omega) _) | (with_reducible refine Ext.trans ?_ (by assumption)))))) b _ _))
          clear hW2 q
          go_wp2_with fail
          go_region_law (refine step_app elemWa (by rfl) _ _ (by rfl) base (.slice A2 L.length C2) L.length (waCells L) (by rfl) ((hW3.out.wa.alloc _).drew) (some ⟨w2.heap.size, 0, none⟩) 1 1 (waitFix d s).cells (by rfl) (by exact Rd.ext (Rd.newAt (by simp) rfl rfl) ((Ext.refl _).drew)) (by simp [waitFix, Wa.cells, Value.oneCell']) h63 hby (by have := hW3.out.bb; simp; omega) ?_; intro A' C' w1 hown1 hg1 hat1; obtain ⟨q3, qf⟩ := (hW3.out.ext (w' := (w2.alloc _).drew) ((by repeat' (first | (with_reducible exact Ext.refl _) | (with_reducible assumption) | (with_reducible refine Ext.alloc ?_ _) | (with_reducible refine Ext.drew ?_) | (with_reducible refine Ext.drewN ?_ _) | (with_reducible refine Ext.setCell ?_ (by first | exact Nat.le_refl _ | (simp; done) | (simp; omega) | omega) _) | (with_reducible refine Ext.trans ?_ (by assumption)))))).grown2 hg1)
          all_goals
            have hP := Lib.hid ((hW3.out.ext (w' := (w2.alloc _).drew) ((by repeat' (first | (with_reducible exact Ext.refl _) | (with_reducible assumption) | (with_reducible refine Ext.alloc ?_ _) | (with_reducible refine Ext.drew ?_) | (with_reducible refine Ext.drewN ?_ _) | (with_reducible refine Ext.setCell ?_ (by first | exact Nat.le_refl _ | (simp; done) | (simp; omega) | omega) _) | (with_reducible refine Ext.trans ?_ (by assumption)))))).put2 (waitFix d s) hown1 hg1 hat1)
            clear hown1 hg1 hat1 q3 qf
            go_wp2_with fail
            exact ⟨⟨j + 1, u1, _, hj0.out, by go_num, by rw [hS.out, hadd.out]; exact hP.out.1, (hM3.out.trans (Moved.of_ext ((by repeat' (first | (with_reducible exact Ext.refl _) | (with_reducible assumption) | (with_reducible refine Ext.alloc ?_ _) | (with_reducible refine Ext.drew ?_) | (with_reducible refine Ext.drewN ?_ _) | (with_reducible refine Ext.setCell ?_ (by first | exact Nat.le_refl _ | (simp; done) | (simp; omega) | omega) _) | (with_reducible refine Ext.trans ?_ (by assumption))))) b _ _)).trans hP.out.2⟩, by simp [intOf]; omega⟩
    · obtain rfl : j = N.length := by omega
      rw [List.take_length] at hW
      go_wp2_with fail
      go_end0
      exact ⟨u1, u2, rfl, hW, hM⟩

/-- A number, whether it is known, an error's number come back. -/
def RetNum (base : Nat) (w : World) (b p f c : Nat) (F : FixL) (C : ChL) (id : ByteArray) (v1 v2 : Value) (k : Kn) (st : CSt) (e : Ending) (w' : World) : Prop :=
  ∃ v1' v2', e = .returned (.tuple #[.int .i64 k.n, .bool k.is, .int .i64 k.e]) ∧ Wk base w' b p f c F C id v1' v2' st ∧ Moved w w' b v1 v2 v1' v2'
/-- What is waited for behind a number. -/
def numSt (o : Ob) (F : FixL) (d : Int) (st : CSt) : CSt := if (o.ofV F d).e = 0 ∧ (o.ofV F d).is = false then (st.1, waitsFor st.2 d (o.needs F d)) else st
theorem Ob.needs_len (o : Ob) (F : FixL) (d : Int) : (o.needs F d).length ≤ o.nodes := by
  unfold Ob.needs
  split
  · exact Nat.le_trans (notFixed_len _ _ _) o.names_len
  · simp

set_option maxRecDepth 100000 in
set_option maxHeartbeats 3200000 in
theorem cnumber_calls (base : Nat) (w : World) (b p f c : Nat) (F : FixL) (C : ChL) (id : ByteArray) (v1 v2 : Value) (st : CSt) (o : Ob) (d : Int) (h : Wk base w b p f c F C id v1 v2 st) (ho : o.wf) (hn : o.nodes ≤ 2 ^ 32) (hl : st.2.length ≤ 2 ^ 33) :
    Calls Try.prog 153 #[.pointer (some ⟨b, 0, none⟩), o.val, .int .i64 d] w (RetNum base w b p f c F C id v1 v2 (o.ofV F d) (numSt o F d st)) := by
  have H1 := fun w' (h' : Ext w w') => vOf_calls p f c F C d o w' ho (by omega) (h.wld.ext h')
  have H2 := fun w' (h' : Ext w w') => vneeds_calls p f c F C d o w' ho hn (h.wld.ext h')
  have hnl : (o.needs F d).length ≤ 2 ^ 32 := Nat.le_trans (o.needs_len F d) hn
  have HS := Lib.hid (show numSt o F d st = if (o.ofV F d).e = 0 ∧ (o.ofV F d).is = false then (st.1, waitsFor st.2 d (o.needs F d)) else st from rfl)
  have HW := fun (w' : World) (h' : Ext w w') (A : Option Addr) (c2 : Nat) hN hq hcm => cwait_calls base w' b p f c F C id v1 v2 st d (o.needs F d) A c2 (h.ext h') hN hq hcm (by omega) hl
  obtain ⟨k0, k1, k2, k3, kf, kb⟩ := h.cells
  have H0 := Lib.hid h
  generalize numSt o F d st = st2 at *
  generalize o.needs F d = N at *
  generalize o.ofV F d = k at *
  obtain ⟨kn, ki, ke⟩ := k
  generalize o.val = v at *
  clear h ho hn hl
  by_cases h1 : ke = 0
  · subst h1
    cases ki with
    | true =>
      have HS := Lib.hid (show st2 = st by rw [HS.out, if_neg (by simp)])
      go_enter Try.func153, Try.ntmps153
      (go_wp2_with fail; (with_reducible refine (H1 _ ((by repeat' (first | (with_reducible exact Ext.refl _) | (with_reducible assumption) | (with_reducible refine Ext.alloc ?_ _) | (with_reducible refine Ext.drew ?_) | (with_reducible refine Ext.drewN ?_ _) | (with_reducible refine Ext.setCell ?_ (by first | exact Nat.le_refl _ | (simp; done) | (simp; omega) | omega) _) | (with_reducible refine Ext.trans ?_ (by assumption)))))).mono ?_); rintro e w' ⟨rfl, hx⟩)
      go_wp2
      go_ret3
      exact ⟨v1, v2, rfl, by rw [HS.out]; exact H0.out.ext ((by repeat' (first | (with_reducible exact Ext.refl _) | (with_reducible assumption) | (with_reducible refine Ext.alloc ?_ _) | (with_reducible refine Ext.drew ?_) | (with_reducible refine Ext.drewN ?_ _) | (with_reducible refine Ext.setCell ?_ (by first | exact Nat.le_refl _ | (simp; done) | (simp; omega) | omega) _) | (with_reducible refine Ext.trans ?_ (by assumption))))), Moved.of_ext ((by repeat' (first | (with_reducible exact Ext.refl _) | (with_reducible assumption) | (with_reducible refine Ext.alloc ?_ _) | (with_reducible refine Ext.drew ?_) | (with_reducible refine Ext.drewN ?_ _) | (with_reducible refine Ext.setCell ?_ (by first | exact Nat.le_refl _ | (simp; done) | (simp; omega) | omega) _) | (with_reducible refine Ext.trans ?_ (by assumption))))) b _ _⟩
    | false =>
      have HS := Lib.hid (show st2 = (st.1, waitsFor st.2 d N) by rw [HS.out, if_pos ⟨rfl, rfl⟩])
      go_enter Try.func153, Try.ntmps153
      (go_wp2_with fail; (with_reducible refine (H1 _ ((by repeat' (first | (with_reducible exact Ext.refl _) | (with_reducible assumption) | (with_reducible refine Ext.alloc ?_ _) | (with_reducible refine Ext.drew ?_) | (with_reducible refine Ext.drewN ?_ _) | (with_reducible refine Ext.setCell ?_ (by first | exact Nat.le_refl _ | (simp; done) | (simp; omega) | omega) _) | (with_reducible refine Ext.trans ?_ (by assumption)))))).mono ?_); rintro e w' ⟨rfl, hx⟩)
      have hW1 := H0.out.ext (show Ext w w' from ((by repeat' (first | (with_reducible exact Ext.refl _) | (with_reducible assumption) | (with_reducible refine Ext.alloc ?_ _) | (with_reducible refine Ext.drew ?_) | (with_reducible refine Ext.drewN ?_ _) | (with_reducible refine Ext.setCell ?_ (by first | exact Nat.le_refl _ | (simp; done) | (simp; omega) | omega) _) | (with_reducible refine Ext.trans ?_ (by assumption))))))
      obtain ⟨k0, k1, k2, k3, kf, kb⟩ := hW1.cells
      clear hW1
      (go_wp2_with fail; (with_reducible refine (H2 _ ((by repeat' (first | (with_reducible exact Ext.refl _) | (with_reducible assumption) | (with_reducible refine Ext.alloc ?_ _) | (with_reducible refine Ext.drew ?_) | (with_reducible refine Ext.drewN ?_ _) | (with_reducible refine Ext.setCell ?_ (by first | exact Nat.le_refl _ | (simp; done) | (simp; omega) | omega) _) | (with_reducible refine Ext.trans ?_ (by assumption)))))).mono ?_); rintro e w' ⟨nv, rfl, hno, hy⟩)
      obtain ⟨A, c2, rfl, hA1, hA2⟩ := own_form hno
      have hE : Ext w w' := ((by repeat' (first | (with_reducible exact Ext.refl _) | (with_reducible assumption) | (with_reducible refine Ext.alloc ?_ _) | (with_reducible refine Ext.drew ?_) | (with_reducible refine Ext.drewN ?_ _) | (with_reducible refine Ext.setCell ?_ (by first | exact Nat.le_refl _ | (simp; done) | (simp; omega) | omega) _) | (with_reducible refine Ext.trans ?_ (by assumption)))))
      have hq : ∀ ad, A = some ad → ad.block ≠ b ∧ v1.ownBlock ≠ some ad.block ∧ v2.ownBlock ≠ some ad.block := by
        rintro ad rfl
        have h1 := (hno.lt ad.block rfl).1
        have h2 := hx.le
        have h3 := H0.out
        refine ⟨by omega, fun e => ?_, fun e => ?_⟩
        · have := (h3.fl.lt _ e).2; omega
        · have := (h3.wa.lt _ e).2; omega
      have hrd := Rd.of_own hno
      clear hno
      (go_wp2_with fail; (with_reducible refine (HW _ hE A c2 hrd hq hA2).mono ?_); rintro e w' ⟨u1, u2, rfl, hWk, hM⟩)
      have hWk := Lib.hid hWk
      go_wp2
      go_ret3
      exact ⟨u1, u2, rfl, by rw [HS.out]; exact hWk.out, (Moved.of_ext hE b _ _).trans hM⟩
  · have HS := Lib.hid (show st2 = st by rw [HS.out, if_neg (by simp [h1])])
    have hne : (ke == 0) = false := by simpa using h1
    go_enter Try.func153, Try.ntmps153
    (go_wp2_with fail; (with_reducible refine (H1 _ ((by repeat' (first | (with_reducible exact Ext.refl _) | (with_reducible assumption) | (with_reducible refine Ext.alloc ?_ _) | (with_reducible refine Ext.drew ?_) | (with_reducible refine Ext.drewN ?_ _) | (with_reducible refine Ext.setCell ?_ (by first | exact Nat.le_refl _ | (simp; done) | (simp; omega) | omega) _) | (with_reducible refine Ext.trans ?_ (by assumption)))))).mono ?_); rintro e w' ⟨rfl, hx⟩)
    go_wp2
    go_ret3
    exact ⟨v1, v2, rfl, by rw [HS.out]; exact H0.out.ext ((by repeat' (first | (with_reducible exact Ext.refl _) | (with_reducible assumption) | (with_reducible refine Ext.alloc ?_ _) | (with_reducible refine Ext.drew ?_) | (with_reducible refine Ext.drewN ?_ _) | (with_reducible refine Ext.setCell ?_ (by first | exact Nat.le_refl _ | (simp; done) | (simp; omega) | omega) _) | (with_reducible refine Ext.trans ?_ (by assumption))))), Moved.of_ext ((by repeat' (first | (with_reducible exact Ext.refl _) | (with_reducible assumption) | (with_reducible refine Ext.alloc ?_ _) | (with_reducible refine Ext.drew ?_) | (with_reducible refine Ext.drewN ?_ _) | (with_reducible refine Ext.setCell ?_ (by first | exact Nat.le_refl _ | (simp; done) | (simp; omega) | omega) _) | (with_reducible refine Ext.trans ?_ (by assumption))))) b _ _⟩

end Go.Proofs.Ytgjjngkmbplijaa
