/- The walk of the law ObsParts. -/
import Derived.Test.YtgjjngkmbplijaaObsSameW
import Derived.Test.YtgjjngkmbplijaaSetS
import Derived.Maps.Own
namespace Go.Proofs.Ytgjjngkmbplijaa
open Go.RowKit
set_option linter.unusedSimpArgs false
set_option linter.unusedVariables false

theorem addNew_dup {L : List ByteArray} (h : L.Nodup) (s : ByteArray) : (addNew L s).Nodup := by
  by_cases hs : s ∈ L
  · rw [addNew_mem hs]; exact h
  · rw [addNew_not hs, List.nodup_append]
    refine ⟨h, by simp, fun a ha b hb => ?_⟩
    simp at hb
    subst hb
    exact fun e => hs (e ▸ ha)
theorem addAll_dup {L : List ByteArray} (h : L.Nodup) (N : List ByteArray) : (addAll L N).Nodup := by
  induction N generalizing L with
  | nil => exact h
  | cons s t ih => rw [addAll_cons]; exact ih (addNew_dup h s)
theorem Ob.names_dup (o : Ob) : o.names.Nodup := by
  cases o <;> simp only [Ob.names] <;> first | exact List.nodup_nil | (exact addAll_dup (addAll_dup List.nodup_nil _) _) | (exact addAll_dup List.nodup_nil _) | simp
theorem names_apart {l : List ByteArray} (h : l.Nodup) {i k : Nat} {x y : ByteArray} (hk : k < i) (hx : l[k]? = some x) (hy : l[i]? = some y) : (x == y) = false := by
  obtain ⟨h1, e1⟩ := List.getElem?_eq_some_iff.1 hx
  obtain ⟨h2, e2⟩ := List.getElem?_eq_some_iff.1 hy
  have := List.pairwise_iff_getElem.1 h k i h1 h2 hk
  rw [e1, e2] at this
  simpa using this
/-- The names so far as a set in block b; the parts' row behind it. -/
structure PRel (w wr : World) (b : Nat) (L : List ByteArray) (kv : Value) (nk : Nat) (xs : List Value) : Prop where
  set : SetS wr b L
  kids : wr.ownsRow (b + 1) 53 1 kv nk xs
  ext : Ext w wr
  lo : w.heap.size ≤ b
section
variable {w wr wr' : World} {b : Nat} {L : List ByteArray} {kv : Value} {nk : Nat} {xs : List Value}
theorem PRel.go (h : PRel w wr b L kv nk xs) (hx : Ext wr wr') : PRel w wr' b L kv nk xs := ⟨h.set.ext hx, hx.own h.kids, h.ext.trans hx, h.lo⟩
theorem own_apart {wr wr' : World} {b : Nat} {e : TypeId} {size nk : Nat} {kv : Value} {xs : List Value} (h : wr.ownsRow (b + 1) e size kv nk xs) (hg : wr.grownBy wr' (some b)) : wr'.ownsRow (b + 1) e size kv nk xs :=
  h.kept hg (by
    cases hk : kv.ownBlock with
    | none => exact .inl rfl
    | some g => exact .inr (fun h2 => by injection h2 with h2; have := (h.lt g hk).1; omega))
theorem PRel.put (h : PRel w wr b L kv nk xs) {s : ByteArray} (hs : SetS wr' b (addNew L s)) (hg : wr.grownBy wr' (some b)) : PRel w wr' b (addNew L s) kv nk xs :=
  ⟨hs, own_apart h.kids hg, h.ext.grown hg (fun k hk => by injection hk with hk; have := h.lo; omega), h.lo⟩
end

set_option maxRecDepth 100000 in
set_option maxHeartbeats 3200000 in
theorem obsParts_walk (p : Pl) (w : World) (hp : p.In (· < w.heap.size) w) : Calls Try.prog 11 #[p.val] w fun e w' => e = .returned (.bool true) ∧ Ext w w' := by
  obtain ⟨o, ho⟩ := obsT_ok p 4 0 16
  have hwf := ho.wf
  have hcl := ho.clean
  have hn := ho.nodes
  have hodd : o.isOdd = false := by cases o <;> first | rfl | exact hcl.elim
  have H1 := fun W (hW : Ext w W) => number_calls p W ((hp.ext hW).weak (fun y hy => Nat.lt_of_lt_of_le hy hW.le))
  have H2 := fun (h : HT) (q : Nat → Prop) (W : World) (e : h.tr = (obsT p 4 0 16).1) (hin : h.In q W) => pobs_at ho.is ho.wf h q W e hin
  have H3 := fun W => osize_calls _ o W (Nat.lt_succ_self _) hwf (by omega)
  have H4 := fun W => kids_own o W hwf
  have H5 := fun W => onames_calls _ o W (Nat.lt_succ_self _) hwf (by omega)
  have H6 := fun W => osame_calls _ o o W (Nat.lt_succ_self _) hwf hwf
  rw [o.same_refl hcl] at H6
  have hN := Ob.nodes_eq hodd
  have hD := Ob.depth_eq hodd
  have HE := Lib.hid (And.intro hN hD)
  have HNF := Lib.hid (show 0 < o.kids.length → namesOf o.kids = o.names from fun h => (Ob.names_kids (by cases o <;> first | rfl | (simp [Ob.kids] at h))).symm)
  have HDup := Lib.hid o.names_dup
  have hnl := o.names_len
  have hsum : sumN o.kids ≤ 32 := by omega
  have hmx := maxD_le o.kids
  have hdn : o.depth ≤ 33 := by omega
  have HK := fun (i : Nat) (h : i < o.kids.length) => kids_at (o := o) h
  have HS := fun (k' : Ob) (W : World) (hm : k' ∈ o.kids) => osize_calls _ k' W (Nat.lt_succ_self _) (Ob.kids_wf hwf hm) (by have := sumN_mem hm; omega)
  have HM := fun (k' : Ob) (W : World) (hm : k' ∈ o.kids) => onames_calls _ k' W (Nat.lt_succ_self _) (Ob.kids_wf hwf hm) (by have := sumN_mem hm; omega)
  have HT := Lib.hid (fun i => Nat.le_trans (sumN_take o.kids i) hsum)
  obtain ⟨t, x, e⟩ := Ob.form_clean hcl
  simp only [e] at H2 H3 H4 H5 H6
  have hmm := @run_makeMap Try.prog
  have hnod : o.nodes < 2 ^ 5 := hn
  clear e hp ho hwf hcl hodd hN hD hn hsum hmx
  generalize (obsT p 4 0 16).1 = T at *
  unfold Pl.val at *
  generalize o.names = NN at *
  generalize o.nodes = on at *
  generalize o.depth = od at *
  go_enter Try.func11, Try.ntmps11
  (go_wp2_with fail; (with_reducible refine (H1 _ ((by repeat' (first | (with_reducible exact Ext.refl _) | (with_reducible assumption) | (with_reducible refine Ext.alloc ?_ _) | (with_reducible refine Ext.drew ?_) | (with_reducible refine Ext.drewN ?_ _) | (with_reducible refine Ext.setCell ?_ (by first | exact Nat.le_refl _ | (simp; done) | (simp; omega) | omega) _) | (with_reducible refine Ext.trans ?_ (by assumption)))))).mono ?_); rintro e w' ⟨h5, rfl, ht5, hi5, hv5⟩)
  (go_wp2_with fail; (with_reducible refine (H2 _ _ _ ht5 hi5).mono ?_); rintro e w' ⟨rfl, hv6⟩)
  clear H1 H2 ht5 hi5
  (go_wp2_with fail; (with_reducible refine (H3 _).mono ?_); rintro e w3 ⟨rfl, hv7⟩)
  (go_wp2_with fail; (with_reducible refine (H4 _).mono ?_); rintro e w' ⟨kv, rfl, hko, hv8⟩)
  clear H3
  obtain ⟨A, C, rfl, hnc, hcm⟩ := own_form hko
  have hset : SetS (w3.alloc (.map #[] 0)) w3.heap.size [] := ⟨#[], 0, heap_alloc_new _ _, rfl⟩
  have hx3 : Ext w w3 := ((by repeat' (first | (with_reducible exact Ext.refl _) | (with_reducible assumption) | (with_reducible refine Ext.alloc ?_ _) | (with_reducible refine Ext.drew ?_) | (with_reducible refine Ext.drewN ?_ _) | (with_reducible refine Ext.setCell ?_ (by first | exact Nat.le_refl _ | (simp; done) | (simp; omega) | omega) _) | (with_reducible refine Ext.trans ?_ (by assumption)))))
  have hrel0 : PRel w w' w3.heap.size [] (.slice A o.kids.length C) o.kids.length (obVals o.kids) := ⟨hset.ext hv8, own_mono hko (by simp), (hx3.alloc _).trans hv8, hx3.le⟩
  clear hset hv5 hv6 hv7 hv8 hko hx3
  unfold maxLen at hcm
  generalize w3.heap.size = b at *
  go_wp2_with fail
  go_loopw [30, 6, 7] (fun i n d wr => ∃ (j : Nat) (L : List ByteArray), j ≤ o.kids.length ∧ i = .int .i64 j ∧ n = .int .i64 ((sumN (o.kids.take j) : Nat) : Int) ∧ d = .int .i64 ((maxD (o.kids.take j) : Nat) : Int) ∧ L = namesOf (o.kids.take j) ∧ PRel w wr b L (.slice A o.kids.length C) o.kids.length (obVals o.kids)) (fun i _ _ _ => o.kids.length - (intOf i).toNat)
  case atStart => exact ⟨0, [], by omega, rfl, by simp [sumN], by simp [maxD], rfl, hrel0⟩
  case round =>
    obtain ⟨j, L, hj, rfl, rfl, rfl, hL, hrel⟩ := hrel
    clear hrel0
    by_cases hlt : j < o.kids.length
    · obtain ⟨k', e1, hm, htk, hv⟩ := HK j hlt
      obtain ⟨ad, u, rfl, hu, hc⟩ := (Rd.of_own hrel.kids).at1 hlt
      obtain rfl : k'.val = u := by rw [hv] at hu; injection hu
      have HSk := fun W => HS k' W hm
      have HMk := fun W => HM k' W hm
      have hS : sumN (o.kids.take (j + 1)) = sumN (o.kids.take j) + k'.nodes := by rw [htk, sumN_snoc]
      have hMx : maxD (o.kids.take (j + 1)) = Max.max (maxD (o.kids.take j)) k'.depth := by rw [htk, maxD_snoc]
      have hNm : namesOf (o.kids.take (j + 1)) = addAll L k'.names := by rw [htk, namesOf_snoc, hL]
      have hb := HT.out (j + 1)
      have hdl := k'.depth_le
      have hml := maxD_le (o.kids.take j)
      have hnl2 := k'.names_len
      rw [hS] at hb
      have hS0 := Lib.hid hS
      have hM0 := Lib.hid hMx
      have hN0 := Lib.hid hNm
      have hj0 := Lib.hid (show j + 1 ≤ o.kids.length from hlt)
      have hrel1 := Lib.hid hrel
      clear hv hu HK HS HM e1 htk hm hS hMx hNm HT hL hrel
      generalize sumN (o.kids.take j) = s at *
      generalize maxD (o.kids.take j) = m at *
      generalize k'.nodes = n1 at *
      generalize k'.depth = d1 at *
      generalize k'.names = N at *
      generalize k'.val = v1 at *
      obtain ⟨D, hM1, hmd⟩ : ∃ D, Hid (maxD (o.kids.take (j + 1)) = D) ∧ ((m < d1 ∧ d1 = D) ∨ (d1 ≤ m ∧ m = D)) := ⟨_, hM0, by omega⟩
      rcases hmd with ⟨hmd, rfl⟩ | ⟨hmd, rfl⟩ <;>
      ( (go_wp2_with fail; (with_reducible refine (HSk _).mono ?_); rintro e w' ⟨rfl, hx4⟩)
        (go_wp2_with fail; (with_reducible refine (HMk _).mono ?_); rintro e w5 ⟨nv, rfl, hno, hx5⟩)
        clear HSk HMk
        obtain ⟨A2, C2, rfl, hn1, hn2⟩ := own_form hno
        unfold maxLen at hn2
        have hrel2 := (hrel1.out.go hx4).go hx5
        have hno' := own_mono hno (show b + 1 ≤ _ from (hrel1.out.go hx4).set.lt)
        have hrel3 := Lib.hid (And.intro hrel2 hno')
        clear hrel2 hno hno' hrel1 hx4 hx5
        go_wp2_with fail
        go_loopw [48] (fun i wr => ∃ (m : Nat) (M : List ByteArray), m ≤ N.length ∧ i = .int .i64 m ∧ M = addAll L (N.take m) ∧ PRel w wr b M (.slice (some ad) o.kids.length C) o.kids.length (obVals o.kids) ∧ wr.ownsRow (b + 1) 9 1 (.slice A2 N.length C2) N.length (strVals N)) (fun i _ => N.length - (intOf i).toNat)
        case atStart => exact ⟨0, L, by omega, rfl, rfl, hrel3.out⟩
        case round =>
          obtain ⟨q, M, hm, rfl, hM, hrel, hno⟩ := hrel
          by_cases hlt2 : q < N.length
          · obtain ⟨sx, e1, hv⟩ := strVals_at hlt2
            obtain ⟨ad2, u, rfl, hu, hc2⟩ := (Rd.of_own hno).at1 hlt2
            obtain rfl : Value.string sx = u := by rw [hv] at hu; injection hu
            have hS2 := Lib.hid (show addAll L (N.take (q + 1)) = addNew M sx by rw [addAll_take e1, hM])
            have hm0 := Lib.hid (show q + 1 ≤ N.length from hlt2)
            obtain ⟨w7, hrun, hset7, hg7⟩ := run_setS Try.underlying88 Try.underlying9 hrel.set sx
            have hrel7 := Lib.hid (And.intro (hrel.put hset7 hg7) (own_apart hno hg7))
            clear hv hu e1 hM hrel hno hset7 hg7
            go_wp2_with fail
            go_roundw
            case rel => exact ⟨q + 1, addNew M sx, hm0.out, by go_num, hS2.out.symm, hrel7.out⟩
            case measure => simp [intOf]; omega
          · obtain rfl : q = N.length := by omega
            rw [List.take_length] at hM
            have hrel7 := Lib.hid (And.intro hM hrel)
            clear hM hrel hno hrel3
            go_wp2_with fail
            go_roundw
            case rel => exact ⟨j + 1, M, hj0.out, by go_num, by rw [hS0.out]; go_num, by rw [hM1.out], by rw [hN0.out]; exact hrel7.out.1, hrel7.out.2⟩
            case measure => simp [intOf]; omega)
    · obtain rfl : j = o.kids.length := by omega
      rw [List.take_length] at hL ⊢
      obtain ⟨hN, hD⟩ := HE.out
      subst hN hD
      have hLN := Lib.hid (show 0 < o.kids.length → L.length = NN.length from fun h => by rw [hL, HNF.out h])
      have hrel9 := Lib.hid hrel
      clear hL hrel HE HNF HK HS HM HT
      generalize sumN o.kids = S at *
      generalize maxD o.kids = D at *
      generalize o.kids.length = kn at *
      have t1 : (((S + 1 : Nat) : Int) != (S : Int) + 1) = false := by simp
      have t2 : (((D + 1 : Nat) : Int) != (D : Int) + 1) = false := by simp
      (go_wp2_with fail; (with_reducible refine (H5 _).mono ?_); rintro e w6 ⟨lv, rfl, hlo, hx6⟩)
      obtain ⟨A5, C5, rfl, hn5, hc5⟩ := own_form hlo
      unfold maxLen at hc5
      (go_wp2_with fail; (with_reducible refine (H4 _).mono ?_); rintro e w7 ⟨kv, rfl, hko, hx7⟩)
      obtain ⟨A6, C6, rfl, hn6, hc6⟩ := own_form hko
      have hset := ((hrel9.out.set.ext hx6).ext hx7)
      have hext : Ext w w7 := (hrel9.out.ext.trans hx6).trans hx7
      have hrd : Rd w7 1 A5 NN.length (strVals NN) := (Rd.of_own hlo).ext hx7
      have hlen : 0 < kn → ∀ ty, (Builtin.len_ #[88] ty #[.map (some b)]).run Try.prog w7 = .ok (.int .i64 NN.length) w7 := fun h ty => by
        rw [run_len_setS Try.underlying88 hset, hLN.out h]
      have hH := Lib.hid (And.intro hext hrd)
      clear hset hext hrd hlo hko hx6 hx7 H4 H5 hLN hrel9
      have hkk : (kn = 0 ∧ (Hid (0 < kn → ∀ ty, (Builtin.len_ #[88] ty #[.map (some b)]).run Try.prog w7 = .ok (.int .i64 NN.length) w7))) ∨ (0 < kn ∧ ∀ ty, (Builtin.len_ #[88] ty #[.map (some b)]).run Try.prog w7 = .ok (.int .i64 NN.length) w7) := by
        rcases Nat.eq_zero_or_pos kn with h | h
        · exact .inl ⟨h, Lib.hid hlen⟩
        · exact .inr ⟨h, hlen h⟩
      clear hlen
      rcases hkk with ⟨rfl, hl1⟩ | ⟨hk0, hl2⟩ <;>
      ( go_wp2_with fail
        go_loopw [81] (fun i wr => ∃ j : Nat, j ≤ NN.length ∧ i = .int .i64 j ∧ Ext w wr ∧ Rd wr 1 A5 NN.length (strVals NN)) (fun i _ => NN.length - (intOf i).toNat)
        case atStart => exact ⟨0, by omega, rfl, hH.out⟩
        case round =>
          obtain ⟨j, hj, rfl, hx, hr⟩ := hrel
          by_cases hlt : j < NN.length
          · obtain ⟨y, e2, hv2⟩ := strVals_at hlt
            have hj0 := Lib.hid (show j + 1 ≤ NN.length from hlt)
            have hxr := Lib.hid (And.intro hx hr)
            clear hx hr
            go_wp2_with fail
            go_loopw [17] (fun i wr => ∃ q : Nat, q ≤ j ∧ i = .int .i64 q ∧ Ext w wr ∧ Rd wr 1 A5 NN.length (strVals NN)) (fun i _ => j - (intOf i).toNat)
            case atStart => exact ⟨0, by omega, rfl, hxr.out⟩
            case round =>
              obtain ⟨q, hq, rfl, hx, hr⟩ := hrel
              by_cases hlt2 : q < j
              · have hqn : q < NN.length := by omega
                obtain ⟨x, e1, hv1⟩ := strVals_at hqn
                obtain ⟨ad1, u1, ea, hu1, hc1⟩ := hr.at1 hqn
                subst ea
                obtain ⟨ad2, u2, ea2, hu2, hc2⟩ := hr.at1 hlt
                injection ea2 with ea2
                subst ea2
                obtain rfl : Value.string x = u1 := by rw [hv1] at hu1; injection hu1
                obtain rfl : Value.string y = u2 := by rw [hv2] at hu2; injection hu2
                have hxy := names_apart HDup.out hlt2 e1 e2
                rw [← bytes_beq] at hxy
                have hrx := Lib.hid (And.intro hx hr)
                have hq0 := Lib.hid (show q + 1 ≤ j from hlt2)
                have hi1 : (q : Int) < (NN.length : Int) := by omega
                have hi2 : (j : Int) < (NN.length : Int) := by omega
                clear hx hr hv1 hu1 hv2 hu2 e1 e2
                go_wp2_with fail
                go_quiet (fail)
                go_wp2_with fail
                go_roundw
                case rel => exact ⟨q + 1, hq0.out, by go_num, hrx.out.1.drewN _, hrx.out.2.ext ((Ext.refl _).drewN _)⟩
                case measure => simp [intOf]; omega
              · obtain rfl : q = j := by omega
                have hrx := Lib.hid (And.intro hx hr)
                clear hx hr e2 hv2
                go_wp2_with fail
                go_roundw
                case rel => exact ⟨q + 1, hj0.out, by go_num, hrx.out⟩
                case measure => simp [intOf]; omega
          · obtain rfl : j = NN.length := by omega
            clear hr
            (go_wp2_with fail; (with_reducible refine (H6 _).mono ?_); rintro e w' ⟨rfl, hx8⟩)
            (go_wp2_with fail; (with_reducible refine (wakes04_calls _).mono ?_); rintro e w' ⟨rfl, hx9⟩)
            go_wp2
            go_ret
            exact ⟨rfl, (by repeat' (first | (with_reducible exact Ext.refl _) | (with_reducible assumption) | (with_reducible refine Ext.alloc ?_ _) | (with_reducible refine Ext.drew ?_) | (with_reducible refine Ext.drewN ?_ _) | (with_reducible refine Ext.setCell ?_ (by first | exact Nat.le_refl _ | (simp; done) | (simp; omega) | omega) _) | (with_reducible refine Ext.trans ?_ (by assumption))))⟩)
end Go.Proofs.Ytgjjngkmbplijaa
