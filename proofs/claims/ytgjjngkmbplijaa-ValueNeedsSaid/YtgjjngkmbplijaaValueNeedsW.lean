/- The walk of the law ValueNeeds. -/
import Derived.Test.YtgjjngkmbplijaaObsSameW
import Derived.Test.YtgjjngkmbplijaaNeeds
import Derived.Test.YtgjjngkmbplijaaObsPartsW
namespace Go.Proofs.Ytgjjngkmbplijaa
open Go.RowKit
set_option linter.unusedSimpArgs false
set_option linter.unusedVariables false

def names3A : Array Value := #[.string ⟨#[108, 105, 98, 111, 114]⟩, .string ⟨#[114, 97, 105, 110]⟩, .string ⟨#[195, 182, 108]⟩]
/-- What each slot of the region holds that fixes one of three names. -/
def fixF (p b : Nat) (ad : Addr) (n c j q : Nat) (x y day : Int) (nm : ByteArray) : Nat → World → Value → Prop
  | 0, _, v => v = .pointer (some ⟨p, 0, none⟩)
  | 1, w, v => ∃ g, v = .slice (some ⟨g, 0, none⟩) 3 3 ∧ BlkAt w b g names3A 9
  | 2, _, v => v = .slice (some ad) n c
  | 3, _, v => v = .int .i64 j
  | 4, _, v => v = .pointer (some (ad.add j))
  | 5, _, v => v = .int .i64 x
  | 6, _, v => v = .int .i64 q
  | 7, w, v => ∃ g, v = .pointer (some ⟨g, q, none⟩) ∧ BlkAt w b g names3A 9
  | 8, _, v => v = .string nm
  | 9, _, v => v = .int .i64 day
  | 10, _, v => v = .slice (some ad) n c
  | 11, _, v => v = .int .i64 j
  | 12, _, v => v = .pointer (some (ad.add j))
  | 13, _, v => v = .int .i64 x
  | 14, _, v => v = .int .i64 y
  | _, _, _ => True
theorem fixF_ext {p b : Nat} {ad : Addr} {n c j q : Nat} {x y day : Int} {nm : ByteArray} {w w' : World} (i : Nat) (v : Value) (hx : Ext w w') (h : fixF p b ad n c j q x y day nm i w v) : fixF p b ad n c j q x y day nm i w' v := by
  rcases i with _ | _ | _ | _ | _ | _ | _ | _ | i
  · exact h
  · obtain ⟨g, e, hB⟩ := h; exact ⟨g, e, hB.ext hx⟩
  · exact h
  · exact h
  · exact h
  · exact h
  · exact h
  · obtain ⟨g, e, hB⟩ := h; exact ⟨g, e, hB.ext hx⟩
  · rcases i with _ | _ | _ | _ | _ | _ | _ | i <;> exact h
theorem names3_at (q : Nat) (h : q < 3) : ∃ nm, names3A[q]? = some (.string nm) := by
  rcases (by omega : q = 0 ∨ q = 1 ∨ q = 2) with rfl | rfl | rfl <;> exact ⟨_, rfl⟩

set_option maxRecDepth 100000 in
set_option maxHeartbeats 3200000 in
theorem valueNeeds_walk (p : Pl) (a : Option Addr) (n cap : Nat) (l : List Int) (day v : Int) (w : World) (hp : p.In (· < w.heap.size) w) (hl : InInts w a n cap l) (hd : (Lit.int .i64 day).wf = true) (hv : (Lit.int .i64 v).wf = true) :
    Calls Try.prog 18 #[p.val, .slice a n cap, .int .i64 day, .int .i64 v] w fun e w' => e = .returned (.bool true) ∧ Ext w w' := by
  have hbd := i64_of hd
  have hbv := i64_of hv
  obtain ⟨o, ho⟩ := obsT_ok p 4 0 16
  have hwf := ho.wf
  have hcl := ho.clean
  have hon : o.nodes < 32 := ho.nodes
  have H1 := fun W (hW : Ext w W) => number_calls p W ((hp.ext hW).weak (fun y hy => Nat.lt_of_lt_of_le hy hW.le))
  have H2 := fun (h : HT) (q : Nat → Prop) (W : World) (e : h.tr = (obsT p 4 0 16).1) (hin : h.In q W) => pobs_at ho.is ho.wf h q W e hin
  have H3 := fun W => ocheck_calls o W hwf (by omega)
  have H4 := fun W => onames_calls _ o W (Nat.lt_succ_self _) hwf (by omega)
  have H5 := fun (P f c : Nat) (F : FixL) (d : Int) (W : World) (hW : Wld W P f c F []) => vneeds_calls P f c F [] d o W hwf (by omega) hW
  have H6 := fun (P f c : Nat) (F : FixL) (d : Int) (W : World) (hW : Wld W P f c F []) => vOf_calls P f c F [] d o W hwf (by omega) hW
  have hm0 : 0 ≤ day % 20 := Int.emod_nonneg _ (by omega)
  have hm1 : day % 20 < 20 := Int.emod_lt_of_pos _ (by omega)
  have HD := fun W => within_calls day 20 W (by omega) (by omega) hbd.1 hbd.2
  have hv0 : 0 ≤ v % 100 := Int.emod_nonneg _ (by omega)
  have hv1 : v % 100 < 100 := Int.emod_lt_of_pos _ (by omega)
  have HV := fun W => within_calls v 100 W (by omega) (by omega) hbv.1 hbv.2
  obtain ⟨t, x, e⟩ := Ob.form_clean hcl
  simp only [e] at H2 H3 H4 H5 H6
  have HO := Lib.hid (And.intro hwf (And.intro hcl hon))
  clear hwf hcl hon ho hp hd hv
  generalize (obsT p 4 0 16).1 = T at *
  generalize day % 20 = d at *
  generalize v % 100 = y at *
  unfold Pl.val at *
  by_cases hck : o.checked = 0
  · have HC := Lib.hid hck
    rw [hck] at H3
    clear hck
    go_enter Try.func18, Try.ntmps18
    (go_wp2_with fail; (with_reducible refine (H1 _ ((by repeat' (first | (with_reducible exact Ext.refl _) | (with_reducible assumption) | (with_reducible refine Ext.alloc ?_ _) | (with_reducible refine Ext.drew ?_) | (with_reducible refine Ext.drewN ?_ _) | (with_reducible refine Ext.setCell ?_ (by first | exact Nat.le_refl _ | (simp; done) | (simp; omega) | omega) _) | (with_reducible refine Ext.trans ?_ (by assumption)))))).mono ?_); rintro e w' ⟨h5, rfl, ht5, hi5, hv5⟩)
    (go_wp2_with fail; (with_reducible refine (H2 _ _ _ ht5 hi5).mono ?_); rintro e w' ⟨rfl, hv6⟩)
    clear H1 H2 ht5 hi5
    (go_wp2_with fail; (with_reducible refine (new_own (w0 := w) ((by repeat' (first | (with_reducible exact Ext.refl _) | (with_reducible assumption) | (with_reducible refine Ext.alloc ?_ _) | (with_reducible refine Ext.drew ?_) | (with_reducible refine Ext.drewN ?_ _) | (with_reducible refine Ext.setCell ?_ (by first | exact Nat.le_refl _ | (simp; done) | (simp; omega) | omega) _) | (with_reducible refine Ext.trans ?_ (by assumption)))))).mono ?_); rintro e w' ⟨P, f, c, rfl, hO, hx7⟩)
    (go_wp2_with fail; (with_reducible refine (H3 _).mono ?_); rintro e w' ⟨rfl, hx8⟩)
    clear H3
    (go_wp2_with fail; (with_reducible refine (HD _).mono ?_); rintro e w' ⟨rfl, rfl⟩)
    have hO := hO.keep hx8
    have hl0 := Lib.hid hl
    clear hv5 hv6 hx7 hx8 HD hl
    go_wp2_with fail
    go_loopw [11] (fun i wr => ∃ (j : Nat) (F : FixL), j ≤ 3 ∧ j ≤ n ∧ i = .int .i64 j ∧ F.length ≤ j ∧ Own w wr P f c F []) (fun i _ => 3 - (intOf i).toNat)
    case atStart => exact ⟨0, [], by omega, by omega, rfl, Nat.zero_le _, hO⟩
    case round =>
      obtain ⟨j, F, hj3, hjn, rfl, hFl, hO9⟩ := hrel
      clear hO
      by_cases hgo : j < n ∧ j < 3
      · obtain ⟨hlt, h3⟩ := hgo
        obtain ⟨ad, u0, rfl, hu, hc0⟩ := hl0.out.1.at1 hlt
        have hz : ∃ z, u0 = .int .i64 z ∧ -9223372036854775808 ≤ z ∧ z ≤ 9223372036854775807 := by
          simp only [ints, List.getElem?_map] at hu
          cases hx : l[j]? with
          | none => rw [hx] at hu; cases hu
          | some z =>
            rw [hx] at hu
            exact ⟨z, by simpa using hu.symm, i64_of (hl0.out.2.2.2 z (List.mem_of_getElem? hx))⟩
        obtain ⟨z, rfl, hz1, hz2⟩ := hz
        have hcz := fun (W : World) (hG : Own w W P f c F []) => hG.ext.cell hc0
        have HW3 := fun W => within_calls z 3 W (by omega) (by omega) hz1 hz2
        have HW50 := fun W => within_calls z 50 W (by omega) (by omega) hz1 hz2
        have hq0 : 0 ≤ z % 3 := Int.emod_nonneg _ (by omega)
        have hq1 : z % 3 < 3 := Int.emod_lt_of_pos _ (by omega)
        obtain ⟨q, hq⟩ : ∃ q : Nat, z % 3 = q := ⟨(z % 3).toNat, by omega⟩
        rw [hq] at HW3 hq1
        obtain ⟨nm, hnm⟩ := names3_at q (by omega)
        generalize z % 50 = u at *
        clear hu hc0 hq hq0
        go_wp2_with fail
        refine wp_region_slots 15 [0, 1, 2, 3, 4, 5, 6, 7, 8, 9, 10, 11, 12, 13, 14] _ [52, 53, 54, 55, 56, 57, 58, 59, 60, 61, 62, 63, 64, 65, 66] (fixF P P ad n cap j q z u d nm) (fun _ W => Own w W P f c F []) (by kernel_rfl) rfl (by kernel_rfl) (by kernel_rfl) rfl rfl rfl (by decide) rfl ?_ ?_ ?_
        · exact hO9.keep (Ext.refl _).drew
        · refine slots_cons rfl ?_ (slots_cons rfl ?_ (slots_cons rfl ?_ (slots_cons rfl ?_ (slots_cons rfl ?_ (slots_cons rfl ?_ (slots_cons rfl ?_ (slots_cons rfl ?_ (slots_cons rfl ?_ (slots_cons rfl ?_ (slots_cons rfl ?_ (slots_cons rfl ?_ (slots_cons rfl ?_ (slots_cons rfl ?_ (slots_cons rfl ?_ slots_nil))))))))))))))
          · intro l a W hs ho hG hd hne K hK
            have s10 : a.tmps[10]?.getD undef = .pointer (some ⟨P, 0, none⟩) := ho.ev 10 rfl
            clear hd ho hne
            go_simp
            exact hK _ _ (rfl) (hG) (fun j' v' _ hf => hf)
          · intro l a W hs ho hG hd hne K hK
            have hbW : P < W.heap.size := hG.wld.lts.1
            clear hd ho hne
            go_simp
            exact hK _ _ (⟨W.heap.size, rfl, BlkAt.new hbW⟩) (hG.keep ((Ext.refl W).alloc _)) (fun j' v' _ hf => fixF_ext j' v' ((Ext.refl W).alloc _) hf)
          · intro l a W hs ho hG hd hne K hK
            have s1 : a.tmps[1]?.getD undef = .slice (some ad) n cap := ho.ev 1 rfl
            clear hd ho hne
            go_simp
            exact hK _ _ (rfl) (hG) (fun j' v' _ hf => hf)
          · intro l a W hs ho hG hd hne K hK
            have s11 : a.tmps[11]?.getD undef = .int .i64 (j : Int) := ho.ev 11 rfl
            clear hd ho hne
            go_simp
            exact hK _ _ (rfl) (hG) (fun j' v' _ hf => hf)
          · intro l a W hs ho hG hd hne K hK
            have e2 := hd ⟨2, .data⟩ (by simp) rfl
            replace e2 : a.tmps[54]?.getD undef = .slice (some ad) n cap := e2
            have e3 := hd ⟨3, .data⟩ (by simp) rfl
            replace e3 : a.tmps[55]?.getD undef = .int .i64 (j : Int) := e3
            have hj0 : (0 : Int) ≤ (j : Int) := by omega
            have hjn2 : (j : Int) < (n : Int) := by omega
            clear hd ho hne
            go_simp
            exact hK _ _ (rfl) (hG) (fun j' v' _ hf => hf)
          · intro l a W hs ho hG hd hne K hK
            have e4 := hd ⟨4, .data⟩ (by simp) rfl
            replace e4 : a.tmps[56]?.getD undef = .pointer (some (ad.add j)) := e4
            have hc := hcz W hG
            clear hd ho hne
            go_simp
            exact hK _ _ (rfl) (hG) (fun j' v' _ hf => hf)
          · intro l a W hs ho hG hd hne K hK
            have e5 := hd ⟨5, .data⟩ (by simp) rfl
            replace e5 : a.tmps[57]?.getD undef = .int .i64 z := e5
            clear hd ho hne
            go_simp
            go_at_call 34
            (with_reducible refine (HW3 W).mono ?_)
            rintro e W2 ⟨rfl, rfl⟩
            go_simp
            exact hK _ _ (rfl) (hG) (fun j' v' _ hf => hf)
          · intro l a W hs ho hG hd hne K hK
            have d1 := hd ⟨1, .data⟩ (by simp) rfl
            obtain ⟨g, e1, hB⟩ := d1
            replace e1 : a.tmps[53]?.getD undef = .slice (some ⟨g, 0, none⟩) 3 3 := e1
            have e6 := hd ⟨6, .data⟩ (by simp) rfl
            replace e6 : a.tmps[58]?.getD undef = .int .i64 (q : Int) := e6
            have hq0 : (0 : Int) ≤ (q : Int) := by omega
            have hq3 : (q : Int) < 3 := by omega
            clear hd ho hne
            go_simp
            exact hK _ _ (⟨g, rfl, hB⟩) (hG) (fun j' v' _ hf => hf)
          · intro l a W hs ho hG hd hne K hK
            have d7 := hd ⟨7, .data⟩ (by simp) rfl
            obtain ⟨g, e7, hB⟩ := d7
            replace e7 : a.tmps[59]?.getD undef = .pointer (some ⟨g, q, none⟩) := e7
            have hc := hB.cell hnm
            clear hd ho hne
            go_simp
            exact hK _ _ (rfl) (hG) (fun j' v' _ hf => hf)
          · intro l a W hs ho hG hd hne K hK
            have s2 : a.tmps[2]?.getD undef = .int .i64 d := ho.ev 2 rfl
            clear hd ho hne
            go_simp
            exact hK _ _ (rfl) (hG) (fun j' v' _ hf => hf)
          · intro l a W hs ho hG hd hne K hK
            have s1 : a.tmps[1]?.getD undef = .slice (some ad) n cap := ho.ev 1 rfl
            clear hd ho hne
            go_simp
            exact hK _ _ (rfl) (hG) (fun j' v' _ hf => hf)
          · intro l a W hs ho hG hd hne K hK
            have s11 : a.tmps[11]?.getD undef = .int .i64 (j : Int) := ho.ev 11 rfl
            clear hd ho hne
            go_simp
            exact hK _ _ (rfl) (hG) (fun j' v' _ hf => hf)
          · intro l a W hs ho hG hd hne K hK
            have e10 := hd ⟨10, .data⟩ (by simp) rfl
            replace e10 : a.tmps[62]?.getD undef = .slice (some ad) n cap := e10
            have e11 := hd ⟨11, .data⟩ (by simp) rfl
            replace e11 : a.tmps[63]?.getD undef = .int .i64 (j : Int) := e11
            have hj0 : (0 : Int) ≤ (j : Int) := by omega
            have hjn2 : (j : Int) < (n : Int) := by omega
            clear hd ho hne
            go_simp
            exact hK _ _ (rfl) (hG) (fun j' v' _ hf => hf)
          · intro l a W hs ho hG hd hne K hK
            have e12 := hd ⟨12, .data⟩ (by simp) rfl
            replace e12 : a.tmps[64]?.getD undef = .pointer (some (ad.add j)) := e12
            have hc := hcz W hG
            clear hd ho hne
            go_simp
            exact hK _ _ (rfl) (hG) (fun j' v' _ hf => hf)
          · intro l a W hs ho hG hd hne K hK
            have e13 := hd ⟨13, .data⟩ (by simp) rfl
            replace e13 : a.tmps[65]?.getD undef = .int .i64 z := e13
            clear hd ho hne
            go_simp
            go_at_call 34
            (with_reducible refine (HW50 W).mono ?_)
            rintro e W2 ⟨rfl, rfl⟩
            go_simp
            exact hK _ _ (rfl) (hG) (fun j' v' _ hf => hf)
        · intro l a W ho hG hall hF K hK
          have e0 : a.tmps[52]?.getD undef = .pointer (some ⟨P, 0, none⟩) := hF 0 (by omega)
          have e8 : a.tmps[60]?.getD undef = .string nm := hF 8 (by omega)
          have e9 : a.tmps[61]?.getD undef = .int .i64 d := hF 9 (by omega)
          have e14 : a.tmps[66]?.getD undef = .int .i64 u := hF 14 (by omega)
          obtain ⟨fr, hfr⟩ : ∃ fr : Tmp → Value, a = ([52, 53, 54, 55, 56, 57, 58, 59, 60, 61, 62, 63, 64, 65, 66] : List Tmp).foldl (fun b d => b.put (some d) (fr d)) _ := ⟨_, ho.puts⟩
          have hfr0 := Lib.hid hfr
          clear hfr ho hF hall
          go_simp
          go_at_call 35
          (with_reducible refine (fix_calls P f c F [] nm d u W hG.wld).mono ?_)
          rintro e W2 ⟨rfl, hW2, hg2⟩
          have hG2 := Lib.hid (hG.step (.inl rfl) hW2 hg2)
          clear hG hW2 hg2
          go_simp
          refine hK _ _ ?_
          rw [hfr0.out]
          simp only [List.foldl]
          clear e0 e8 e9 e14 hfr0 hK
          go_wp2_with fail
          go_roundw
          case rel => exact ⟨j + 1, fixNew F nm d u, by omega, by omega, by go_num, by have := fixNew_len F nm d u; omega, hG2.out⟩
          case measure => simp [intOf]; omega
  
      · have hex : n ≤ j ∨ (j < n ∧ 3 ≤ j) := by omega
        clear hgo
        obtain ⟨hwf, hcl, hon⟩ := HO.out
        have hform := Ob.checked_form HC.out
        have HNf := Lib.hid (Ob.names_formed hform)
        have HNd := Lib.hid o.names_dup
        have HNh := Lib.hid (show 2 * o.names.length ≤ 32 by have := o.names_half; omega)
        have HV1 := Lib.hid (fun (F2 : FixL) (h : ∀ s ∈ o.names, (F2.lookup (s, d)).isSome = true) => o.value_told hcl h)
        have HVo : ∀ F2 : FixL, o.ofV F2 d = o.value F2 d := fun F2 => by unfold Ob.ofV; rw [if_pos HC.out]
        have HNn : ∀ F2 : FixL, o.needs F2 d = notFixed F2 d o.names := fun F2 => by unfold Ob.needs; rw [if_pos HC.out]
        have K5 := fun (F2 : FixL) => H5 P f c F2 d
        have K6 := fun (F2 : FixL) => H6 P f c F2 d
        simp only [HNn] at K5
        simp only [HVo] at K6
        clear H5 H6 HVo HNn hwf hcl hform hon
        generalize hval : (fun F2 : FixL => o.value F2 d) = val at *
        have hval1 : ∀ F2, o.value F2 d = val F2 := fun F2 => by rw [← hval]
        simp only [hval1] at K6
        have HV2 := Lib.hid (fun (F2 : FixL) (h : ∀ s ∈ o.names, (F2.lookup (s, d)).isSome = true) => (show (val F2).told by rw [← hval1]; exact HV1.out F2 h))
        clear hval hval1 HV1
        generalize o.names = NN at *
        have hfl := hO9.wld.lts
        have hO10 := Lib.hid hO9
        have hN0 := Lib.hid (And.intro hO9.wld hfl)
        clear hO9 hfl
        rcases hex with hex | ⟨hex, hex2⟩ <;>
        ( (go_wp2_with fail; (with_reducible refine (K5 F _ hN0.out.1).mono ?_); rintro e w8 ⟨nv, rfl, hno, hx8⟩)
          obtain ⟨A1, C1, rfl, hn1, hc1⟩ := own_form hno
          unfold maxLen at hc1
          (go_wp2_with fail; (with_reducible refine (H4 _).mono ?_); rintro e w9 ⟨lv, rfl, hlo, hx9⟩)
          obtain ⟨A2, C2, rfl, hn2, hc2⟩ := own_form hlo
          unfold maxLen at hc2
          have hst := Lib.hid (show Own w w9 P f c F [] ∧ w9.ownsRow (f + 1) 9 1 (.slice A1 (notFixed F d NN).length C1) (notFixed F d NN).length (strVals (notFixed F d NN)) ∧ Rd w9 1 A2 NN.length (strVals NN) from
            ⟨(hO10.out.keep hx8).keep hx9, hx9.own (own_mono hno (by have := hN0.out.2.2.1; omega)), Rd.of_own hlo⟩)
          clear hno hlo hx8 hx9 hO10 hN0 H4
          go_wp2_with fail
          go_loopw [76, 14] (fun i k wr => ∃ q : Nat, q ≤ NN.length ∧ i = .int .i64 q ∧ k = .int .i64 ((notFixed F d (NN.take q)).length : Nat) ∧ Own w wr P f c F [] ∧ wr.ownsRow (f + 1) 9 1 (.slice A1 (notFixed F d NN).length C1) (notFixed F d NN).length (strVals (notFixed F d NN)) ∧ Rd wr 1 A2 NN.length (strVals NN)) (fun i _ _ => NN.length - (intOf i).toNat)
          case atStart => exact ⟨0, by omega, rfl, rfl, hst.out⟩
          case round =>
            obtain ⟨q, hq, rfl, rfl, hOw, hown, hrd⟩ := hrel
            by_cases hlt : q < NN.length
            · obtain ⟨sx, e1, hv1⟩ := strVals_at hlt
              obtain ⟨ad2, u2, rfl, hu2, hcc2⟩ := hrd.at1 hlt
              obtain rfl : Value.string sx = u2 := by rw [hv1] at hu2; injection hu2
              have htk := Lib.hid (notFixed_take (F := F) (d := d) e1)
              have hq0 := Lib.hid (show q + 1 ≤ NN.length from hlt)
              have hst2 := Lib.hid (And.intro hOw (And.intro hown hrd))
              have hkl : (notFixed F d (NN.take q)).length ≤ q := Nat.le_trans (notFixed_len _ _ _) (by rw [List.length_take]; omega)
              have HFx := fun W (hW : Own w W P f c F []) => fixed_own (w0 := w) sx d hW
              cases hlk : (F.lookup (sx, d)).isSome with
              | true =>
                rw [hlk] at htk HFx
                have hk3 := Lib.hid (show (notFixed F d (NN.take (q + 1))).length = (notFixed F d (NN.take q)).length by rw [htk.out]; simp)
                generalize (notFixed F d (NN.take q)).length = kq at *
                generalize (F.lookup (sx, d)).getD 0 = gx at *
                clear hv1 hu2 e1 hrd hown hlk
                (go_wp2_with fail; (with_reducible refine (HFx _ hOw).mono ?_); rintro e w' ⟨rfl, rfl⟩)
                clear HFx hOw
                go_wp2_with fail
                go_roundw
                case rel => exact ⟨q + 1, hq0.out, by go_num, by rw [hk3.out], hst2.out⟩
                case measure => simp [intOf]; omega
              | false =>
                have hsp := notFixed_split e1 hlk
                obtain ⟨hk1, hk2⟩ := List.getElem?_eq_some_iff.1 hsp
                obtain ⟨ad3, u3, rfl, hu3, hcc3⟩ := (Rd.of_own hown).at1 hk1
                obtain rfl : Value.string sx = u3 := by
                  simp only [strVals, List.getElem?_map, hsp] at hu3
                  injection hu3
                rw [hlk] at htk HFx
                have hk3 := Lib.hid (show (notFixed F d (NN.take (q + 1))).length = (notFixed F d (NN.take q)).length + 1 by rw [htk.out]; simp)
                generalize (notFixed F d (NN.take q)).length = kq at *
                generalize (F.lookup (sx, d)).getD 0 = gx at *
                have hk5 : (kq : Int) < ((notFixed F d NN).length : Int) := by omega
                have hk6 : decide (((notFixed F d NN).length : Int) ≤ (kq : Int)) = false := by simp; omega
                clear hv1 hu2 e1 hrd hown hlk hsp hk2 hu3
                generalize (notFixed F d NN).length = ndl at *
                (go_wp2_with fail; (with_reducible refine (HFx _ hOw).mono ?_); rintro e w' ⟨rfl, rfl⟩)
                clear HFx hOw
                go_wp2_with fail
                go_roundw
                case rel => exact ⟨q + 1, hq0.out, by go_num, by rw [hk3.out]; go_num, hst2.out⟩
                case measure => simp [intOf]; omega
            · obtain rfl : q = NN.length := by omega
              rw [List.take_length]
              have hst3 := Lib.hid (And.intro hOw hown)
              have HNdup : (notFixed F d NN).Nodup := List.Pairwise.filter _ HNd.out
              have HNlen : (notFixed F d NN).length ≤ 16 := Nat.le_trans (notFixed_len _ _ _) (by have := HNh.out; omega)
              have HN1 := Lib.hid (fun s (hs : s ∈ notFixed F d NN) => HNf.out s (notFixed_mem hs).1)
              have HN2 := Lib.hid (fun s (hs : s ∈ notFixed F d NN) => (notFixed_mem hs).2)
              have HN3 := Lib.hid (all_fixed F d y NN)
              have HN4 := Lib.hid (none_needed F d y NN)
              have HN5 := Lib.hid HNdup
              have hday : dayB d = true := (dayB_iff _).2 (by omega)
              have hvd : Vd y = true := (Vd_iff _).2 (by omega)
              have K5a := K5 (F ++ fixAll d y (notFixed F d NN))
              have K6a := K6 (F ++ fixAll d y (notFixed F d NN))
              have HV3 := Lib.hid (HV2.out (F ++ fixAll d y (notFixed F d NN)) HN3.out)
              rw [HN4.out] at K5a
              clear K5 K6 HV2 HN3 HN4 hrd hOw hown HNdup
              generalize notFixed F d NN = Nd at *
              generalize val (F ++ fixAll d y Nd) = kv at *
              go_wp2_with fail
              go_loopw [110] (fun i wr => ∃ q : Nat, q ≤ Nd.length ∧ i = .int .i64 q ∧ Own w wr P f c (F ++ fixAll d y (Nd.take q)) [] ∧ wr.ownsRow (f + 1) 9 1 (.slice A1 Nd.length C1) Nd.length (strVals Nd)) (fun i _ => Nd.length - (intOf i).toNat)
              case atStart => exact ⟨0, by omega, rfl, by simpa [fixAll] using hst3.out.1, hst3.out.2⟩
              case round =>
                obtain ⟨q, hq, rfl, hOw, hown⟩ := hrel
                by_cases hlt : q < Nd.length
                · obtain ⟨sx, e1, hv1⟩ := strVals_at hlt
                  obtain ⟨ad2, u2, rfl, hu2, hcc2⟩ := (Rd.of_own hown).at1 hlt
                  obtain rfl : Value.string sx = u2 := by rw [hv1] at hu2; injection hu2
                  have hmem := List.mem_of_getElem? e1
                  have hnm := HN1.out sx hmem
                  have hnl : ((F ++ fixAll d y (Nd.take q)).lookup (sx, d)).isSome = false := by
                    rw [lookup_fixAll, HN2.out sx hmem]
                    simp only [Bool.false_or, decide_eq_false_iff_not]
                    intro hm
                    obtain ⟨i, hi⟩ := List.mem_iff_getElem?.1 hm
                    rw [List.getElem?_take] at hi
                    split at hi
                    · have := names_apart HN5.out (by assumption) hi e1
                      simp at this
                    · cases hi
                  have hln : (F ++ fixAll d y (Nd.take q)).length < 32 := by
                    simp only [List.length_append, fixAll, List.length_map, List.length_take]
                    omega
                  have hst4 := Lib.hid (And.intro hOw hown)
                  have hF2 := Lib.hid (show F ++ fixAll d y (Nd.take q) ++ [((sx, d), y)] = F ++ fixAll d y (Nd.take (q + 1)) by
                    rw [List.take_add_one, e1]
                    simp [fixAll])
                  have hq0 := Lib.hid (show q + 1 ≤ Nd.length from hlt)
                  have HFx := fix_ok sx d y hOw hnm hday hvd hnl hln
                  rw [hF2.out] at HFx
                  clear hv1 hu2 e1 hown hOw hnm hnl hln hmem hF2
                  (go_wp2_with fail; (with_reducible refine (HV _).mono ?_); rintro e w' ⟨rfl, rfl⟩)
                  (go_wp2_with fail; (with_reducible refine HFx.mono ?_); rintro e w5 ⟨rfl, hO5, hg5⟩)
                  clear HFx
                  have hst5 := Lib.hid (And.intro hO5 (hst4.out.2.kept hg5 (by
                    cases hk : (Value.slice (some ad2) Nd.length C1).ownBlock with
                    | none => exact .inl rfl
                    | some g => exact .inr (fun h2 => by injection h2 with h2; have := (hst4.out.2.lt g hk).1; omega))))
                  clear hO5 hg5 hst4
                  go_wp2_with fail
                  go_roundw
                  case rel => exact ⟨q + 1, hq0.out, by go_num, hst5.out⟩
                  case measure => simp [intOf]; omega
                · obtain rfl : q = Nd.length := by omega
                  rw [List.take_length] at hOw
                  clear hown
                  (go_wp2_with fail; (with_reducible refine (K6a _ hOw.wld).mono ?_); rintro e w6 ⟨rfl, hx6⟩)
                  (go_wp2_with fail; (with_reducible refine (K5a _ (hOw.wld.ext hx6)).mono ?_); rintro e w7 ⟨nv, rfl, hno, hx7⟩)
                  obtain ⟨A7, C7, rfl, _, _⟩ := own_form hno
                  have hxx := Lib.hid ((hOw.ext.trans hx6).trans hx7)
                  clear hno hx6 hx7 hOw K5a K6a
                  obtain ⟨kn, ki, ke⟩ := kv
                  rcases HV3.out with ⟨h1, h2⟩ | ⟨h1, h2⟩
                  · simp only at h1 h2
                    subst h1 h2
                    (go_wp2_with fail; (with_reducible refine (wakes09_calls _).mono ?_); rintro e w' ⟨rfl, hx9⟩)
                    go_wp2
                    go_ret
                    exact ⟨rfl, hxx.out.trans hx9⟩
                  · simp only at h1 h2
                    subst h1 h2
                    (go_wp2_with fail; (with_reducible refine (wakes09_calls _).mono ?_); rintro e w' ⟨rfl, hx9⟩)
                    go_wp2
                    go_ret
                    exact ⟨rfl, hxx.out.trans hx9⟩)
  · have hne : (o.checked != 0) = true := by simpa using hck
    generalize o.checked = ck at *
    go_enter Try.func18, Try.ntmps18
    (go_wp2_with fail; (with_reducible refine (H1 _ ((by repeat' (first | (with_reducible exact Ext.refl _) | (with_reducible assumption) | (with_reducible refine Ext.alloc ?_ _) | (with_reducible refine Ext.drew ?_) | (with_reducible refine Ext.drewN ?_ _) | (with_reducible refine Ext.setCell ?_ (by first | exact Nat.le_refl _ | (simp; done) | (simp; omega) | omega) _) | (with_reducible refine Ext.trans ?_ (by assumption)))))).mono ?_); rintro e w' ⟨h5, rfl, ht5, hi5, hv5⟩)
    (go_wp2_with fail; (with_reducible refine (H2 _ _ _ ht5 hi5).mono ?_); rintro e w' ⟨rfl, hv6⟩)
    clear H1 H2 ht5 hi5
    (go_wp2_with fail; (with_reducible refine (new_own (w0 := w) ((by repeat' (first | (with_reducible exact Ext.refl _) | (with_reducible assumption) | (with_reducible refine Ext.alloc ?_ _) | (with_reducible refine Ext.drew ?_) | (with_reducible refine Ext.drewN ?_ _) | (with_reducible refine Ext.setCell ?_ (by first | exact Nat.le_refl _ | (simp; done) | (simp; omega) | omega) _) | (with_reducible refine Ext.trans ?_ (by assumption)))))).mono ?_); rintro e w' ⟨P, f, c, rfl, hO, hx7⟩)
    (go_wp2_with fail; (with_reducible refine (H3 _).mono ?_); rintro e w' ⟨rfl, hx8⟩)
    (go_wp2_with fail; (with_reducible refine (wakes09_calls _).mono ?_); rintro e w' ⟨rfl, hx9⟩)
    go_wp2
    go_ret
    exact ⟨rfl, (by repeat' (first | (with_reducible exact Ext.refl _) | (with_reducible assumption) | (with_reducible refine Ext.alloc ?_ _) | (with_reducible refine Ext.drew ?_) | (with_reducible refine Ext.drewN ?_ _) | (with_reducible refine Ext.setCell ?_ (by first | exact Nat.le_refl _ | (simp; done) | (simp; omega) | omega) _) | (with_reducible refine Ext.trans ?_ (by assumption))))⟩

end Go.Proofs.Ytgjjngkmbplijaa
