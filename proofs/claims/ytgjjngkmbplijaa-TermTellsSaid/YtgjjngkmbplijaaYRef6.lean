/- The document's trees in memory: are two alike (ref04.Same). Printed by wip/src/mkref6.py. -/
import Derived.Test.YtgjjngkmbplijaaYRef5

namespace Go.Proofs.Ytgjjngkmbplijaa
open Go.RowKit
set_option linter.unusedSimpArgs false
set_option linter.unusedVariables false

theorem sameTL_len {l r : List Tr} (h : l.length ≠ r.length) : Tr.sameTL l r = false := by
  induction l generalizing r with
  | nil => cases r with
    | nil => exact absurd rfl h
    | cons b r => rfl
  | cons a l ih => cases r with
    | nil => rfl
    | cons b r => simp only [Tr.sameTL]; rw [ih (by simpa using h), Bool.and_false]
theorem sameTL_take {l r : List Tr} {j : Nat} {a b : Tr} (h1 : l[j]? = some a) (h2 : r[j]? = some b) : Tr.sameTL (l.take (j + 1)) (r.take (j + 1)) = (Tr.sameTL (l.take j) (r.take j) && a.same b) := by
  induction l generalizing r j with
  | nil => simp at h1
  | cons x l ih => cases r with
    | nil => simp at h2
    | cons y r => cases j with
      | zero => simp at h1 h2; subst h1 h2; simp [Tr.sameTL]
      | succ j => simp only [List.getElem?_cons_succ] at h1 h2; simp only [List.take_succ_cons, Tr.sameTL]; rw [ih h1 h2, Bool.and_assoc]
theorem sameTL_hit {l r : List Tr} {j : Nat} {a b : Tr} (h1 : l[j]? = some a) (h2 : r[j]? = some b) (h : a.same b = false) : Tr.sameTL l r = false := by
  induction l generalizing r j with
  | nil => simp at h1
  | cons x l ih => cases r with
    | nil => simp at h2
    | cons y r => cases j with
      | zero => simp at h1 h2; subst h1 h2; simp [Tr.sameTL, h]
      | succ j => simp only [List.getElem?_cons_succ] at h1 h2; simp only [Tr.sameTL]; rw [ih h1 h2, Bool.and_false]
theorem HT.same_eq (h u : HT) : h.tr.same u.tr = (!(decide (h.kd = 0)) && decide (h.kd = u.kd) && (h.s == u.s) && decide (h.n = u.n) && Tr.sameTL (h.k.map HT.tr) (u.k.map HT.tr)) := by
  rw [HT.tr_eq h, Tr.same, HT.tr_eq u]
  rfl
theorem txt_two (x s : ByteArray) : x = s ∨ ((x.toList == s.toList) = false ∧ (x == s) = false) := by
  by_cases h : x = s
  · exact .inl h
  · exact .inr ⟨by rw [bytes_beq]; exact beq_eq_false_iff_ne.2 h, beq_eq_false_iff_ne.2 h⟩

set_option maxRecDepth 100000 in
set_option maxHeartbeats 6400000 in
theorem rsame_calls (k : Nat) : ∀ (h u : HT) (q q' : Nat → Prop) (w : World), SizeOf.sizeOf h < k → h.In q w → u.In q' w → Calls Try.prog 60 #[h.val, u.val] w fun e w' => RetB w (h.tr.same u.tr) e w' := by
  induction k with
  | zero => intro h u q q' w hk; omega
  | succ k ih =>
    intro h u q q' w hk hin hin'
    have hR0 := h.same_eq u
    have hcap := hin.cap
    have hcap' := hin'.cap
    have hAt := fun (i : Nat) (hi : i < h.k.length) => hin.at hi
    have hAt' := fun (i : Nat) (hi : i < u.k.length) => hin'.at hi
    have HR := fun (x y : HT) (i : Nat) (hx : h.k[i]? = some x) (W : World) (hxi : x.In q W) (hyi : y.In q' W) => ih x y q q' W (by have := HT.size_k hx; omega) hxi hyi
    have hc1 := hcap.1
    have hc2 := hcap.2
    have hd1 := hcap'.1
    have hd2 := hcap'.2
    unfold maxLen at hc2 hd2
    unfold HT.val at *
    clear ih hk hin hin' hcap hcap'
    generalize h.tr.same u.tr = R at *
    generalize h.kd = kd at *
    generalize h.s = ss at *
    generalize h.n = hn at *
    generalize h.a = ha at *
    generalize h.c = hc at *
    generalize h.k = K at *
    generalize u.kd = kd' at *
    generalize u.s = ss' at *
    generalize u.n = hn' at *
    generalize u.a = ha' at *
    generalize u.c = hc' at *
    generalize u.k = K2 at *
    by_cases h0 : kd = 0
    · subst h0
      have hR := Lib.hid (show R = false by rw [hR0]; simp)
      clear HR hAt hAt' hR0
      go_enter Try.func60, Try.ntmps60
      go_wp2
      go_ret
      exact ⟨by rw [hR.out]; rfl, (by repeat' (first | (with_reducible exact Ext.refl _) | (with_reducible assumption) | (with_reducible refine Ext.alloc ?_ _) | (with_reducible refine Ext.drew ?_) | (with_reducible refine Ext.drewN ?_ _) | (with_reducible refine Ext.setCell ?_ (by first | exact Nat.le_refl _ | (simp; done) | (simp; omega) | omega) _) | (with_reducible refine Ext.trans ?_ (by assumption))))⟩
    have h0' : (kd == 0) = false := beq_eq_false_iff_ne.2 h0
    by_cases h1 : kd = kd'
    case neg =>
      have hR := Lib.hid (show R = false by rw [hR0]; simp [h1])
      have h1' : (kd != kd') = true := by simpa using h1
      clear HR hAt hAt' hR0
      go_enter Try.func60, Try.ntmps60
      go_wp2
      go_ret
      exact ⟨by rw [hR.out]; rfl, (by repeat' (first | (with_reducible exact Ext.refl _) | (with_reducible assumption) | (with_reducible refine Ext.alloc ?_ _) | (with_reducible refine Ext.drew ?_) | (with_reducible refine Ext.drewN ?_ _) | (with_reducible refine Ext.setCell ?_ (by first | exact Nat.le_refl _ | (simp; done) | (simp; omega) | omega) _) | (with_reducible refine Ext.trans ?_ (by assumption))))⟩
    subst h1
    rcases txt_two ss ss' with rfl | ⟨t1, t2⟩
    case inr =>
      have hR := Lib.hid (show R = false by rw [hR0, t2]; simp)
      clear HR hAt hAt' hR0
      go_enter Try.func60, Try.ntmps60
      go_wp2
      go_ret
      exact ⟨by rw [hR.out]; rfl, (by repeat' (first | (with_reducible exact Ext.refl _) | (with_reducible assumption) | (with_reducible refine Ext.alloc ?_ _) | (with_reducible refine Ext.drew ?_) | (with_reducible refine Ext.drewN ?_ _) | (with_reducible refine Ext.setCell ?_ (by first | exact Nat.le_refl _ | (simp; done) | (simp; omega) | omega) _) | (with_reducible refine Ext.trans ?_ (by assumption))))⟩
    by_cases h2 : hn = hn'
    case neg =>
      have hR := Lib.hid (show R = false by rw [hR0]; simp [h2])
      have h2' : (hn != hn') = true := by simpa using h2
      clear HR hAt hAt' hR0
      go_enter Try.func60, Try.ntmps60
      go_wp2
      go_ret
      exact ⟨by rw [hR.out]; rfl, (by repeat' (first | (with_reducible exact Ext.refl _) | (with_reducible assumption) | (with_reducible refine Ext.alloc ?_ _) | (with_reducible refine Ext.drew ?_) | (with_reducible refine Ext.drewN ?_ _) | (with_reducible refine Ext.setCell ?_ (by first | exact Nat.le_refl _ | (simp; done) | (simp; omega) | omega) _) | (with_reducible refine Ext.trans ?_ (by assumption))))⟩
    subst h2
    by_cases h3 : K.length = K2.length
    case neg =>
      have hR := Lib.hid (show R = false by rw [hR0, sameTL_len (by simpa using h3)]; simp)
      have h3' : ((K.length : Int) != (K2.length : Int)) = true := by simp; omega
      clear HR hAt hAt' hR0
      go_enter Try.func60, Try.ntmps60
      go_wp2
      go_ret
      exact ⟨by rw [hR.out]; rfl, (by repeat' (first | (with_reducible exact Ext.refl _) | (with_reducible assumption) | (with_reducible refine Ext.alloc ?_ _) | (with_reducible refine Ext.drew ?_) | (with_reducible refine Ext.drewN ?_ _) | (with_reducible refine Ext.setCell ?_ (by first | exact Nat.le_refl _ | (simp; done) | (simp; omega) | omega) _) | (with_reducible refine Ext.trans ?_ (by assumption))))⟩
    have h3' : ((K.length : Int) != (K2.length : Int)) = false := by rw [h3]; simp
    have hR := Lib.hid (show R = Tr.sameTL (K.map HT.tr) (K2.map HT.tr) by rw [hR0]; simp [h0])
    have hX : Ext w ((w.alloc (.cells #[.int .i64 kd, .string ss, .int .i64 hn, .slice ha K.length hc] 76)).alloc (.cells #[.int .i64 kd, .string ss, .int .i64 hn, .slice ha' K2.length hc'] 76)) := ((Ext.refl w).alloc _).alloc _
    have b3 : ((w.alloc (.cells #[.int .i64 kd, .string ss, .int .i64 hn, .slice ha K.length hc] 76)).alloc (.cells #[.int .i64 kd, .string ss, .int .i64 hn, .slice ha' K2.length hc'] 76)).cell? ⟨w.heap.size, 3, none⟩ = some (.slice ha K.length hc) := ((Ext.refl _).alloc _).cell (by rw [World.cell?_alloc_new]; rfl)
    have d3 : ((w.alloc (.cells #[.int .i64 kd, .string ss, .int .i64 hn, .slice ha K.length hc] 76)).alloc (.cells #[.int .i64 kd, .string ss, .int .i64 hn, .slice ha' K2.length hc'] 76)).cell? ⟨w.heap.size + 1, 3, none⟩ = some (.slice ha' K2.length hc') := by
      have e : (w.alloc (.cells #[.int .i64 kd, .string ss, .int .i64 hn, .slice ha K.length hc] 76)).heap.size = w.heap.size + 1 := by simp
      rw [← e, World.cell?_alloc_new]; rfl
    have h3h := Lib.hid h3
    clear hR0 h3
    go_enter Try.func60, Try.ntmps60
    go_wp2_with fail
    generalize ((w.alloc (.cells #[.int .i64 kd, .string ss, .int .i64 hn, .slice ha K.length hc] 76)).alloc (.cells #[.int .i64 kd, .string ss, .int .i64 hn, .slice ha' K2.length hc'] 76)) = X at *
    go_loopw [42] (fun i wr => ∃ j : Nat, j ≤ K.length ∧ i = .int .i64 j ∧ Tr.sameTL ((K.take j).map HT.tr) ((K2.take j).map HT.tr) = true ∧ Ext X wr) (fun i _ => K.length - (intOf i).toNat)
    case atStart => exact ⟨0, by omega, rfl, rfl, Ext.refl _⟩
    case round =>
      obtain ⟨j, hj, rfl, hyes, hx⟩ := hrel
      by_cases hlt : j < K.length
      · have hlt' : j < K2.length := by have := h3h.out; omega
        obtain ⟨g, x, e1, hq1, e2, hxi, q0, q1, q2, q3⟩ := hAt j hlt
        obtain ⟨g', y, e1', hq1', e2', hyi, r0, r1, r2, r3⟩ := hAt' j hlt'
        subst e1 e1'
        replace b3 := hx.cell b3
        replace d3 := hx.cell d3
        replace q0 := (hX.trans hx).cell q0
        replace q1 := (hX.trans hx).cell q1
        replace q2 := (hX.trans hx).cell q2
        replace q3 := (hX.trans hx).cell q3
        replace r0 := (hX.trans hx).cell r0
        replace r1 := (hX.trans hx).cell r1
        replace r2 := (hX.trans hx).cell r2
        replace r3 := (hX.trans hx).cell r3
        have HRn := fun (W : World) (hW : Ext wr W) => HR x y j e2 W (hxi.ext ((hX.trans hx).trans hW)) (hyi.ext ((hX.trans hx).trans hW))
        have f1 : (K.map HT.tr)[j]? = some x.tr := by rw [List.getElem?_map, e2]; rfl
        have f2 : (K2.map HT.tr)[j]? = some y.tr := by rw [List.getElem?_map, e2']; rfl
        have hS := Lib.hid (show Tr.sameTL ((K.take (j + 1)).map HT.tr) ((K2.take (j + 1)).map HT.tr) = (Tr.sameTL ((K.take j).map HT.tr) ((K2.take j).map HT.tr) && x.tr.same y.tr) by
          rw [List.map_take, List.map_take, List.map_take, List.map_take]; exact sameTL_take f1 f2)
        have hH := Lib.hid (fun (hf : x.tr.same y.tr = false) => sameTL_hit f1 f2 hf)
        have hj0 := Lib.hid (show j + 1 ≤ K.length from hlt)
        have hx0 := Lib.hid (And.intro (hX.trans hx) (And.intro hx hyes))
        generalize x.tr.same y.tr = fm at *
        clear HR hAt hAt' e2 e2' hxi hyi hx hX hq1 hq1' hyes f1 f2
        generalize x.kd = x0 at *
        generalize x.s = x1 at *
        generalize x.n = x2 at *
        generalize x.a = x3 at *
        generalize x.k.length = x4 at *
        generalize x.c = x5 at *
        generalize y.kd = y0 at *
        generalize y.s = y1 at *
        generalize y.n = y2 at *
        generalize y.a = y3 at *
        generalize y.k.length = y4 at *
        generalize y.c = y5 at *
        go_upto_region 6 with fail
        go_cut [42, 56] from 42 to 57 (fun i v wx => i = .int .i64 j ∧ v = .bool (!fm) ∧ Ext wr wx)
        case first =>
          refine wp_region_slots 11 [0, 1, 2, 3, 4, 5, 6, 7, 8, 9, 10] _ [45, 46, 47, 48, 49, 50, 51, 52, 53, 54, 55] (fun i _ u => u = ([.pointer (some ⟨w.heap.size, 3, none⟩), .slice (some ⟨g, 0, none⟩) K.length hc, .int .i64 (j : Int), .pointer (some ⟨g, j * 4, none⟩), .agg #[.int .i64 x0, .string x1, .int .i64 x2, .slice x3 x4 x5], .pointer (some ⟨w.heap.size + 1, 3, none⟩), .slice (some ⟨g', 0, none⟩) K2.length hc', .int .i64 (j : Int), .pointer (some ⟨g', j * 4, none⟩), .agg #[.int .i64 y0, .string y1, .int .i64 y2, .slice y3 y4 y5], .bool fm] : List Value).getD i undef) (fun _ W => Ext wr W) (by kernel_rfl) rfl (by kernel_rfl) (by kernel_rfl) rfl rfl rfl (by decide +kernel) rfl ?_ ?_ ?_
          · exact (Ext.refl _).drew
          · refine slots_cons rfl ?_ (slots_cons rfl ?_ (slots_cons rfl ?_ (slots_cons rfl ?_ (slots_cons rfl ?_ (slots_cons rfl ?_ (slots_cons rfl ?_ (slots_cons rfl ?_ (slots_cons rfl ?_ (slots_cons rfl ?_ (slots_cons rfl ?_ slots_nil))))))))))
            · intro l a W hs ho hG hd hne K' hK
              have b2 : a.tmps[2]?.getD undef = .pointer (some ⟨w.heap.size, 0, none⟩) := ho.ev 2 rfl
              clear hd ho hne
              go_simp
              exact hK _ _ rfl hG (fun j' v' _ hf => hf)
            · intro l a W hs ho hG hd hne K' hK
              have e0 : a.tmps[45]?.getD undef = .pointer (some ⟨w.heap.size, 3, none⟩) := hd ⟨0, .data⟩ (by simp) rfl
              have hcl := hG.cell b3
              clear hd ho hne
              go_simp
              exact hK _ _ rfl hG (fun j' v' _ hf => hf)
            · intro l a W hs ho hG hd hne K' hK
              have b5 : a.tmps[5]?.getD undef = .int .i64 (j : Int) := ho.ev 5 rfl
              clear hd ho hne
              go_simp
              exact hK _ _ rfl hG (fun j' v' _ hf => hf)
            · intro l a W hs ho hG hd hne K' hK
              have e1 : a.tmps[46]?.getD undef = .slice (some ⟨g, 0, none⟩) K.length hc := hd ⟨1, .data⟩ (by simp) rfl
              have e2 : a.tmps[47]?.getD undef = .int .i64 (j : Int) := hd ⟨2, .data⟩ (by simp) rfl
              have hj1 : (j : Int) < (K.length : Int) := by omega
              have hj2 : (0 : Int) ≤ (j : Int) := by omega
              clear hd ho hne
              go_simp
              exact hK _ _ rfl hG (fun j' v' _ hf => hf)
            · intro l a W hs ho hG hd hne K' hK
              have e3 : a.tmps[48]?.getD undef = .pointer (some ⟨g, j * 4, none⟩) := hd ⟨3, .data⟩ (by simp) rfl
              have p0 := hG.cell q0
              have p1 := hG.cell q1
              have p2 := hG.cell q2
              have p3 := hG.cell q3
              clear hd ho hne
              go_simp
              exact hK _ _ rfl hG (fun j' v' _ hf => hf)
            · intro l a W hs ho hG hd hne K' hK
              have b3 : a.tmps[3]?.getD undef = .pointer (some ⟨w.heap.size + 1, 0, none⟩) := ho.ev 3 rfl
              clear hd ho hne
              go_simp
              exact hK _ _ rfl hG (fun j' v' _ hf => hf)
            · intro l a W hs ho hG hd hne K' hK
              have e5 : a.tmps[50]?.getD undef = .pointer (some ⟨w.heap.size + 1, 3, none⟩) := hd ⟨5, .data⟩ (by simp) rfl
              have hcl := hG.cell d3
              clear hd ho hne
              go_simp
              exact hK _ _ rfl hG (fun j' v' _ hf => hf)
            · intro l a W hs ho hG hd hne K' hK
              have b5 : a.tmps[5]?.getD undef = .int .i64 (j : Int) := ho.ev 5 rfl
              clear hd ho hne
              go_simp
              exact hK _ _ rfl hG (fun j' v' _ hf => hf)
            · intro l a W hs ho hG hd hne K' hK
              have e6 : a.tmps[51]?.getD undef = .slice (some ⟨g', 0, none⟩) K2.length hc' := hd ⟨6, .data⟩ (by simp) rfl
              have e7 : a.tmps[52]?.getD undef = .int .i64 (j : Int) := hd ⟨7, .data⟩ (by simp) rfl
              have hj1 : (j : Int) < (K2.length : Int) := by omega
              have hj2 : (0 : Int) ≤ (j : Int) := by omega
              clear hd ho hne
              go_simp
              exact hK _ _ rfl hG (fun j' v' _ hf => hf)
            · intro l a W hs ho hG hd hne K' hK
              have e8 : a.tmps[53]?.getD undef = .pointer (some ⟨g', j * 4, none⟩) := hd ⟨8, .data⟩ (by simp) rfl
              have p0 := hG.cell r0
              have p1 := hG.cell r1
              have p2 := hG.cell r2
              have p3 := hG.cell r3
              clear hd ho hne
              go_simp
              exact hK _ _ rfl hG (fun j' v' _ hf => hf)
            · intro l a W hs ho hG hd hne K' hK
              have e4 : a.tmps[49]?.getD undef = .agg #[.int .i64 x0, .string x1, .int .i64 x2, .slice x3 x4 x5] := hd ⟨4, .data⟩ (by simp) rfl
              have e9 : a.tmps[54]?.getD undef = .agg #[.int .i64 y0, .string y1, .int .i64 y2, .slice y3 y4 y5] := hd ⟨9, .data⟩ (by simp) rfl
              clear hd ho hne
              go_simp
              go_at_call 60
              (with_reducible refine (HRn W hG).mono ?_)
              rintro e W2 ⟨rfl, hx4⟩
              go_simp
              exact hK _ _ rfl (hG.trans hx4) (fun j' v' _ hf => hf)
          · intro l a W ho hG hall hF K' hK
            have e10 : a.tmps[55]?.getD undef = .bool fm := hF 10 (by omega)
            obtain ⟨fr, hfr⟩ : ∃ fr : Tmp → Value, a = ([45, 46, 47, 48, 49, 50, 51, 52, 53, 54, 55] : List Tmp).foldl (fun b d => b.put (some d) (fr d)) _ := ⟨_, ho.puts⟩
            have hfr0 := Lib.hid hfr
            clear hfr ho hF hall
            go_simp
            refine hK _ _ ?_
            rw [hfr0.out]
            simp only [List.foldl]
            clear hfr0 hK e10
            go_wp2_with fail
            go_simp
            go_meet
            exact ⟨rfl, rfl, hG⟩
        case rest =>
          obtain ⟨rfl, rfl, hxw⟩ := hcut
          clear b3 d3 q0 q1 q2 q3 r0 r1 r2 r3 HRn
          cases fm with
          | true =>
            go_wp2_with fail
            go_roundw
            case rel => exact ⟨j + 1, hj0.out, by go_num, by rw [hS.out, hx0.out.2.2]; rfl, hx0.out.2.1.trans hxw⟩
            case measure => simp [intOf]; omega
          | false =>
            go_wp2
            go_ret
            exact ⟨by rw [hR.out, hH.out (by first | rfl | trivial)]; rfl, hx0.out.1.trans hxw⟩
      · obtain rfl : j = K.length := by omega
        have e5 := h3h.out
        rw [List.take_length, e5, List.take_length] at hyes
        have hx0 := Lib.hid (hX.trans hx)
        have hy0 := Lib.hid hyes
        clear HR hAt hAt' hx hX e5 hyes
        go_wp2
        go_ret
        exact ⟨by rw [hR.out, hy0.out]; rfl, hx0.out⟩

end Go.Proofs.Ytgjjngkmbplijaa
