/- The document's trees in memory: the labels of their Ors (ref04.labels, Labels). -/
import Derived.Test.YtgjjngkmbplijaaRef2
namespace Go.Proofs.Ytgjjngkmbplijaa
open Go.RowKit
set_option linter.unusedSimpArgs false
set_option linter.unusedVariables false

theorem HT.labels_eq (h : HT) : h.tr.labels = (if h.kd = 5 then [h.s] else []) ++ Tr.labelsL (h.k.map HT.tr) := by
  rw [HT.tr_eq, Tr.labels]
theorem labelsL_at {l : List Tr} {i : Nat} {x : Tr} (h : l[i]? = some x) : x.labels.length ≤ (Tr.labelsL l).length := by
  induction l generalizing i with
  | nil => simp at h
  | cons y r ih =>
    cases i with
    | zero => simp at h; subst h; simp [Tr.labelsL]
    | succ i => have := ih (by simpa using h); simp only [Tr.labelsL, List.length_append]; omega
theorem labelsL_take_len (l : List Tr) (i : Nat) : (Tr.labelsL (l.take i)).length ≤ (Tr.labelsL l).length := by
  induction l generalizing i with
  | nil => simp
  | cons x r ih =>
    cases i with
    | zero => simp [Tr.labelsL]
    | succ i => have := ih i; simp only [List.take_succ_cons, Tr.labelsL, List.length_append]; omega

set_option maxRecDepth 100000 in
set_option maxHeartbeats 3200000 in
theorem rlabels_calls (k : Nat) : ∀ (h : HT) (q : Nat → Prop) (w : World), SizeOf.sizeOf h < k → h.In q w → h.tr.labels.length ≤ 2 ^ 33 → Calls Try.prog 107 #[h.val] w fun e w' => RetOwn w 9 1 h.tr.labels.length (strVals h.tr.labels) e w' := by
  induction k with
  | zero => intro h q w hk; omega
  | succ k ih =>
    intro h q w hk hin hn
    have hN := h.labels_eq
    have hcap := hin.cap
    have hAt := fun (i : Nat) (hi : i < h.k.length) => hin.at hi
    have hLl : (Tr.labelsL (h.k.map HT.tr)).length ≤ 2 ^ 33 := by rw [hN, List.length_append] at hn; omega
    have HR := fun (x : HT) (i : Nat) (hx : h.k[i]? = some x) (W : World) (hxi : x.In q W) => ih x q W (by have := HT.size_k hx; omega) hxi (by
      have := labelsL_at (l := h.k.map HT.tr) (i := i) (x := x.tr) (by rw [List.getElem?_map, hx]; rfl)
      omega)
    have hLt := Lib.hid (fun i => Nat.le_trans (labelsL_take_len (h.k.map HT.tr) i) hLl)
    have hc1 := hcap.1
    have hc2 := hcap.2
    unfold maxLen at hc2
    unfold HT.val at *
    clear ih hk hin hn hcap hLl
    generalize h.kd = kd at *
    generalize h.s = ss at *
    generalize h.n = hn at *
    generalize h.a = ha at *
    generalize h.c = hc at *
    generalize h.tr.labels = R at *
    generalize h.k = K at *
    have hN := Lib.hid hN
    have hX : Ext w (w.alloc (.cells #[.int .i64 kd, .string ss, .int .i64 hn, .slice ha K.length hc] 76)) := (Ext.refl w).alloc _
    have b0 : (w.alloc (.cells #[.int .i64 kd, .string ss, .int .i64 hn, .slice ha K.length hc] 76)).cell? ⟨w.heap.size, 0, none⟩ = some (.int .i64 kd) := by rw [World.cell?_alloc_new]; rfl
    have b1 : (w.alloc (.cells #[.int .i64 kd, .string ss, .int .i64 hn, .slice ha K.length hc] 76)).cell? ⟨w.heap.size, 1, none⟩ = some (.string ss) := by rw [World.cell?_alloc_new]; rfl
    have b3 : (w.alloc (.cells #[.int .i64 kd, .string ss, .int .i64 hn, .slice ha K.length hc] 76)).cell? ⟨w.heap.size, 3, none⟩ = some (.slice ha K.length hc) := by rw [World.cell?_alloc_new]; rfl
    have hsz : (w.alloc (.cells #[.int .i64 kd, .string ss, .int .i64 hn, .slice ha K.length hc] 76)).heap.size = w.heap.size + 1 := by simp
    obtain ⟨own, hown0, hol⟩ : ∃ own : List ByteArray, (if kd = 5 then [ss] else []) = own ∧ own.length ≤ 1 := ⟨_, rfl, by split <;> simp⟩
    rw [hown0] at hN
    go_enter Try.func107, Try.ntmps107
    go_upto_if 7 with fail
    generalize (w.alloc (.cells #[.int .i64 kd, .string ss, .int .i64 hn, .slice ha K.length hc] 76)) = X at *
    have HZ := Lib.hid hsz
    clear hsz
    go_cut [3] from 5 to 12 (fun v wx => ∃ A C, v = .slice A own.length C ∧ wx.ownsRow (w.heap.size + 1) 9 1 (.slice A own.length C) own.length (strVals own) ∧ Ext X wx)
    case first =>
      clear HR hAt
      by_cases h5 : kd = 5
      · subst h5
        rw [if_pos rfl] at hown0
        subst hown0
        go_wp2_with (at_builtin; refine wpList_app elemStr rfl _ _ rfl (w.heap.size + 1) (.slice none 0 0) 0 [] rfl (World.ownsRow_nil _ _ _ _) _ 1 1 [.string ss] rfl (Rd.new _ #[.string ss] _ 1 1 rfl) (by simp [Value.oneCell']) (by unfold maxLen; omega) (by omega) (by have := HZ.out; simp; omega) ?_; intro v1 w1 hown1 hg1 hat1)
        have hE1 : Ext X w1 := ((Ext.refl X).alloc _).grown hg1 (fun k hk => by simp [Value.ownBlock] at hk)
        simp only [Nat.zero_add, List.nil_append] at hown1
        obtain ⟨A6, C6, rfl, h6, h7⟩ := own_form hown1
        have hq := Lib.hid (And.intro hown1 hE1)
        clear hown1 hg1 hat1 hE1
        go_wp2_with fail
        go_meet
        exact ⟨A6, C6, rfl, hq.out.1, hq.out.2⟩
      · rw [if_neg h5] at hown0
        subst hown0
        have h5' : (kd == 5) = false := beq_eq_false_iff_ne.2 h5
        go_wp2_with fail
        go_meet
        exact ⟨none, 0, rfl, World.ownsRow_nil _ _ _ _, Ext.refl _⟩
    case rest =>
      obtain ⟨A, C, rfl, hown, hxc⟩ := hcut
      have b3c := hxc.cell b3
      have hq := Lib.hid (And.intro hown hxc)
      clear hown hown0 b0 b1
      go_wp2_with fail
      go_loopw [16, 3] (fun i out wr => ∃ (j : Nat) (A1 : Option Addr) (C1 : Nat) (L : List ByteArray), j ≤ K.length ∧ i = .int .i64 j ∧ out = .slice A1 L.length C1 ∧ L = own ++ Tr.labelsL ((K.take j).map HT.tr) ∧ wr.ownsRow (w.heap.size + 1) 9 1 (.slice A1 L.length C1) L.length (strVals L) ∧ Ext X wr) (fun i _ _ => K.length - (intOf i).toNat)
      case atStart => exact ⟨0, A, C, own, by omega, rfl, rfl, by simp [Tr.labelsL], hq.out⟩
      case round =>
        obtain ⟨j, A1, C1, L, hj, rfl, rfl, hL, hown, hx⟩ := hrel
        clear hxc b3c
        by_cases hlt : j < K.length
        · obtain ⟨g, x, e1, hgq, e2, hxi, q0, q1, q2, q3⟩ := hAt j hlt
          subst e1
          have c3 := hx.cell b3
          replace q0 := (hX.trans hx).cell q0
          replace q1 := (hX.trans hx).cell q1
          replace q2 := (hX.trans hx).cell q2
          replace q3 := (hX.trans hx).cell q3
          have HRk := HR x j e2 wr (hxi.ext (hX.trans hx))
          have hb := hLt.out (j + 1)
          have hS : own ++ Tr.labelsL ((K.take (j + 1)).map HT.tr) = L ++ x.tr.labels := by rw [map_take_snoc e2, labelsL_snoc, hL, List.append_assoc]
          have hb0 : L.length + x.tr.labels.length ≤ 2 ^ 34 := by
            have h1 := congrArg List.length hS
            simp only [List.length_append] at h1
            rw [List.map_take] at h1
            omega
          have hS := Lib.hid hS
          have hj0 := Lib.hid (show j + 1 ≤ K.length from hlt)
          have hr1 := Lib.hid (And.intro hown hx)
          clear HR hAt e2 hxi hx hb hL hLt hgq hown
          generalize x.tr.labels = N at *
          generalize x.kd = x0 at *
          generalize x.s = x1 at *
          generalize x.n = x2 at *
          generalize x.a = x3 at *
          generalize x.k.length = x4 at *
          generalize x.c = x5 at *
          (go_wp2_with fail; (with_reducible refine (HRk).mono ?_); rintro e w' ⟨nv, rfl, hno, hx4⟩)
          obtain ⟨A2, C2, rfl, hn1, hn2⟩ := own_form hno
          have hrd := Rd.of_own hno
          have hown := hx4.own hr1.out.1
          have hXw := hr1.out.2.trans hx4
          have hle : w.heap.size + 1 ≤ w'.heap.size := by have := hXw.le; have := HZ.out; omega
          have h63 : L.length + N.length ≤ maxLen := by unfold maxLen; omega
          have hby : (L.length + N.length) * 16 ≤ 140737488355328 := by omega
          clear hno HRk q0 q1 q2 q3
          go_wp2_with (at_builtin; refine wpList_app elemStr rfl _ _ rfl (w.heap.size + 1) (.slice A1 L.length C1) L.length (strVals L) rfl hown A2 N.length C2 (strVals N) rfl hrd (strVals_one N) h63 hby hle ?_; intro v1 w1 hown1 hg1 hat1)
          have hE6 := Lib.hid (hXw.grown hg1 (fun k hk => by have := (hown.lt k hk).1; have := HZ.out; omega))
          obtain ⟨A6, C6, rfl, h6, h7⟩ := own_form hown1
          have e7 := Lib.hid (show (L ++ N).length = L.length + N.length by simp)
          have hown6 := Lib.hid hown1
          clear hown1 hg1 hat1 h63 hby hown
          go_wp2_with fail
          go_roundw
          case rel => exact ⟨j + 1, A6, C6, L ++ N, hj0.out, by go_num, by rw [e7.out], hS.out.symm, by rw [e7.out, strVals_app]; exact hown6.out, hE6.out⟩
          case measure => simp [intOf]; omega
        · obtain rfl : j = K.length := by omega
          rw [List.take_length, ← hN.out] at hL
          subst hL
          have hr1 := Lib.hid (And.intro hown hx)
          clear HR hAt hown
          go_wp2
          apply bodyPost_ret
          · exact results_tmp rfl _ _ _
          · rfl
          exact ⟨_, rfl, own_mono hr1.out.1 (by omega), hX.trans hr1.out.2⟩

set_option maxRecDepth 100000 in
set_option maxHeartbeats 400000 in
theorem rLabels_calls (h : HT) (q : Nat → Prop) (w : World) (hin : h.In q w) (hn : h.tr.labels.length ≤ 2 ^ 33) : Calls Try.prog 80 #[h.val] w fun e w' => RetOwn w 9 1 h.tr.labels.length (strVals h.tr.labels) e w' := by
  have H := fun W (hW : Ext w W) => rlabels_calls _ h q W (Nat.lt_succ_self _) (hin.ext hW) hn
  unfold HT.val at *
  clear hin hn
  generalize h.tr.labels = R at *
  go_enter Try.func80, Try.ntmps80
  (go_wp2_with fail; (with_reducible refine (H _ ((by repeat' (first | (with_reducible exact Ext.refl _) | (with_reducible assumption) | (with_reducible refine Ext.alloc ?_ _) | (with_reducible refine Ext.drew ?_) | (with_reducible refine Ext.drewN ?_ _) | (with_reducible refine Ext.setCell ?_ (by first | exact Nat.le_refl _ | (simp; done) | (simp; omega) | omega) _) | (with_reducible refine Ext.trans ?_ (by assumption)))))).mono ?_); rintro e w' ⟨nv, rfl, hno, hx4⟩)
  obtain ⟨A2, C2, rfl, hn1, hn2⟩ := own_form hno
  have hno2 := own_mono hno (show w.heap.size ≤ _ by simp)
  clear hno
  go_wp2
  apply bodyPost_ret
  · exact results_tmp rfl _ _ _
  · rfl
  exact ⟨_, rfl, hno2, (by repeat' (first | (with_reducible exact Ext.refl _) | (with_reducible assumption) | (with_reducible refine Ext.alloc ?_ _) | (with_reducible refine Ext.drew ?_) | (with_reducible refine Ext.drewN ?_ _) | (with_reducible refine Ext.setCell ?_ (by first | exact Nat.le_refl _ | (simp; done) | (simp; omega) | omega) _) | (with_reducible refine Ext.trans ?_ (by assumption))))⟩

end Go.Proofs.Ytgjjngkmbplijaa
