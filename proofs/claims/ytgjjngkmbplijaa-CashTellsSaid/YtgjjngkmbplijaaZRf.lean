/- Texts put together: Ref1, Ref2, Ref3, Ref4, Right. -/
import Derived.Test.YtgjjngkmbplijaaYPlayObs
import Derived.Test.YtgjjngkmbplijaaZMk
import Derived.Deep.CutRange
import Derived.Deep.CutBlock
import Derived.Test.YtgjjngkmbplijaaZMt3
/- The document's trees in memory: how many, how deep (ref04.Size). -/
namespace Go.Proofs.Ytgjjngkmbplijaa
open Go.RowKit
set_option linter.unusedSimpArgs false
set_option linter.unusedVariables false

theorem HT.size_k {h x : HT} {i : Nat} (hx : h.k[i]? = some x) : SizeOf.sizeOf x < SizeOf.sizeOf h := by
  cases h with
  | mk kd s n a c k =>
    have h1 := List.sizeOf_lt_of_mem (List.mem_of_getElem? hx)
    simp only [HT.k] at h1
    simp
    omega
theorem HT.nodes_eq (h : HT) (h0 : h.kd ≠ 0) : h.tr.nodes = 1 + Tr.nodesL (h.k.map HT.tr) := by
  rw [HT.tr_eq, Tr.nodes, if_neg h0]
theorem HT.depth_eq (h : HT) (h0 : h.kd ≠ 0) : h.tr.depth = Tr.depthL (h.k.map HT.tr) + 1 := by
  rw [HT.tr_eq, Tr.depth, if_neg h0]
theorem map_take_snoc {k : List HT} {i : Nat} {x : HT} (hx : k[i]? = some x) : (k.take (i + 1)).map HT.tr = (k.take i).map HT.tr ++ [x.tr] := by
  rw [List.take_add_one, hx]; simp
theorem nodesL_take (l : List Tr) (i : Nat) : Tr.nodesL (l.take i) ≤ Tr.nodesL l := by
  induction l generalizing i with
  | nil => simp
  | cons x r ih =>
    cases i with
    | zero => simp [Tr.nodesL]
    | succ i => simp only [List.take_succ_cons, Tr.nodesL]; have := ih i; omega
mutual
theorem Tr.depth_le : (t : Tr) → t.depth ≤ t.nodes
  | .mk kd s n k => by
    rw [Tr.depth, Tr.nodes]
    split
    · exact Nat.le_refl _
    · have := Tr.depthL_le k; omega
theorem Tr.depthL_le : (l : List Tr) → Tr.depthL l ≤ Tr.nodesL l
  | [] => Nat.le_refl _
  | x :: r => by
    rw [Tr.depthL, Tr.nodesL]
    have h1 := Tr.depth_le x
    have h2 := Tr.depthL_le r
    omega
end

set_option maxRecDepth 100000 in
set_option maxHeartbeats 1600000 in
theorem rsize_calls (k : Nat) : ∀ (h : HT) (q : Nat → Prop) (w : World), SizeOf.sizeOf h < k → h.In q w → h.tr.nodes ≤ 2 ^ 40 → Calls Try.prog 57 #[h.val] w fun e w' => RetII w h.tr.nodes h.tr.depth e w' := by
  induction k with
  | zero => intro h q w hk; omega
  | succ k ih =>
    intro h q w hk hin hn
    by_cases h0 : h.kd = 0
    · have hN := Lib.hid (show h.tr.nodes = 0 ∧ h.tr.depth = 0 by rw [HT.tr_eq, Tr.nodes, Tr.depth, if_pos h0, if_pos h0]; exact ⟨rfl, rfl⟩)
      generalize h.tr.nodes = nn at *
      generalize h.tr.depth = dd at *
      unfold HT.val
      rw [h0]
      clear ih hk hin hn h0
      go_enter Try.func57, Try.ntmps57
      go_wp2
      go_ret2
      exact ⟨by rw [hN.out.1, hN.out.2]; rfl, (by repeat' (first | (with_reducible exact Ext.refl _) | (with_reducible assumption) | (with_reducible refine Ext.alloc ?_ _) | (with_reducible refine Ext.drew ?_) | (with_reducible refine Ext.drewN ?_ _) | (with_reducible refine Ext.setCell ?_ (by first | exact Nat.le_refl _ | (simp; done) | (simp; omega) | omega) _) | (with_reducible refine Ext.trans ?_ (by assumption))))⟩
    · have hN := Lib.hid (And.intro (h.nodes_eq h0) (h.depth_eq h0))
      have hnk := h.nodes_eq h0
      have hcap := hin.cap
      have hAt := fun (i : Nat) (hi : i < h.k.length) => hin.at hi
      have HR := fun (x : HT) (i : Nat) (hx : h.k[i]? = some x) (W : World) (hxi : x.In q W) => ih x q W (by have := HT.size_k hx; omega) hxi (by
        have h1 := nodesL_take (h.k.map HT.tr) (i + 1)
        rw [← List.map_take, map_take_snoc hx, nodesL_snoc] at h1
        omega)
      have HTk := Lib.hid (fun i => Nat.le_trans (nodesL_take (h.k.map HT.tr) i) (show Tr.nodesL (h.k.map HT.tr) ≤ 2 ^ 40 by omega))
      have HD := Lib.hid (fun i => Tr.depthL_le ((h.k.take i).map HT.tr))
      have hk0 : (h.kd == 0) = false := by simpa using h0
      have hc2 := hcap.2
      unfold maxLen at hc2
      have hc1 := hcap.1
      clear ih hk hin hn h0 hnk hcap
      unfold HT.val at *
      generalize h.kd = kd at *
      generalize h.s = ss at *
      generalize h.n = hn at *
      generalize h.a = ha at *
      generalize h.c = hc at *
      generalize h.tr.nodes = nn at *
      generalize h.tr.depth = dd at *
      generalize h.k = K at *
      go_enter Try.func57, Try.ntmps57
      go_wp2_with fail
      have hs0 : Ext w (w.alloc (.cells #[.int .i64 kd, .string ss, .int .i64 hn, .slice ha K.length hc] 76)) := (Ext.refl w).alloc _
      have hcell : ∀ j v, (#[.int .i64 kd, .string ss, .int .i64 hn, .slice ha K.length hc] : Array Value)[j]? = some v → (w.alloc (.cells #[.int .i64 kd, .string ss, .int .i64 hn, .slice ha K.length hc] 76)).cell? ⟨w.heap.size, j, none⟩ = some v := fun j v hj => by rw [World.cell?_alloc_new]; exact hj
      have hcell := Lib.hid hcell
      generalize (w.alloc (.cells #[.int .i64 kd, .string ss, .int .i64 hn, .slice ha K.length hc] 76)) = X at *
      go_loopw [15, 4, 5] (fun i n d wr => ∃ j : Nat, j ≤ K.length ∧ i = .int .i64 j ∧ n = .int .i64 ((1 + Tr.nodesL ((K.take j).map HT.tr) : Nat) : Int) ∧ d = .int .i64 ((Tr.depthL ((K.take j).map HT.tr) : Nat) : Int) ∧ Ext X wr) (fun i _ _ _ => K.length - (intOf i).toNat)
      case atStart => exact ⟨0, by omega, rfl, by simp [Tr.nodesL], by simp [Tr.depthL], Ext.refl _⟩
      case round =>
        obtain ⟨j, hj, rfl, rfl, rfl, hx⟩ := hrel
        by_cases hlt : j < K.length
        · obtain ⟨g, x, e1, hq, e2, hxi, q0, q1, q2, q3⟩ := hAt j hlt
          subst e1
          have c3 := hx.cell (hcell.out 3 _ rfl)
          replace q0 := (hs0.trans hx).cell q0
          replace q1 := (hs0.trans hx).cell q1
          replace q2 := (hs0.trans hx).cell q2
          replace q3 := (hs0.trans hx).cell q3
          have HRk := HR x j e2 wr (hxi.ext (hs0.trans hx))
          have hS := map_take_snoc e2
          have hb := HTk.out (j + 1)
          rw [← List.map_take, hS, nodesL_snoc] at hb
          have hdl := x.tr.depth_le
          have hml := HD.out j
          have hS0 := Lib.hid (show Tr.nodesL ((K.take (j + 1)).map HT.tr) = Tr.nodesL ((K.take j).map HT.tr) + x.tr.nodes by rw [hS, nodesL_snoc])
          have hM0 := Lib.hid (show Tr.depthL ((K.take (j + 1)).map HT.tr) = Max.max (Tr.depthL ((K.take j).map HT.tr)) x.tr.depth by rw [hS, depthL_snoc])
          have hj0 := Lib.hid (show j + 1 ≤ K.length from hlt)
          have hx0 := Lib.hid hx
          clear HR hAt e2 hS hxi hx HTk HD hs0 hq
          generalize Tr.nodesL ((K.take j).map HT.tr) = sj at *
          generalize Tr.depthL ((K.take j).map HT.tr) = mj at *
          generalize x.tr.nodes = n1 at *
          generalize x.tr.depth = d1 at *
          generalize x.kd = x0 at *
          generalize x.s = x1 at *
          generalize x.n = x2 at *
          generalize x.a = x3 at *
          generalize x.k.length = x4 at *
          generalize x.c = x5 at *
          (go_wp2_with fail; (with_reducible refine (HRk).mono ?_); rintro e w' ⟨rfl, hx4⟩)
          clear HRk q0 q1 q2 q3
          go_wp2_with fail
          go_roundw
          case rel => exact ⟨j + 1, hj0.out, by go_num, by rw [hS0.out]; go_num, by rw [hM0.out]; go_num, hx0.out.trans hx4⟩
          case measure => simp [intOf]; omega
        · obtain rfl : j = K.length := by omega
          rw [List.take_length]
          have h2 := HTk.out K.length
          have h3 := HD.out K.length
          rw [List.take_length] at h3
          have e9 : (K.map HT.tr).take K.length = K.map HT.tr := List.take_of_length_le (by simp)
          rw [e9] at h2
          clear HR hAt e9
          generalize Tr.nodesL (K.map HT.tr) = S at *
          generalize Tr.depthL (K.map HT.tr) = D at *
          go_wp2
          go_ret2
          exact ⟨by rw [hN.out.1, hN.out.2]; simp, hs0.trans hx⟩

end Go.Proofs.Ytgjjngkmbplijaa

/- The document's trees in memory: are they of their form (ref04.form). Printed by wip/src/mkrform.py. -/
namespace Go.Proofs.Ytgjjngkmbplijaa
open Go.RowKit
set_option linter.unusedSimpArgs false
set_option linter.unusedVariables false

/-- A guard that is met, or is not. -/
theorem wanted_of {o : Oper} {ops : Array Oper} {t : Array Value} {j : Nat} {d : Tmp} {want b : Bool} (hg : o.guard = some (j, want)) (hd : (ops[j]?).bind (·.dst) = some d) (hv : t[d]?.getD undef = .bool b) : Region.wanted o (yielded ops t) = (b == want) := by
  unfold Region.wanted yielded
  rw [hg]
  simp only [hd, Option.bind_some]
  cases ht : t[d]? with
  | none => rw [ht] at hv; cases hv
  | some v => rw [ht] at hv; simp only [Option.getD_some] at hv; subst hv; simp
theorem wanted_undef {o : Oper} {ops : Array Oper} {t : Array Value} {j : Nat} {d : Tmp} {want : Bool} (hg : o.guard = some (j, want)) (hd : (ops[j]?).bind (·.dst) = some d) (hv : t[d]?.getD undef = undef) : Region.wanted o (yielded ops t) = false := by
  unfold Region.wanted yielded
  rw [hg]
  simp only [hd, Option.bind_some]
  cases ht : t[d]? with
  | none => simp
  | some v => rw [ht] at hv; simp only [Option.getD_some] at hv; subst hv; simp [undef]
theorem HT.form_eq (h : HT) (num : Bool) : h.tr.form num = (Tr.selfOk h.kd h.s h.n && (decide (11 ≤ h.kd) == num) && Tr.formL (h.k.map HT.tr) num (num || Tr.numFirst h.kd)) := by
  rw [HT.tr_eq, Tr.form]
theorem formL_snoc (l : List Tr) (x : Tr) (num first : Bool) : Tr.formL (l ++ [x]) num first = (Tr.formL l num first && x.form (if l = [] then first else num)) := by
  induction l generalizing first with
  | nil => simp [Tr.formL]
  | cons y r ih =>
    simp only [List.cons_append, Tr.formL, ih]
    cases r <;> simp [Tr.formL, Bool.and_assoc]
theorem formL_hit {l : List Tr} {i : Nat} {x : Tr} {num first : Bool} (h : l[i]? = some x) (hx : x.form (if i = 0 then first else num) = false) : Tr.formL l num first = false := by
  induction l generalizing i first with
  | nil => simp at h
  | cons y r ih =>
    cases i with
    | zero => simp at h hx; subst h; simp [Tr.formL, hx]
    | succ i =>
      simp only [List.getElem?_cons_succ] at h
      simp only [Tr.formL]
      rw [ih h (first := num) (by simpa using hx), Bool.and_false]
theorem formL_take {K : List HT} {j : Nat} {x : HT} {num first : Bool} (e2 : K[j]? = some x) : Tr.formL ((K.take (j + 1)).map HT.tr) num first = (Tr.formL ((K.take j).map HT.tr) num first && x.tr.form (if j = 0 then first else num)) := by
  rw [map_take_snoc e2, formL_snoc]
  have hlt := (List.getElem?_eq_some_iff.1 e2).1
  congr 2
  by_cases h0 : j = 0
  · subst h0; rfl
  · have : (K.take j).map HT.tr ≠ [] := by
      intro h
      rw [List.map_eq_nil_iff, List.take_eq_nil_iff] at h
      rcases h with h | h
      · exact h0 h
      · subst h; simp at hlt
    rw [if_neg this, if_neg h0]
mutual
/-- All its names are short. -/
def Tr.short : Tr → Prop | .mk _ s _ k => s.size ≤ 1000 ∧ Tr.shortL k
def Tr.shortL : List Tr → Prop | [] => True | x :: r => x.short ∧ Tr.shortL r
end
theorem shortL_at {l : List Tr} (h : Tr.shortL l) {i : Nat} {x : Tr} (hx : l[i]? = some x) : x.short := by
  induction l generalizing i with
  | nil => simp at hx
  | cons y r ih =>
    cases i with
    | zero => simp at hx; subst hx; exact h.1
    | succ i => exact ih h.2 (by simpa using hx)
theorem HT.short_s {h : HT} (hs : h.tr.short) : h.s.size ≤ 1000 := by rw [HT.tr_eq] at hs; exact hs.1
theorem HT.short_k {h x : HT} (hs : h.tr.short) {i : Nat} (hx : h.k[i]? = some x) : x.tr.short := by
  rw [HT.tr_eq] at hs
  exact shortL_at hs.2 (by rw [List.getElem?_map, hx]; rfl)
theorem Ob.tr_short {o : Ob} (h : o.wf) : o.tr.short := by
  induction o with
  | const n => exact ⟨by decide, trivial⟩
  | fix s => exact ⟨h, trivial⟩
  | odd v => exact ⟨by decide, trivial⟩
  | neg o ih => exact ⟨by decide, ih h, trivial⟩
  | _ l r ihl ihr => exact ⟨by decide, ihl h.1, ihr h.2, trivial⟩
theorem Te.tr_short {t : Te} (h : t.wf) : t.tr.short := by
  induction t with
  | zero => exact ⟨by decide, trivial⟩
  | one s => exact ⟨h, trivial⟩
  | odd v => exact ⟨by decide, trivial⟩
  | give t ih => exact ⟨by decide, ih h, trivial⟩
  | and l r ihl ihr => exact ⟨by decide, ihl h.1, ihr h.2, trivial⟩
  | or s l r ihl ihr => exact ⟨h.1, ihl h.2.1, ihr h.2.2, trivial⟩
  | scale o t ih => exact ⟨by decide, Ob.tr_short h.1, ih h.2, trivial⟩
  | whn d t ih => exact ⟨by decide, ih h.2, trivial⟩
  | cond o l r ihl ihr => exact ⟨by decide, Ob.tr_short h.1, ihl h.2.1, ihr h.2.2, trivial⟩
/-- The kinds, as the switch parts them. -/
theorem kd_ways (kd : Int) : (kd = 2 ∨ kd = 5 ∨ kd = 12) ∨ kd = 7 ∨ kd = 11 ∨ (kd = 1 ∨ kd = 3 ∨ kd = 4 ∨ kd = 14 ∨ kd = 13 ∨ kd = 15 ∨ kd = 16 ∨ kd = 6 ∨ kd = 8) ∨
    (((kd == 1) = false ∧ (kd == 3) = false ∧ (kd == 4) = false ∧ (kd == 14) = false ∧ (kd == 13) = false ∧ (kd == 15) = false ∧ (kd == 16) = false ∧ (kd == 6) = false ∧ (kd == 8) = false) ∧ ((kd == 2) = false ∧ (kd == 5) = false ∧ (kd == 12) = false) ∧ (kd == 7) = false ∧ (kd == 11) = false ∧ ∀ s n, Tr.selfOk kd s n = false) := by
  by_cases h1 : kd = 2 ∨ kd = 5 ∨ kd = 12
  · exact .inl h1
  by_cases h2 : kd = 7
  · exact .inr (.inl h2)
  by_cases h3 : kd = 11
  · exact .inr (.inr (.inl h3))
  by_cases h4 : kd = 1 ∨ kd = 3 ∨ kd = 4 ∨ kd = 14 ∨ kd = 13 ∨ kd = 15 ∨ kd = 16 ∨ kd = 6 ∨ kd = 8
  · exact .inr (.inr (.inr (.inl h4)))
  · refine .inr (.inr (.inr (.inr ⟨?_, ?_, ?_, ?_, fun s n => ?_⟩)))
    · simp only [beq_eq_false_iff_ne]; omega
    · simp only [beq_eq_false_iff_ne]; omega
    · simp only [beq_eq_false_iff_ne]; omega
    · simp only [beq_eq_false_iff_ne]; omega
    · unfold Tr.selfOk
      rw [if_neg h1, if_neg h2, if_neg h3, decide_eq_false (by omega)]

set_option maxRecDepth 100000 in
set_option maxHeartbeats 12800000 in
theorem rform_calls (k : Nat) : ∀ (h : HT) (q : Nat → Prop) (w : World) (num : Bool), SizeOf.sizeOf h < k → h.In q w → h.tr.short → Calls Try.prog 106 #[h.val, .bool num] w fun e w' => RetB w (h.tr.form num) e w' := by
  induction k with
  | zero => intro h q w num hk; omega
  | succ k ih =>
    intro h q w num hk hin hsh
    have hF := Lib.hid (h.form_eq num)
    have hcap := hin.cap
    have hAt := fun (i : Nat) (hi : i < h.k.length) => hin.at hi
    have HR := fun (x : HT) (i : Nat) (hx : h.k[i]? = some x) (W : World) (nb : Bool) (hxi : x.In q W) => ih x q W nb (by have := HT.size_k hx; omega) hxi (HT.short_k hsh hx)
    have hsz := HT.short_s hsh
    have hc1 := hcap.1
    have hc2 := hcap.2
    unfold maxLen at hc2
    unfold HT.val at *
    clear ih hk hin hsh hcap
    generalize h.kd = kd at *
    generalize h.s = ss at *
    generalize h.n = hn at *
    generalize h.a = ha at *
    generalize h.c = hc at *
    generalize h.tr.form num = r at *
    generalize h.k = K at *
    have HNm := fun W => rname_calls ss W hsz
    have HVd := fun W => rvalid_calls hn W
    have hX : Ext w (w.alloc (.cells #[.int .i64 kd, .string ss, .int .i64 hn, .slice ha K.length hc] 76)) := (Ext.refl w).alloc _
    have b0 : (w.alloc (.cells #[.int .i64 kd, .string ss, .int .i64 hn, .slice ha K.length hc] 76)).cell? ⟨w.heap.size, 0, none⟩ = some (.int .i64 kd) := by rw [World.cell?_alloc_new]; rfl
    have b1 : (w.alloc (.cells #[.int .i64 kd, .string ss, .int .i64 hn, .slice ha K.length hc] 76)).cell? ⟨w.heap.size, 1, none⟩ = some (.string ss) := by rw [World.cell?_alloc_new]; rfl
    have b2 : (w.alloc (.cells #[.int .i64 kd, .string ss, .int .i64 hn, .slice ha K.length hc] 76)).cell? ⟨w.heap.size, 2, none⟩ = some (.int .i64 hn) := by rw [World.cell?_alloc_new]; rfl
    have b3 : (w.alloc (.cells #[.int .i64 kd, .string ss, .int .i64 hn, .slice ha K.length hc] 76)).cell? ⟨w.heap.size, 3, none⟩ = some (.slice ha K.length hc) := by rw [World.cell?_alloc_new]; rfl
    go_enter Try.func106, Try.ntmps106
    go_upto_block 0 with fail
    generalize (w.alloc (.cells #[.int .i64 kd, .string ss, .int .i64 hn, .slice ha K.length hc] 76)) = X at *
    go_cut [] from 6 to 41 (fun wx => Ext X wx ∧ Tr.selfOk kd ss hn = true)
    case first =>
      clear HR hAt
      rcases kd_ways kd with hkd | rfl | rfl | hkd | ⟨⟨k1, k2, k3, k4, k5, k6, k7, k8, k9⟩, ⟨k10, k11, k12⟩, k13, k14, hself⟩
      · have hself : Tr.selfOk kd ss hn = isName ss := by rcases hkd with rfl | rfl | rfl <;> rfl
        have hF2 := hF.out
        rw [hself] at hF2
        have HNx := HNm X
        cases hnm : isName ss with
        | false =>
          rw [hnm] at hF2 HNx
          have hr := Lib.hid (show r = false by rw [hF2]; rfl)
          clear hF2 hself HNm HVd
          rcases hkd with rfl | rfl | rfl
          all_goals
            (go_wp2_with fail; (with_reducible refine (HNx).mono ?_); rintro e w' ⟨rfl, hx1⟩)
            go_wp2
            go_ret
            exact ⟨by rw [hr.out]; rfl, hX.trans hx1⟩
        | true =>
          rw [hnm] at HNx
          have hself0 := Lib.hid (hself.trans hnm)
          clear hF2 hself HNm HVd
          rcases hkd with rfl | rfl | rfl
          all_goals
            (go_wp2_with fail; (with_reducible refine (HNx).mono ?_); rintro e w' ⟨rfl, hx1⟩)
            go_wp2_with fail
            go_meet
            exact ⟨hx1, hself0.out⟩
      · have hself : Tr.selfOk 7 ss hn = decide (0 ≤ hn ∧ hn ≤ 10000) := rfl
        have hF2 := hF.out
        rw [hself] at hF2
        have hdw : (0 ≤ hn ∧ hn ≤ 10000) ∨ (hn < 0) ∨ (0 ≤ hn ∧ 10000 < hn) := by omega
        clear HNm HVd
        rcases hdw with ⟨h1, h2⟩ | h1 | ⟨h1, h2⟩
        · have hself0 := Lib.hid (hself.trans (decide_eq_true ⟨h1, h2⟩))
          clear hF2 hself
          go_wp2_with fail
          go_meet
          exact ⟨Ext.refl _, hself0.out⟩
        · have hr := Lib.hid (show r = false by rw [hF2, decide_eq_false (by omega)]; rfl)
          clear hF2 hself
          go_wp2
          go_ret
          exact ⟨by rw [hr.out]; rfl, hX⟩
        · have hr := Lib.hid (show r = false by rw [hF2, decide_eq_false (by omega)]; rfl)
          clear hF2 hself
          go_wp2
          go_ret
          exact ⟨by rw [hr.out]; rfl, hX⟩
      · have hself : Tr.selfOk 11 ss hn = Vd hn := rfl
        have hF2 := hF.out
        rw [hself] at hF2
        have HVx := HVd X
        clear HNm HVd
        cases hv : Vd hn with
        | false =>
          rw [hv] at hF2 HVx
          have hr := Lib.hid (show r = false by rw [hF2]; rfl)
          clear hF2 hself
          (go_wp2_with fail; (with_reducible refine (HVx).mono ?_); rintro e w' ⟨rfl, rfl⟩)
          go_wp2
          go_ret
          exact ⟨by rw [hr.out]; rfl, hX⟩
        | true =>
          rw [hv] at HVx
          have hself0 := Lib.hid (hself.trans hv)
          clear hF2 hself
          (go_wp2_with fail; (with_reducible refine (HVx).mono ?_); rintro e w' ⟨rfl, rfl⟩)
          go_wp2_with fail
          go_meet
          exact ⟨Ext.refl _, hself0.out⟩
      · have hself0 := Lib.hid (show Tr.selfOk kd ss hn = true by rcases hkd with rfl | rfl | rfl | rfl | rfl | rfl | rfl | rfl | rfl <;> rfl)
        clear HNm HVd
        rcases hkd with rfl | rfl | rfl | rfl | rfl | rfl | rfl | rfl | rfl
        all_goals
          go_wp2_with fail
          go_meet
          exact ⟨Ext.refl _, hself0.out⟩
      · have hr := Lib.hid (show r = false by rw [hF.out, hself]; rfl)
        clear HNm HVd hself
        go_wp2
        go_ret
        exact ⟨by rw [hr.out]; rfl, hX⟩
    case rest =>
      obtain ⟨hxc, hself⟩ := hcut
      have hF2 := hF.out
      rw [hself, Bool.true_and] at hF2
      replace b0 := hxc.cell b0
      replace b3 := hxc.cell b3
      have hXc := hX.trans hxc
      clear HNm HVd hself hF b1 b2 hxc hX
      have hge : (decide (11 ≤ kd) = true ∧ 11 ≤ kd) ∨ (decide (11 ≤ kd) = false ∧ kd < 11) := by
        by_cases h : 11 ≤ kd
        · exact .inl ⟨decide_eq_true h, h⟩
        · exact .inr ⟨decide_eq_false h, by omega⟩
      have hmis : decide (11 ≤ kd) ≠ num → r = false := fun h => by
        rw [hF2, beq_eq_false_iff_ne.2 h]; rfl
      cases num with
      | true =>
        rcases hge with ⟨hd, hge⟩ | ⟨hd, hge⟩
        rotate_left
        · have hr := Lib.hid (hmis (by rw [hd]; decide))
          clear hmis hF2 HR hAt
          go_wp2
          go_ret
          exact ⟨by rw [hr.out]; rfl, hXc⟩
        have hFr := Lib.hid (show r = Tr.formL (K.map HT.tr) true true by rw [hF2, hd]; rfl)
        clear hmis hF2
        have hkf := Lib.hid (trivial : True)
        go_wp2_with fail
        go_loopw [50] (fun i wr => ∃ j : Nat, j ≤ K.length ∧ i = .int .i64 j ∧ Tr.formL ((K.take j).map HT.tr) true true = true ∧ Ext wc wr) (fun i _ => K.length - (intOf i).toNat)
        case atStart => exact ⟨0, by omega, rfl, rfl, Ext.refl _⟩
        case round =>
          obtain ⟨j, hj, rfl, hyes, hx⟩ := hrel
          by_cases hlt : j < K.length
          · obtain ⟨g, x, e1, hq, e2, hxi, q0, q1, q2, q3⟩ := hAt j hlt
            subst e1
            replace b0 := hx.cell b0
            replace b3 := hx.cell b3
            replace q0 := (hXc.trans hx).cell q0
            replace q1 := (hXc.trans hx).cell q1
            replace q2 := (hXc.trans hx).cell q2
            replace q3 := (hXc.trans hx).cell q3
            have hjl : (j : Int) < (K.length : Int) := by omega
            have hjz : (0 : Int) ≤ (j : Int) := by omega
            have HRk := fun (W : World) (nb : Bool) (hW : Ext wr W) => HR x j e2 W nb (hxi.ext ((hXc.trans hx).trans hW))
            have e3 : (K.map HT.tr)[j]? = some x.tr := by rw [List.getElem?_map, e2]; rfl
            have hS := Lib.hid (formL_take (num := true) (first := true) e2)
            have hH := Lib.hid (fun (hf : x.tr.form (if j = 0 then true else true) = false) => formL_hit (num := true) (first := true) e3 hf)
            have hj0 := Lib.hid (show j + 1 ≤ K.length from hlt)
            have hx0 := Lib.hid (And.intro (hXc.trans hx) (And.intro hx hyes))
            generalize hnb : (if j = 0 then true else true) = nb at *
            have HRn := fun W hW => HRk W nb hW
            generalize x.tr.form nb = fm at *
            clear HR HRk hAt e2 hxi hx hXc hq hyes e3
            generalize x.kd = x0 at *
            generalize x.s = x1 at *
            generalize x.n = x2 at *
            generalize x.a = x3 at *
            generalize x.k.length = x4 at *
            generalize x.c = x5 at *
            go_upto_region 28 with fail
            go_cut [50, 74] from 50 to 75 (fun i v wx => i = .int .i64 j ∧ v = .bool (!fm) ∧ Ext wr wx)
            case first =>
              have hnt : nb = true := by rw [← hnb]; simp
              subst hnt
              clear hnb
              refine wp_region_slots 21 [0, 1, 2, 3, 4, 5, 6, 7, 8, 9, 10, 11, 12, 13, 14, 15, 16, 17, 18, 19, 20] _ [53, 54, 55, 56, 57, 58, 59, 60, 61, 62, 63, 64, 65, 66, 67, 68, 69, 70, 71, 72, 73] (fun i _ u => u = ([.pointer (some ⟨w.heap.size, 3, none⟩), .slice (some ⟨g, 0, none⟩) K.length hc, .int .i64 (j : Int), .pointer (some ⟨g, j * 4, none⟩), .agg #[.int .i64 x0, .string x1, .int .i64 x2, .slice x3 x4 x5], .bool true, .bool true, undef, undef, undef, undef, undef, undef, undef, undef, undef, undef, undef, undef, .bool true, .bool fm] : List Value).getD i undef) (fun _ W => Ext wr W) (by kernel_rfl) rfl (by kernel_rfl) (by kernel_rfl) rfl rfl rfl (by decide) rfl ?_ ?_ ?_
              · exact (Ext.refl _).drew
              · refine slots_cons rfl ?_ (slots_cons rfl ?_ (slots_cons rfl ?_ (slots_cons rfl ?_ (slots_cons rfl ?_ (slots_cons rfl ?_ (slots_cons rfl ?_ (slots_cons rfl ?_ (slots_cons rfl ?_ (slots_cons rfl ?_ (slots_cons rfl ?_ (slots_cons rfl ?_ (slots_cons rfl ?_ (slots_cons rfl ?_ (slots_cons rfl ?_ (slots_cons rfl ?_ (slots_cons rfl ?_ (slots_cons rfl ?_ (slots_cons rfl ?_ (slots_cons rfl ?_ (slots_cons rfl ?_ slots_nil))))))))))))))))))))
                · intro l a W hs ho hG hd hne K' hK
                  have b2 : a.tmps[2]?.getD undef = .pointer (some ⟨w.heap.size, 0, none⟩) := ho.ev 2 rfl
                  clear hd ho hne
                  go_simp
                  exact hK _ _ rfl hG (fun j' v' _ hf => hf)
                · intro l a W hs ho hG hd hne K' hK
                  have e0 : a.tmps[53]?.getD undef = .pointer (some ⟨w.heap.size, 3, none⟩) := hd ⟨0, .data⟩ (by simp) rfl
                  have c3 := hG.cell b3
                  clear hd ho hne
                  go_simp
                  exact hK _ _ rfl hG (fun j' v' _ hf => hf)
                · intro l a W hs ho hG hd hne K' hK
                  have b5 : a.tmps[5]?.getD undef = .int .i64 (j : Int) := ho.ev 5 rfl
                  clear hd ho hne
                  go_simp
                  exact hK _ _ rfl hG (fun j' v' _ hf => hf)
                · intro l a W hs ho hG hd hne K' hK
                  have e1 : a.tmps[54]?.getD undef = .slice (some ⟨g, 0, none⟩) K.length hc := hd ⟨1, .data⟩ (by simp) rfl
                  have e2 : a.tmps[55]?.getD undef = .int .i64 (j : Int) := hd ⟨2, .data⟩ (by simp) rfl
                  clear hd ho hne
                  go_simp
                  exact hK _ _ rfl hG (fun j' v' _ hf => hf)
                · intro l a W hs ho hG hd hne K' hK
                  have e3 : a.tmps[56]?.getD undef = .pointer (some ⟨g, j * 4, none⟩) := hd ⟨3, .data⟩ (by simp) rfl
                  have p0 := hG.cell q0
                  have p1 := hG.cell q1
                  have p2 := hG.cell q2
                  have p3 := hG.cell q3
                  clear hd ho hne
                  go_simp
                  exact hK _ _ rfl hG (fun j' v' _ hf => hf)
                · intro l a W hs ho hG hd hne K' hK
                  have b1 : a.tmps[1]?.getD undef = .bool true := ho.ev 1 rfl
                  clear hd ho hne
                  go_simp
                  exact hK _ _ rfl hG (fun j' v' _ hf => hf)
                · intro l a W hs ho hG hd hne K' hK
                  have e5 : a.tmps[58]?.getD undef = .bool true := hd ⟨5, .data⟩ (by simp) rfl
                  clear hd ho hne
                  go_simp
                  exact hK _ _ rfl hG (fun j' v' _ hf => hf)
                · intro l a W hs ho hG hd hne K' hK
                  have eg : a.tmps[59]?.getD undef = .bool true := hd ⟨6, .guard⟩ (by simp) rfl
                  rw [if_neg (by rw [wanted_of rfl rfl eg]; decide)]
                  exact hK _ _ rfl hG (fun j' v' _ hf => hf)
                · intro l a W hs ho hG hd hne K' hK
                  have eg : a.tmps[59]?.getD undef = .bool true := hd ⟨6, .guard⟩ (by simp) rfl
                  rw [if_neg (by rw [wanted_of rfl rfl eg]; decide)]
                  exact hK _ _ rfl hG (fun j' v' _ hf => hf)
                · intro l a W hs ho hG hd hne K' hK
                  have eg : a.tmps[59]?.getD undef = .bool true := hd ⟨6, .guard⟩ (by simp) rfl
                  rw [if_neg (by rw [wanted_of rfl rfl eg]; decide)]
                  exact hK _ _ rfl hG (fun j' v' _ hf => hf)
                · intro l a W hs ho hG hd hne K' hK
                  have eg : a.tmps[62]?.getD undef = undef := hd ⟨9, .guard⟩ (by simp) rfl
                  rw [if_neg (by rw [wanted_undef rfl rfl eg]; decide)]
                  exact hK _ _ rfl hG (fun j' v' _ hf => hf)
                · intro l a W hs ho hG hd hne K' hK
                  have eg : a.tmps[62]?.getD undef = undef := hd ⟨9, .guard⟩ (by simp) rfl
                  rw [if_neg (by rw [wanted_undef rfl rfl eg]; decide)]
                  exact hK _ _ rfl hG (fun j' v' _ hf => hf)
                · intro l a W hs ho hG hd hne K' hK
                  have eg : a.tmps[62]?.getD undef = undef := hd ⟨9, .guard⟩ (by simp) rfl
                  rw [if_neg (by rw [wanted_undef rfl rfl eg]; decide)]
                  exact hK _ _ rfl hG (fun j' v' _ hf => hf)
                · intro l a W hs ho hG hd hne K' hK
                  have eg : a.tmps[62]?.getD undef = undef := hd ⟨9, .guard⟩ (by simp) rfl
                  rw [if_neg (by rw [wanted_undef rfl rfl eg]; decide)]
                  exact hK _ _ rfl hG (fun j' v' _ hf => hf)
                · intro l a W hs ho hG hd hne K' hK
                  have eg : a.tmps[66]?.getD undef = undef := hd ⟨13, .guard⟩ (by simp) rfl
                  rw [if_neg (by rw [wanted_undef rfl rfl eg]; decide)]
                  exact hK _ _ rfl hG (fun j' v' _ hf => hf)
                · intro l a W hs ho hG hd hne K' hK
                  have eg : a.tmps[66]?.getD undef = undef := hd ⟨13, .guard⟩ (by simp) rfl
                  rw [if_neg (by rw [wanted_undef rfl rfl eg]; decide)]
                  exact hK _ _ rfl hG (fun j' v' _ hf => hf)
                · intro l a W hs ho hG hd hne K' hK
                  have eg : a.tmps[66]?.getD undef = undef := hd ⟨13, .guard⟩ (by simp) rfl
                  rw [if_neg (by rw [wanted_undef rfl rfl eg]; decide)]
                  exact hK _ _ rfl hG (fun j' v' _ hf => hf)
                · intro l a W hs ho hG hd hne K' hK
                  have eg : a.tmps[62]?.getD undef = undef := hd ⟨9, .guard⟩ (by simp) rfl
                  rw [if_neg (by rw [wanted_undef rfl rfl eg]; decide)]
                  exact hK _ _ rfl hG (fun j' v' _ hf => hf)
                · intro l a W hs ho hG hd hne K' hK
                  have eg : a.tmps[59]?.getD undef = .bool true := hd ⟨6, .guard⟩ (by simp) rfl
                  rw [if_neg (by rw [wanted_of rfl rfl eg]; decide)]
                  exact hK _ _ rfl hG (fun j' v' _ hf => hf)
                · intro l a W hs ho hG hd hne K' hK
                  have e6 : a.tmps[59]?.getD undef = .bool true := hd ⟨6, .data⟩ (by simp) rfl
                  have e18 : a.tmps[71]?.getD undef = undef := hd ⟨18, .data⟩ (by simp) rfl
                  clear hd ho hne
                  go_simp
                  exact hK _ _ rfl hG (fun j' v' _ hf => hf)
                · intro l a W hs ho hG hd hne K' hK
                  have e4 : a.tmps[57]?.getD undef = .agg #[.int .i64 x0, .string x1, .int .i64 x2, .slice x3 x4 x5] := hd ⟨4, .data⟩ (by simp) rfl
                  have e19 : a.tmps[72]?.getD undef = .bool true := hd ⟨19, .data⟩ (by simp) rfl
                  clear hd ho hne
                  go_simp
                  go_at_call 106
                  (with_reducible refine (HRn W hG).mono ?_)
                  rintro e W2 ⟨rfl, hx4⟩
                  go_simp
                  exact hK _ _ rfl (hG.trans hx4) (fun j' v' _ hf => hf)
              · intro l a W ho hG hall hF K' hK
                have e20 : a.tmps[73]?.getD undef = .bool fm := hF 20 (by omega)
                obtain ⟨fr, hfr⟩ : ∃ fr : Tmp → Value, a = ([53, 54, 55, 56, 57, 58, 59, 60, 61, 62, 63, 64, 65, 66, 67, 68, 69, 70, 71, 72, 73] : List Tmp).foldl (fun b d => b.put (some d) (fr d)) _ := ⟨_, ho.puts⟩
                have hfr0 := Lib.hid hfr
                clear hfr ho hF hall
                go_simp
                refine hK _ _ ?_
                rw [hfr0.out]
                simp only [List.foldl]
                clear hfr0 hK e20
                go_wp2_with fail
                go_simp
                go_meet
                exact ⟨rfl, rfl, hG⟩


            case rest =>
              obtain ⟨rfl, rfl, hxw⟩ := hcut
              clear b0 b3 q0 q1 q2 q3 HRn hnb
              cases fm with
              | true =>
                go_wp2_with fail
                go_roundw
                case rel => exact ⟨j + 1, hj0.out, by go_num, by rw [hS.out, hx0.out.2.2]; rfl, hx0.out.2.1.trans hxw⟩
                case measure => simp [intOf]; omega
              | false =>
                go_wp2
                go_ret
                exact ⟨by rw [hFr.out, hH.out (by first | rfl | trivial)]; rfl, hx0.out.1.trans hxw⟩
          · obtain rfl : j = K.length := by omega
            rw [List.take_length] at hyes
            have hx0 := Lib.hid (hXc.trans hx)
            clear HR hAt hx hXc
            go_wp2
            go_ret
            exact ⟨by rw [hFr.out, hyes]; rfl, hx0.out⟩
      | false =>
        rcases hge with ⟨hd, hge⟩ | ⟨hd, hge⟩
        · have hr := Lib.hid (hmis (by rw [hd]; decide))
          clear hmis hF2 HR hAt
          go_wp2
          go_ret
          exact ⟨by rw [hr.out]; rfl, hXc⟩
        have hFr := Lib.hid (show r = Tr.formL (K.map HT.tr) false (Tr.numFirst kd) by rw [hF2, hd]; rfl)
        clear hmis hF2
        go_wp2_with fail
        go_loopw [50] (fun i wr => ∃ j : Nat, j ≤ K.length ∧ i = .int .i64 j ∧ Tr.formL ((K.take j).map HT.tr) false (Tr.numFirst kd) = true ∧ Ext wc wr) (fun i _ => K.length - (intOf i).toNat)
        case atStart => exact ⟨0, by omega, rfl, rfl, Ext.refl _⟩
        case round =>
          obtain ⟨j, hj, rfl, hyes, hx⟩ := hrel
          by_cases hlt : j < K.length
          · obtain ⟨g, x, e1, hq, e2, hxi, q0, q1, q2, q3⟩ := hAt j hlt
            subst e1
            replace b0 := hx.cell b0
            replace b3 := hx.cell b3
            replace q0 := (hXc.trans hx).cell q0
            replace q1 := (hXc.trans hx).cell q1
            replace q2 := (hXc.trans hx).cell q2
            replace q3 := (hXc.trans hx).cell q3
            have hjl : (j : Int) < (K.length : Int) := by omega
            have hjz : (0 : Int) ≤ (j : Int) := by omega
            have HRk := fun (W : World) (nb : Bool) (hW : Ext wr W) => HR x j e2 W nb (hxi.ext ((hXc.trans hx).trans hW))
            have e3 : (K.map HT.tr)[j]? = some x.tr := by rw [List.getElem?_map, e2]; rfl
            have hS := Lib.hid (formL_take (num := false) (first := (Tr.numFirst kd)) e2)
            have hH := Lib.hid (fun (hf : x.tr.form (if j = 0 then (Tr.numFirst kd) else false) = false) => formL_hit (num := false) (first := (Tr.numFirst kd)) e3 hf)
            have hj0 := Lib.hid (show j + 1 ≤ K.length from hlt)
            have hx0 := Lib.hid (And.intro (hXc.trans hx) (And.intro hx hyes))
            generalize hnb : (if j = 0 then (Tr.numFirst kd) else false) = nb at *
            have HRn := fun W hW => HRk W nb hW
            generalize x.tr.form nb = fm at *
            clear HR HRk hAt e2 hxi hx hXc hq hyes e3
            generalize x.kd = x0 at *
            generalize x.s = x1 at *
            generalize x.n = x2 at *
            generalize x.a = x3 at *
            generalize x.k.length = x4 at *
            generalize x.c = x5 at *
            go_upto_region 28 with fail
            go_cut [50, 74] from 50 to 75 (fun i v wx => i = .int .i64 j ∧ v = .bool (!fm) ∧ Ext wr wx)
            case first =>
              by_cases hj00 : j = 0
              case neg =>
                have hnt : nb = false := by rw [← hnb, if_neg hj00]
                have hz : ((j : Int) == 0) = false := by simp; omega
                subst hnt
                clear hnb
                refine wp_region_slots 21 [0, 1, 2, 3, 4, 5, 6, 7, 8, 9, 10, 11, 12, 13, 14, 15, 16, 17, 18, 19, 20] _ [53, 54, 55, 56, 57, 58, 59, 60, 61, 62, 63, 64, 65, 66, 67, 68, 69, 70, 71, 72, 73] (fun i _ u => u = ([.pointer (some ⟨w.heap.size, 3, none⟩), .slice (some ⟨g, 0, none⟩) K.length hc, .int .i64 (j : Int), .pointer (some ⟨g, j * 4, none⟩), .agg #[.int .i64 x0, .string x1, .int .i64 x2, .slice x3 x4 x5], .bool false, .bool false, .int .i64 (j : Int), .bool false, .bool false, undef, undef, undef, undef, undef, undef, undef, undef, .bool false, .bool false, .bool fm] : List Value).getD i undef) (fun _ W => Ext wr W) (by kernel_rfl) rfl (by kernel_rfl) (by kernel_rfl) rfl rfl rfl (by decide) rfl ?_ ?_ ?_
                · exact (Ext.refl _).drew
                · refine slots_cons rfl ?_ (slots_cons rfl ?_ (slots_cons rfl ?_ (slots_cons rfl ?_ (slots_cons rfl ?_ (slots_cons rfl ?_ (slots_cons rfl ?_ (slots_cons rfl ?_ (slots_cons rfl ?_ (slots_cons rfl ?_ (slots_cons rfl ?_ (slots_cons rfl ?_ (slots_cons rfl ?_ (slots_cons rfl ?_ (slots_cons rfl ?_ (slots_cons rfl ?_ (slots_cons rfl ?_ (slots_cons rfl ?_ (slots_cons rfl ?_ (slots_cons rfl ?_ (slots_cons rfl ?_ slots_nil))))))))))))))))))))
                  · intro l a W hs ho hG hd hne K' hK
                    have b2 : a.tmps[2]?.getD undef = .pointer (some ⟨w.heap.size, 0, none⟩) := ho.ev 2 rfl
                    clear hd ho hne
                    go_simp
                    exact hK _ _ rfl hG (fun j' v' _ hf => hf)
                  · intro l a W hs ho hG hd hne K' hK
                    have e0 : a.tmps[53]?.getD undef = .pointer (some ⟨w.heap.size, 3, none⟩) := hd ⟨0, .data⟩ (by simp) rfl
                    have c3 := hG.cell b3
                    clear hd ho hne
                    go_simp
                    exact hK _ _ rfl hG (fun j' v' _ hf => hf)
                  · intro l a W hs ho hG hd hne K' hK
                    have b5 : a.tmps[5]?.getD undef = .int .i64 (j : Int) := ho.ev 5 rfl
                    clear hd ho hne
                    go_simp
                    exact hK _ _ rfl hG (fun j' v' _ hf => hf)
                  · intro l a W hs ho hG hd hne K' hK
                    have e1 : a.tmps[54]?.getD undef = .slice (some ⟨g, 0, none⟩) K.length hc := hd ⟨1, .data⟩ (by simp) rfl
                    have e2 : a.tmps[55]?.getD undef = .int .i64 (j : Int) := hd ⟨2, .data⟩ (by simp) rfl
                    clear hd ho hne
                    go_simp
                    exact hK _ _ rfl hG (fun j' v' _ hf => hf)
                  · intro l a W hs ho hG hd hne K' hK
                    have e3 : a.tmps[56]?.getD undef = .pointer (some ⟨g, j * 4, none⟩) := hd ⟨3, .data⟩ (by simp) rfl
                    have p0 := hG.cell q0
                    have p1 := hG.cell q1
                    have p2 := hG.cell q2
                    have p3 := hG.cell q3
                    clear hd ho hne
                    go_simp
                    exact hK _ _ rfl hG (fun j' v' _ hf => hf)
                  · intro l a W hs ho hG hd hne K' hK
                    have b1 : a.tmps[1]?.getD undef = .bool false := ho.ev 1 rfl
                    clear hd ho hne
                    go_simp
                    exact hK _ _ rfl hG (fun j' v' _ hf => hf)
                  · intro l a W hs ho hG hd hne K' hK
                    have e5 : a.tmps[58]?.getD undef = .bool false := hd ⟨5, .data⟩ (by simp) rfl
                    clear hd ho hne
                    go_simp
                    exact hK _ _ rfl hG (fun j' v' _ hf => hf)
                  · intro l a W hs ho hG hd hne K' hK
                    have eg : a.tmps[59]?.getD undef = .bool false := hd ⟨6, .guard⟩ (by simp) rfl
                    have b5 : a.tmps[5]?.getD undef = .int .i64 (j : Int) := ho.ev 5 rfl
                    rw [if_pos (by rw [wanted_of rfl rfl eg]; rfl)]
                    clear hd ho hne eg
                    go_simp
                    exact hK _ _ rfl hG (fun j' v' _ hf => hf)
                  · intro l a W hs ho hG hd hne K' hK
                    have eg : a.tmps[59]?.getD undef = .bool false := hd ⟨6, .guard⟩ (by simp) rfl
                    have e7 : a.tmps[60]?.getD undef = .int .i64 (j : Int) := hd ⟨7, .data⟩ (by simp) rfl
                    rw [if_pos (by rw [wanted_of rfl rfl eg]; rfl)]
                    clear hd ho hne eg
                    go_simp
                    exact hK _ _ rfl hG (fun j' v' _ hf => hf)
                  · intro l a W hs ho hG hd hne K' hK
                    have eg : a.tmps[59]?.getD undef = .bool false := hd ⟨6, .guard⟩ (by simp) rfl
                    have e8 : a.tmps[61]?.getD undef = .bool false := hd ⟨8, .data⟩ (by simp) rfl
                    rw [if_pos (by rw [wanted_of rfl rfl eg]; rfl)]
                    clear hd ho hne eg
                    go_simp
                    exact hK _ _ rfl hG (fun j' v' _ hf => hf)
                  · intro l a W hs ho hG hd hne K' hK
                    have eg : a.tmps[62]?.getD undef = .bool false := hd ⟨9, .guard⟩ (by simp) rfl
                    rw [if_neg (by rw [wanted_of rfl rfl eg]; decide)]
                    exact hK _ _ rfl hG (fun j' v' _ hf => hf)
                  · intro l a W hs ho hG hd hne K' hK
                    have eg : a.tmps[62]?.getD undef = .bool false := hd ⟨9, .guard⟩ (by simp) rfl
                    rw [if_neg (by rw [wanted_of rfl rfl eg]; decide)]
                    exact hK _ _ rfl hG (fun j' v' _ hf => hf)
                  · intro l a W hs ho hG hd hne K' hK
                    have eg : a.tmps[62]?.getD undef = .bool false := hd ⟨9, .guard⟩ (by simp) rfl
                    rw [if_neg (by rw [wanted_of rfl rfl eg]; decide)]
                    exact hK _ _ rfl hG (fun j' v' _ hf => hf)
                  · intro l a W hs ho hG hd hne K' hK
                    have eg : a.tmps[62]?.getD undef = .bool false := hd ⟨9, .guard⟩ (by simp) rfl
                    rw [if_neg (by rw [wanted_of rfl rfl eg]; decide)]
                    exact hK _ _ rfl hG (fun j' v' _ hf => hf)
                  · intro l a W hs ho hG hd hne K' hK
                    have eg : a.tmps[66]?.getD undef = undef := hd ⟨13, .guard⟩ (by simp) rfl
                    rw [if_neg (by rw [wanted_undef rfl rfl eg]; decide)]
                    exact hK _ _ rfl hG (fun j' v' _ hf => hf)
                  · intro l a W hs ho hG hd hne K' hK
                    have eg : a.tmps[66]?.getD undef = undef := hd ⟨13, .guard⟩ (by simp) rfl
                    rw [if_neg (by rw [wanted_undef rfl rfl eg]; decide)]
                    exact hK _ _ rfl hG (fun j' v' _ hf => hf)
                  · intro l a W hs ho hG hd hne K' hK
                    have eg : a.tmps[66]?.getD undef = undef := hd ⟨13, .guard⟩ (by simp) rfl
                    rw [if_neg (by rw [wanted_undef rfl rfl eg]; decide)]
                    exact hK _ _ rfl hG (fun j' v' _ hf => hf)
                  · intro l a W hs ho hG hd hne K' hK
                    have eg : a.tmps[62]?.getD undef = .bool false := hd ⟨9, .guard⟩ (by simp) rfl
                    rw [if_neg (by rw [wanted_of rfl rfl eg]; decide)]
                    exact hK _ _ rfl hG (fun j' v' _ hf => hf)
                  · intro l a W hs ho hG hd hne K' hK
                    have eg : a.tmps[59]?.getD undef = .bool false := hd ⟨6, .guard⟩ (by simp) rfl
                    have e9 : a.tmps[62]?.getD undef = .bool false := hd ⟨9, .data⟩ (by simp) rfl
                    have e17 : a.tmps[70]?.getD undef = undef := hd ⟨17, .data⟩ (by simp) rfl
                    rw [if_pos (by rw [wanted_of rfl rfl eg]; rfl)]
                    clear hd ho hne eg
                    go_simp
                    exact hK _ _ rfl hG (fun j' v' _ hf => hf)
                  · intro l a W hs ho hG hd hne K' hK
                    have e6 : a.tmps[59]?.getD undef = .bool false := hd ⟨6, .data⟩ (by simp) rfl
                    have e18 : a.tmps[71]?.getD undef = .bool false := hd ⟨18, .data⟩ (by simp) rfl
                    clear hd ho hne
                    go_simp
                    exact hK _ _ rfl hG (fun j' v' _ hf => hf)
                  · intro l a W hs ho hG hd hne K' hK
                    have e4 : a.tmps[57]?.getD undef = .agg #[.int .i64 x0, .string x1, .int .i64 x2, .slice x3 x4 x5] := hd ⟨4, .data⟩ (by simp) rfl
                    have e19 : a.tmps[72]?.getD undef = .bool false := hd ⟨19, .data⟩ (by simp) rfl
                    clear hd ho hne
                    go_simp
                    go_at_call 106
                    (with_reducible refine (HRn W hG).mono ?_)
                    rintro e W2 ⟨rfl, hx4⟩
                    go_simp
                    exact hK _ _ rfl (hG.trans hx4) (fun j' v' _ hf => hf)
                · intro l a W ho hG hall hF K' hK
                  have e20 : a.tmps[73]?.getD undef = .bool fm := hF 20 (by omega)
                  obtain ⟨fr, hfr⟩ : ∃ fr : Tmp → Value, a = ([53, 54, 55, 56, 57, 58, 59, 60, 61, 62, 63, 64, 65, 66, 67, 68, 69, 70, 71, 72, 73] : List Tmp).foldl (fun b d => b.put (some d) (fr d)) _ := ⟨_, ho.puts⟩
                  have hfr0 := Lib.hid hfr
                  clear hfr ho hF hall
                  go_simp
                  refine hK _ _ ?_
                  rw [hfr0.out]
                  simp only [List.foldl]
                  clear hfr0 hK e20
                  go_wp2_with fail
                  go_simp
                  go_meet
                  exact ⟨rfl, rfl, hG⟩

              case pos =>
                have hnt : nb = Tr.numFirst kd := by rw [← hnb, if_pos hj00]
                subst hj00
                simp only [Nat.zero_mul, Nat.zero_add] at q0 q1 q2 q3
                clear hnb
                by_cases h6 : kd = 6
                · subst h6
                  have hnt2 : nb = true := hnt
                  subst hnt2
                  clear hnt
                  refine wp_region_slots 21 [0, 1, 2, 3, 4, 5, 6, 7, 8, 9, 10, 11, 12, 13, 14, 15, 16, 17, 18, 19, 20] _ [53, 54, 55, 56, 57, 58, 59, 60, 61, 62, 63, 64, 65, 66, 67, 68, 69, 70, 71, 72, 73] (fun i _ u => u = ([.pointer (some ⟨w.heap.size, 3, none⟩), .slice (some ⟨g, 0, none⟩) K.length hc, .int .i64 0, .pointer (some ⟨g, 0, none⟩), .agg #[.int .i64 x0, .string x1, .int .i64 x2, .slice x3 x4 x5], .bool false, .bool false, .int .i64 0, .bool true, .bool true, .pointer (some ⟨w.heap.size, 0, none⟩), .int .i64 6, .bool true, .bool true, undef, undef, undef, .bool true, .bool true, .bool true, .bool fm] : List Value).getD i undef) (fun _ W => Ext wr W) (by kernel_rfl) rfl (by kernel_rfl) (by kernel_rfl) rfl rfl rfl (by decide) rfl ?_ ?_ ?_
                  · exact (Ext.refl _).drew
                  · refine slots_cons rfl ?_ (slots_cons rfl ?_ (slots_cons rfl ?_ (slots_cons rfl ?_ (slots_cons rfl ?_ (slots_cons rfl ?_ (slots_cons rfl ?_ (slots_cons rfl ?_ (slots_cons rfl ?_ (slots_cons rfl ?_ (slots_cons rfl ?_ (slots_cons rfl ?_ (slots_cons rfl ?_ (slots_cons rfl ?_ (slots_cons rfl ?_ (slots_cons rfl ?_ (slots_cons rfl ?_ (slots_cons rfl ?_ (slots_cons rfl ?_ (slots_cons rfl ?_ (slots_cons rfl ?_ slots_nil))))))))))))))))))))
                    · intro l a W hs ho hG hd hne K' hK
                      have b2 : a.tmps[2]?.getD undef = .pointer (some ⟨w.heap.size, 0, none⟩) := ho.ev 2 rfl
                      clear hd ho hne
                      go_simp
                      exact hK _ _ rfl hG (fun j' v' _ hf => hf)
                    · intro l a W hs ho hG hd hne K' hK
                      have e0 : a.tmps[53]?.getD undef = .pointer (some ⟨w.heap.size, 3, none⟩) := hd ⟨0, .data⟩ (by simp) rfl
                      have c3 := hG.cell b3
                      clear hd ho hne
                      go_simp
                      exact hK _ _ rfl hG (fun j' v' _ hf => hf)
                    · intro l a W hs ho hG hd hne K' hK
                      have b5 : a.tmps[5]?.getD undef = .int .i64 0 := ho.ev 5 rfl
                      clear hd ho hne
                      go_simp
                      exact hK _ _ rfl hG (fun j' v' _ hf => hf)
                    · intro l a W hs ho hG hd hne K' hK
                      have e1 : a.tmps[54]?.getD undef = .slice (some ⟨g, 0, none⟩) K.length hc := hd ⟨1, .data⟩ (by simp) rfl
                      have e2 : a.tmps[55]?.getD undef = .int .i64 0 := hd ⟨2, .data⟩ (by simp) rfl
                      clear hd ho hne
                      go_simp
                      exact hK _ _ rfl hG (fun j' v' _ hf => hf)
                    · intro l a W hs ho hG hd hne K' hK
                      have e3 : a.tmps[56]?.getD undef = .pointer (some ⟨g, 0, none⟩) := hd ⟨3, .data⟩ (by simp) rfl
                      have p0 := hG.cell q0
                      have p1 := hG.cell q1
                      have p2 := hG.cell q2
                      have p3 := hG.cell q3
                      clear hd ho hne
                      go_simp
                      exact hK _ _ rfl hG (fun j' v' _ hf => hf)
                    · intro l a W hs ho hG hd hne K' hK
                      have b1 : a.tmps[1]?.getD undef = .bool false := ho.ev 1 rfl
                      clear hd ho hne
                      go_simp
                      exact hK _ _ rfl hG (fun j' v' _ hf => hf)
                    · intro l a W hs ho hG hd hne K' hK
                      have e5 : a.tmps[58]?.getD undef = .bool false := hd ⟨5, .data⟩ (by simp) rfl
                      clear hd ho hne
                      go_simp
                      exact hK _ _ rfl hG (fun j' v' _ hf => hf)
                    · intro l a W hs ho hG hd hne K' hK
                      have eg : a.tmps[59]?.getD undef = .bool false := hd ⟨6, .guard⟩ (by simp) rfl
                      have b5 : a.tmps[5]?.getD undef = .int .i64 0 := ho.ev 5 rfl
                      rw [if_pos (by rw [wanted_of rfl rfl eg]; rfl)]
                      clear hd ho hne eg
                      go_simp
                      exact hK _ _ rfl hG (fun j' v' _ hf => hf)
                    · intro l a W hs ho hG hd hne K' hK
                      have eg : a.tmps[59]?.getD undef = .bool false := hd ⟨6, .guard⟩ (by simp) rfl
                      have e7 : a.tmps[60]?.getD undef = .int .i64 0 := hd ⟨7, .data⟩ (by simp) rfl
                      rw [if_pos (by rw [wanted_of rfl rfl eg]; rfl)]
                      clear hd ho hne eg
                      go_simp
                      exact hK _ _ rfl hG (fun j' v' _ hf => hf)
                    · intro l a W hs ho hG hd hne K' hK
                      have eg : a.tmps[59]?.getD undef = .bool false := hd ⟨6, .guard⟩ (by simp) rfl
                      have e8 : a.tmps[61]?.getD undef = .bool true := hd ⟨8, .data⟩ (by simp) rfl
                      rw [if_pos (by rw [wanted_of rfl rfl eg]; rfl)]
                      clear hd ho hne eg
                      go_simp
                      exact hK _ _ rfl hG (fun j' v' _ hf => hf)
                    · intro l a W hs ho hG hd hne K' hK
                      have eg : a.tmps[62]?.getD undef = .bool true := hd ⟨9, .guard⟩ (by simp) rfl
                      have b2 : a.tmps[2]?.getD undef = .pointer (some ⟨w.heap.size, 0, none⟩) := ho.ev 2 rfl
                      rw [if_pos (by rw [wanted_of rfl rfl eg]; rfl)]
                      clear hd ho hne eg
                      go_simp
                      exact hK _ _ rfl hG (fun j' v' _ hf => hf)
                    · intro l a W hs ho hG hd hne K' hK
                      have eg : a.tmps[62]?.getD undef = .bool true := hd ⟨9, .guard⟩ (by simp) rfl
                      have e10 : a.tmps[63]?.getD undef = .pointer (some ⟨w.heap.size, 0, none⟩) := hd ⟨10, .data⟩ (by simp) rfl
                      rw [if_pos (by rw [wanted_of rfl rfl eg]; rfl)]
                      have c0 := hG.cell b0
                      clear hd ho hne eg
                      go_simp
                      exact hK _ _ rfl hG (fun j' v' _ hf => hf)
                    · intro l a W hs ho hG hd hne K' hK
                      have eg : a.tmps[62]?.getD undef = .bool true := hd ⟨9, .guard⟩ (by simp) rfl
                      have e11 : a.tmps[64]?.getD undef = .int .i64 6 := hd ⟨11, .data⟩ (by simp) rfl
                      rw [if_pos (by rw [wanted_of rfl rfl eg]; rfl)]
                      clear hd ho hne eg
                      go_simp
                      exact hK _ _ rfl hG (fun j' v' _ hf => hf)
                    · intro l a W hs ho hG hd hne K' hK
                      have eg : a.tmps[62]?.getD undef = .bool true := hd ⟨9, .guard⟩ (by simp) rfl
                      have e12 : a.tmps[65]?.getD undef = .bool true := hd ⟨12, .data⟩ (by simp) rfl
                      rw [if_pos (by rw [wanted_of rfl rfl eg]; rfl)]
                      clear hd ho hne eg
                      go_simp
                      exact hK _ _ rfl hG (fun j' v' _ hf => hf)
                    · intro l a W hs ho hG hd hne K' hK
                      have eg : a.tmps[66]?.getD undef = .bool true := hd ⟨13, .guard⟩ (by simp) rfl
                      rw [if_neg (by rw [wanted_of rfl rfl eg]; decide)]
                      exact hK _ _ rfl hG (fun j' v' _ hf => hf)
                    · intro l a W hs ho hG hd hne K' hK
                      have eg : a.tmps[66]?.getD undef = .bool true := hd ⟨13, .guard⟩ (by simp) rfl
                      rw [if_neg (by rw [wanted_of rfl rfl eg]; decide)]
                      exact hK _ _ rfl hG (fun j' v' _ hf => hf)
                    · intro l a W hs ho hG hd hne K' hK
                      have eg : a.tmps[66]?.getD undef = .bool true := hd ⟨13, .guard⟩ (by simp) rfl
                      rw [if_neg (by rw [wanted_of rfl rfl eg]; decide)]
                      exact hK _ _ rfl hG (fun j' v' _ hf => hf)
                    · intro l a W hs ho hG hd hne K' hK
                      have eg : a.tmps[62]?.getD undef = .bool true := hd ⟨9, .guard⟩ (by simp) rfl
                      have e13 : a.tmps[66]?.getD undef = .bool true := hd ⟨13, .data⟩ (by simp) rfl
                      have e16 : a.tmps[69]?.getD undef = undef := hd ⟨16, .data⟩ (by simp) rfl
                      rw [if_pos (by rw [wanted_of rfl rfl eg]; rfl)]
                      clear hd ho hne eg
                      go_simp
                      exact hK _ _ rfl hG (fun j' v' _ hf => hf)
                    · intro l a W hs ho hG hd hne K' hK
                      have eg : a.tmps[59]?.getD undef = .bool false := hd ⟨6, .guard⟩ (by simp) rfl
                      have e9 : a.tmps[62]?.getD undef = .bool true := hd ⟨9, .data⟩ (by simp) rfl
                      have e17 : a.tmps[70]?.getD undef = .bool true := hd ⟨17, .data⟩ (by simp) rfl
                      rw [if_pos (by rw [wanted_of rfl rfl eg]; rfl)]
                      clear hd ho hne eg
                      go_simp
                      exact hK _ _ rfl hG (fun j' v' _ hf => hf)
                    · intro l a W hs ho hG hd hne K' hK
                      have e6 : a.tmps[59]?.getD undef = .bool false := hd ⟨6, .data⟩ (by simp) rfl
                      have e18 : a.tmps[71]?.getD undef = .bool true := hd ⟨18, .data⟩ (by simp) rfl
                      clear hd ho hne
                      go_simp
                      exact hK _ _ rfl hG (fun j' v' _ hf => hf)
                    · intro l a W hs ho hG hd hne K' hK
                      have e4 : a.tmps[57]?.getD undef = .agg #[.int .i64 x0, .string x1, .int .i64 x2, .slice x3 x4 x5] := hd ⟨4, .data⟩ (by simp) rfl
                      have e19 : a.tmps[72]?.getD undef = .bool true := hd ⟨19, .data⟩ (by simp) rfl
                      clear hd ho hne
                      go_simp
                      go_at_call 106
                      (with_reducible refine (HRn W hG).mono ?_)
                      rintro e W2 ⟨rfl, hx4⟩
                      go_simp
                      exact hK _ _ rfl (hG.trans hx4) (fun j' v' _ hf => hf)
                  · intro l a W ho hG hall hF K' hK
                    have e20 : a.tmps[73]?.getD undef = .bool fm := hF 20 (by omega)
                    obtain ⟨fr, hfr⟩ : ∃ fr : Tmp → Value, a = ([53, 54, 55, 56, 57, 58, 59, 60, 61, 62, 63, 64, 65, 66, 67, 68, 69, 70, 71, 72, 73] : List Tmp).foldl (fun b d => b.put (some d) (fr d)) _ := ⟨_, ho.puts⟩
                    have hfr0 := Lib.hid hfr
                    clear hfr ho hF hall
                    go_simp
                    refine hK _ _ ?_
                    rw [hfr0.out]
                    simp only [List.foldl]
                    clear hfr0 hK e20
                    go_wp2_with fail
                    go_simp
                    go_meet
                    exact ⟨rfl, rfl, hG⟩

                by_cases h8 : kd = 8
                · subst h8
                  have hnt2 : nb = true := hnt
                  subst hnt2
                  clear hnt
                  refine wp_region_slots 21 [0, 1, 2, 3, 4, 5, 6, 7, 8, 9, 10, 11, 12, 13, 14, 15, 16, 17, 18, 19, 20] _ [53, 54, 55, 56, 57, 58, 59, 60, 61, 62, 63, 64, 65, 66, 67, 68, 69, 70, 71, 72, 73] (fun i _ u => u = ([.pointer (some ⟨w.heap.size, 3, none⟩), .slice (some ⟨g, 0, none⟩) K.length hc, .int .i64 0, .pointer (some ⟨g, 0, none⟩), .agg #[.int .i64 x0, .string x1, .int .i64 x2, .slice x3 x4 x5], .bool false, .bool false, .int .i64 0, .bool true, .bool true, .pointer (some ⟨w.heap.size, 0, none⟩), .int .i64 8, .bool false, .bool false, .pointer (some ⟨w.heap.size, 0, none⟩), .int .i64 8, .bool true, .bool true, .bool true, .bool true, .bool fm] : List Value).getD i undef) (fun _ W => Ext wr W) (by kernel_rfl) rfl (by kernel_rfl) (by kernel_rfl) rfl rfl rfl (by decide) rfl ?_ ?_ ?_
                  · exact (Ext.refl _).drew
                  · refine slots_cons rfl ?_ (slots_cons rfl ?_ (slots_cons rfl ?_ (slots_cons rfl ?_ (slots_cons rfl ?_ (slots_cons rfl ?_ (slots_cons rfl ?_ (slots_cons rfl ?_ (slots_cons rfl ?_ (slots_cons rfl ?_ (slots_cons rfl ?_ (slots_cons rfl ?_ (slots_cons rfl ?_ (slots_cons rfl ?_ (slots_cons rfl ?_ (slots_cons rfl ?_ (slots_cons rfl ?_ (slots_cons rfl ?_ (slots_cons rfl ?_ (slots_cons rfl ?_ (slots_cons rfl ?_ slots_nil))))))))))))))))))))
                    · intro l a W hs ho hG hd hne K' hK
                      have b2 : a.tmps[2]?.getD undef = .pointer (some ⟨w.heap.size, 0, none⟩) := ho.ev 2 rfl
                      clear hd ho hne
                      go_simp
                      exact hK _ _ rfl hG (fun j' v' _ hf => hf)
                    · intro l a W hs ho hG hd hne K' hK
                      have e0 : a.tmps[53]?.getD undef = .pointer (some ⟨w.heap.size, 3, none⟩) := hd ⟨0, .data⟩ (by simp) rfl
                      have c3 := hG.cell b3
                      clear hd ho hne
                      go_simp
                      exact hK _ _ rfl hG (fun j' v' _ hf => hf)
                    · intro l a W hs ho hG hd hne K' hK
                      have b5 : a.tmps[5]?.getD undef = .int .i64 0 := ho.ev 5 rfl
                      clear hd ho hne
                      go_simp
                      exact hK _ _ rfl hG (fun j' v' _ hf => hf)
                    · intro l a W hs ho hG hd hne K' hK
                      have e1 : a.tmps[54]?.getD undef = .slice (some ⟨g, 0, none⟩) K.length hc := hd ⟨1, .data⟩ (by simp) rfl
                      have e2 : a.tmps[55]?.getD undef = .int .i64 0 := hd ⟨2, .data⟩ (by simp) rfl
                      clear hd ho hne
                      go_simp
                      exact hK _ _ rfl hG (fun j' v' _ hf => hf)
                    · intro l a W hs ho hG hd hne K' hK
                      have e3 : a.tmps[56]?.getD undef = .pointer (some ⟨g, 0, none⟩) := hd ⟨3, .data⟩ (by simp) rfl
                      have p0 := hG.cell q0
                      have p1 := hG.cell q1
                      have p2 := hG.cell q2
                      have p3 := hG.cell q3
                      clear hd ho hne
                      go_simp
                      exact hK _ _ rfl hG (fun j' v' _ hf => hf)
                    · intro l a W hs ho hG hd hne K' hK
                      have b1 : a.tmps[1]?.getD undef = .bool false := ho.ev 1 rfl
                      clear hd ho hne
                      go_simp
                      exact hK _ _ rfl hG (fun j' v' _ hf => hf)
                    · intro l a W hs ho hG hd hne K' hK
                      have e5 : a.tmps[58]?.getD undef = .bool false := hd ⟨5, .data⟩ (by simp) rfl
                      clear hd ho hne
                      go_simp
                      exact hK _ _ rfl hG (fun j' v' _ hf => hf)
                    · intro l a W hs ho hG hd hne K' hK
                      have eg : a.tmps[59]?.getD undef = .bool false := hd ⟨6, .guard⟩ (by simp) rfl
                      have b5 : a.tmps[5]?.getD undef = .int .i64 0 := ho.ev 5 rfl
                      rw [if_pos (by rw [wanted_of rfl rfl eg]; rfl)]
                      clear hd ho hne eg
                      go_simp
                      exact hK _ _ rfl hG (fun j' v' _ hf => hf)
                    · intro l a W hs ho hG hd hne K' hK
                      have eg : a.tmps[59]?.getD undef = .bool false := hd ⟨6, .guard⟩ (by simp) rfl
                      have e7 : a.tmps[60]?.getD undef = .int .i64 0 := hd ⟨7, .data⟩ (by simp) rfl
                      rw [if_pos (by rw [wanted_of rfl rfl eg]; rfl)]
                      clear hd ho hne eg
                      go_simp
                      exact hK _ _ rfl hG (fun j' v' _ hf => hf)
                    · intro l a W hs ho hG hd hne K' hK
                      have eg : a.tmps[59]?.getD undef = .bool false := hd ⟨6, .guard⟩ (by simp) rfl
                      have e8 : a.tmps[61]?.getD undef = .bool true := hd ⟨8, .data⟩ (by simp) rfl
                      rw [if_pos (by rw [wanted_of rfl rfl eg]; rfl)]
                      clear hd ho hne eg
                      go_simp
                      exact hK _ _ rfl hG (fun j' v' _ hf => hf)
                    · intro l a W hs ho hG hd hne K' hK
                      have eg : a.tmps[62]?.getD undef = .bool true := hd ⟨9, .guard⟩ (by simp) rfl
                      have b2 : a.tmps[2]?.getD undef = .pointer (some ⟨w.heap.size, 0, none⟩) := ho.ev 2 rfl
                      rw [if_pos (by rw [wanted_of rfl rfl eg]; rfl)]
                      clear hd ho hne eg
                      go_simp
                      exact hK _ _ rfl hG (fun j' v' _ hf => hf)
                    · intro l a W hs ho hG hd hne K' hK
                      have eg : a.tmps[62]?.getD undef = .bool true := hd ⟨9, .guard⟩ (by simp) rfl
                      have e10 : a.tmps[63]?.getD undef = .pointer (some ⟨w.heap.size, 0, none⟩) := hd ⟨10, .data⟩ (by simp) rfl
                      rw [if_pos (by rw [wanted_of rfl rfl eg]; rfl)]
                      have c0 := hG.cell b0
                      clear hd ho hne eg
                      go_simp
                      exact hK _ _ rfl hG (fun j' v' _ hf => hf)
                    · intro l a W hs ho hG hd hne K' hK
                      have eg : a.tmps[62]?.getD undef = .bool true := hd ⟨9, .guard⟩ (by simp) rfl
                      have e11 : a.tmps[64]?.getD undef = .int .i64 8 := hd ⟨11, .data⟩ (by simp) rfl
                      rw [if_pos (by rw [wanted_of rfl rfl eg]; rfl)]
                      clear hd ho hne eg
                      go_simp
                      exact hK _ _ rfl hG (fun j' v' _ hf => hf)
                    · intro l a W hs ho hG hd hne K' hK
                      have eg : a.tmps[62]?.getD undef = .bool true := hd ⟨9, .guard⟩ (by simp) rfl
                      have e12 : a.tmps[65]?.getD undef = .bool false := hd ⟨12, .data⟩ (by simp) rfl
                      rw [if_pos (by rw [wanted_of rfl rfl eg]; rfl)]
                      clear hd ho hne eg
                      go_simp
                      exact hK _ _ rfl hG (fun j' v' _ hf => hf)
                    · intro l a W hs ho hG hd hne K' hK
                      have eg : a.tmps[66]?.getD undef = .bool false := hd ⟨13, .guard⟩ (by simp) rfl
                      have b2 : a.tmps[2]?.getD undef = .pointer (some ⟨w.heap.size, 0, none⟩) := ho.ev 2 rfl
                      rw [if_pos (by rw [wanted_of rfl rfl eg]; rfl)]
                      clear hd ho hne eg
                      go_simp
                      exact hK _ _ rfl hG (fun j' v' _ hf => hf)
                    · intro l a W hs ho hG hd hne K' hK
                      have eg : a.tmps[66]?.getD undef = .bool false := hd ⟨13, .guard⟩ (by simp) rfl
                      have e14 : a.tmps[67]?.getD undef = .pointer (some ⟨w.heap.size, 0, none⟩) := hd ⟨14, .data⟩ (by simp) rfl
                      rw [if_pos (by rw [wanted_of rfl rfl eg]; rfl)]
                      have c0 := hG.cell b0
                      clear hd ho hne eg
                      go_simp
                      exact hK _ _ rfl hG (fun j' v' _ hf => hf)
                    · intro l a W hs ho hG hd hne K' hK
                      have eg : a.tmps[66]?.getD undef = .bool false := hd ⟨13, .guard⟩ (by simp) rfl
                      have e15 : a.tmps[68]?.getD undef = .int .i64 8 := hd ⟨15, .data⟩ (by simp) rfl
                      rw [if_pos (by rw [wanted_of rfl rfl eg]; rfl)]
                      clear hd ho hne eg
                      go_simp
                      exact hK _ _ rfl hG (fun j' v' _ hf => hf)
                    · intro l a W hs ho hG hd hne K' hK
                      have eg : a.tmps[62]?.getD undef = .bool true := hd ⟨9, .guard⟩ (by simp) rfl
                      have e13 : a.tmps[66]?.getD undef = .bool false := hd ⟨13, .data⟩ (by simp) rfl
                      have e16 : a.tmps[69]?.getD undef = .bool true := hd ⟨16, .data⟩ (by simp) rfl
                      rw [if_pos (by rw [wanted_of rfl rfl eg]; rfl)]
                      clear hd ho hne eg
                      go_simp
                      exact hK _ _ rfl hG (fun j' v' _ hf => hf)
                    · intro l a W hs ho hG hd hne K' hK
                      have eg : a.tmps[59]?.getD undef = .bool false := hd ⟨6, .guard⟩ (by simp) rfl
                      have e9 : a.tmps[62]?.getD undef = .bool true := hd ⟨9, .data⟩ (by simp) rfl
                      have e17 : a.tmps[70]?.getD undef = .bool true := hd ⟨17, .data⟩ (by simp) rfl
                      rw [if_pos (by rw [wanted_of rfl rfl eg]; rfl)]
                      clear hd ho hne eg
                      go_simp
                      exact hK _ _ rfl hG (fun j' v' _ hf => hf)
                    · intro l a W hs ho hG hd hne K' hK
                      have e6 : a.tmps[59]?.getD undef = .bool false := hd ⟨6, .data⟩ (by simp) rfl
                      have e18 : a.tmps[71]?.getD undef = .bool true := hd ⟨18, .data⟩ (by simp) rfl
                      clear hd ho hne
                      go_simp
                      exact hK _ _ rfl hG (fun j' v' _ hf => hf)
                    · intro l a W hs ho hG hd hne K' hK
                      have e4 : a.tmps[57]?.getD undef = .agg #[.int .i64 x0, .string x1, .int .i64 x2, .slice x3 x4 x5] := hd ⟨4, .data⟩ (by simp) rfl
                      have e19 : a.tmps[72]?.getD undef = .bool true := hd ⟨19, .data⟩ (by simp) rfl
                      clear hd ho hne
                      go_simp
                      go_at_call 106
                      (with_reducible refine (HRn W hG).mono ?_)
                      rintro e W2 ⟨rfl, hx4⟩
                      go_simp
                      exact hK _ _ rfl (hG.trans hx4) (fun j' v' _ hf => hf)
                  · intro l a W ho hG hall hF K' hK
                    have e20 : a.tmps[73]?.getD undef = .bool fm := hF 20 (by omega)
                    obtain ⟨fr, hfr⟩ : ∃ fr : Tmp → Value, a = ([53, 54, 55, 56, 57, 58, 59, 60, 61, 62, 63, 64, 65, 66, 67, 68, 69, 70, 71, 72, 73] : List Tmp).foldl (fun b d => b.put (some d) (fr d)) _ := ⟨_, ho.puts⟩
                    have hfr0 := Lib.hid hfr
                    clear hfr ho hF hall
                    go_simp
                    refine hK _ _ ?_
                    rw [hfr0.out]
                    simp only [List.foldl]
                    clear hfr0 hK e20
                    go_wp2_with fail
                    go_simp
                    go_meet
                    exact ⟨rfl, rfl, hG⟩

                have hnt2 : nb = false := by rw [hnt]; unfold Tr.numFirst; exact decide_eq_false (by omega)
                have n6 : (kd == 6) = false := beq_eq_false_iff_ne.2 h6
                have n8 : (kd == 8) = false := beq_eq_false_iff_ne.2 h8
                subst hnt2
                clear hnt
                refine wp_region_slots 21 [0, 1, 2, 3, 4, 5, 6, 7, 8, 9, 10, 11, 12, 13, 14, 15, 16, 17, 18, 19, 20] _ [53, 54, 55, 56, 57, 58, 59, 60, 61, 62, 63, 64, 65, 66, 67, 68, 69, 70, 71, 72, 73] (fun i _ u => u = ([.pointer (some ⟨w.heap.size, 3, none⟩), .slice (some ⟨g, 0, none⟩) K.length hc, .int .i64 0, .pointer (some ⟨g, 0, none⟩), .agg #[.int .i64 x0, .string x1, .int .i64 x2, .slice x3 x4 x5], .bool false, .bool false, .int .i64 0, .bool true, .bool true, .pointer (some ⟨w.heap.size, 0, none⟩), .int .i64 kd, .bool false, .bool false, .pointer (some ⟨w.heap.size, 0, none⟩), .int .i64 kd, .bool false, .bool false, .bool false, .bool false, .bool fm] : List Value).getD i undef) (fun _ W => Ext wr W) (by kernel_rfl) rfl (by kernel_rfl) (by kernel_rfl) rfl rfl rfl (by decide) rfl ?_ ?_ ?_
                · exact (Ext.refl _).drew
                · refine slots_cons rfl ?_ (slots_cons rfl ?_ (slots_cons rfl ?_ (slots_cons rfl ?_ (slots_cons rfl ?_ (slots_cons rfl ?_ (slots_cons rfl ?_ (slots_cons rfl ?_ (slots_cons rfl ?_ (slots_cons rfl ?_ (slots_cons rfl ?_ (slots_cons rfl ?_ (slots_cons rfl ?_ (slots_cons rfl ?_ (slots_cons rfl ?_ (slots_cons rfl ?_ (slots_cons rfl ?_ (slots_cons rfl ?_ (slots_cons rfl ?_ (slots_cons rfl ?_ (slots_cons rfl ?_ slots_nil))))))))))))))))))))
                  · intro l a W hs ho hG hd hne K' hK
                    have b2 : a.tmps[2]?.getD undef = .pointer (some ⟨w.heap.size, 0, none⟩) := ho.ev 2 rfl
                    clear hd ho hne
                    go_simp
                    exact hK _ _ rfl hG (fun j' v' _ hf => hf)
                  · intro l a W hs ho hG hd hne K' hK
                    have e0 : a.tmps[53]?.getD undef = .pointer (some ⟨w.heap.size, 3, none⟩) := hd ⟨0, .data⟩ (by simp) rfl
                    have c3 := hG.cell b3
                    clear hd ho hne
                    go_simp
                    exact hK _ _ rfl hG (fun j' v' _ hf => hf)
                  · intro l a W hs ho hG hd hne K' hK
                    have b5 : a.tmps[5]?.getD undef = .int .i64 0 := ho.ev 5 rfl
                    clear hd ho hne
                    go_simp
                    exact hK _ _ rfl hG (fun j' v' _ hf => hf)
                  · intro l a W hs ho hG hd hne K' hK
                    have e1 : a.tmps[54]?.getD undef = .slice (some ⟨g, 0, none⟩) K.length hc := hd ⟨1, .data⟩ (by simp) rfl
                    have e2 : a.tmps[55]?.getD undef = .int .i64 0 := hd ⟨2, .data⟩ (by simp) rfl
                    clear hd ho hne
                    go_simp
                    exact hK _ _ rfl hG (fun j' v' _ hf => hf)
                  · intro l a W hs ho hG hd hne K' hK
                    have e3 : a.tmps[56]?.getD undef = .pointer (some ⟨g, 0, none⟩) := hd ⟨3, .data⟩ (by simp) rfl
                    have p0 := hG.cell q0
                    have p1 := hG.cell q1
                    have p2 := hG.cell q2
                    have p3 := hG.cell q3
                    clear hd ho hne
                    go_simp
                    exact hK _ _ rfl hG (fun j' v' _ hf => hf)
                  · intro l a W hs ho hG hd hne K' hK
                    have b1 : a.tmps[1]?.getD undef = .bool false := ho.ev 1 rfl
                    clear hd ho hne
                    go_simp
                    exact hK _ _ rfl hG (fun j' v' _ hf => hf)
                  · intro l a W hs ho hG hd hne K' hK
                    have e5 : a.tmps[58]?.getD undef = .bool false := hd ⟨5, .data⟩ (by simp) rfl
                    clear hd ho hne
                    go_simp
                    exact hK _ _ rfl hG (fun j' v' _ hf => hf)
                  · intro l a W hs ho hG hd hne K' hK
                    have eg : a.tmps[59]?.getD undef = .bool false := hd ⟨6, .guard⟩ (by simp) rfl
                    have b5 : a.tmps[5]?.getD undef = .int .i64 0 := ho.ev 5 rfl
                    rw [if_pos (by rw [wanted_of rfl rfl eg]; rfl)]
                    clear hd ho hne eg
                    go_simp
                    exact hK _ _ rfl hG (fun j' v' _ hf => hf)
                  · intro l a W hs ho hG hd hne K' hK
                    have eg : a.tmps[59]?.getD undef = .bool false := hd ⟨6, .guard⟩ (by simp) rfl
                    have e7 : a.tmps[60]?.getD undef = .int .i64 0 := hd ⟨7, .data⟩ (by simp) rfl
                    rw [if_pos (by rw [wanted_of rfl rfl eg]; rfl)]
                    clear hd ho hne eg
                    go_simp
                    exact hK _ _ rfl hG (fun j' v' _ hf => hf)
                  · intro l a W hs ho hG hd hne K' hK
                    have eg : a.tmps[59]?.getD undef = .bool false := hd ⟨6, .guard⟩ (by simp) rfl
                    have e8 : a.tmps[61]?.getD undef = .bool true := hd ⟨8, .data⟩ (by simp) rfl
                    rw [if_pos (by rw [wanted_of rfl rfl eg]; rfl)]
                    clear hd ho hne eg
                    go_simp
                    exact hK _ _ rfl hG (fun j' v' _ hf => hf)
                  · intro l a W hs ho hG hd hne K' hK
                    have eg : a.tmps[62]?.getD undef = .bool true := hd ⟨9, .guard⟩ (by simp) rfl
                    have b2 : a.tmps[2]?.getD undef = .pointer (some ⟨w.heap.size, 0, none⟩) := ho.ev 2 rfl
                    rw [if_pos (by rw [wanted_of rfl rfl eg]; rfl)]
                    clear hd ho hne eg
                    go_simp
                    exact hK _ _ rfl hG (fun j' v' _ hf => hf)
                  · intro l a W hs ho hG hd hne K' hK
                    have eg : a.tmps[62]?.getD undef = .bool true := hd ⟨9, .guard⟩ (by simp) rfl
                    have e10 : a.tmps[63]?.getD undef = .pointer (some ⟨w.heap.size, 0, none⟩) := hd ⟨10, .data⟩ (by simp) rfl
                    rw [if_pos (by rw [wanted_of rfl rfl eg]; rfl)]
                    have c0 := hG.cell b0
                    clear hd ho hne eg
                    go_simp
                    exact hK _ _ rfl hG (fun j' v' _ hf => hf)
                  · intro l a W hs ho hG hd hne K' hK
                    have eg : a.tmps[62]?.getD undef = .bool true := hd ⟨9, .guard⟩ (by simp) rfl
                    have e11 : a.tmps[64]?.getD undef = .int .i64 kd := hd ⟨11, .data⟩ (by simp) rfl
                    rw [if_pos (by rw [wanted_of rfl rfl eg]; rfl)]
                    clear hd ho hne eg
                    go_simp
                    exact hK _ _ rfl hG (fun j' v' _ hf => hf)
                  · intro l a W hs ho hG hd hne K' hK
                    have eg : a.tmps[62]?.getD undef = .bool true := hd ⟨9, .guard⟩ (by simp) rfl
                    have e12 : a.tmps[65]?.getD undef = .bool false := hd ⟨12, .data⟩ (by simp) rfl
                    rw [if_pos (by rw [wanted_of rfl rfl eg]; rfl)]
                    clear hd ho hne eg
                    go_simp
                    exact hK _ _ rfl hG (fun j' v' _ hf => hf)
                  · intro l a W hs ho hG hd hne K' hK
                    have eg : a.tmps[66]?.getD undef = .bool false := hd ⟨13, .guard⟩ (by simp) rfl
                    have b2 : a.tmps[2]?.getD undef = .pointer (some ⟨w.heap.size, 0, none⟩) := ho.ev 2 rfl
                    rw [if_pos (by rw [wanted_of rfl rfl eg]; rfl)]
                    clear hd ho hne eg
                    go_simp
                    exact hK _ _ rfl hG (fun j' v' _ hf => hf)
                  · intro l a W hs ho hG hd hne K' hK
                    have eg : a.tmps[66]?.getD undef = .bool false := hd ⟨13, .guard⟩ (by simp) rfl
                    have e14 : a.tmps[67]?.getD undef = .pointer (some ⟨w.heap.size, 0, none⟩) := hd ⟨14, .data⟩ (by simp) rfl
                    rw [if_pos (by rw [wanted_of rfl rfl eg]; rfl)]
                    have c0 := hG.cell b0
                    clear hd ho hne eg
                    go_simp
                    exact hK _ _ rfl hG (fun j' v' _ hf => hf)
                  · intro l a W hs ho hG hd hne K' hK
                    have eg : a.tmps[66]?.getD undef = .bool false := hd ⟨13, .guard⟩ (by simp) rfl
                    have e15 : a.tmps[68]?.getD undef = .int .i64 kd := hd ⟨15, .data⟩ (by simp) rfl
                    rw [if_pos (by rw [wanted_of rfl rfl eg]; rfl)]
                    clear hd ho hne eg
                    go_simp
                    exact hK _ _ rfl hG (fun j' v' _ hf => hf)
                  · intro l a W hs ho hG hd hne K' hK
                    have eg : a.tmps[62]?.getD undef = .bool true := hd ⟨9, .guard⟩ (by simp) rfl
                    have e13 : a.tmps[66]?.getD undef = .bool false := hd ⟨13, .data⟩ (by simp) rfl
                    have e16 : a.tmps[69]?.getD undef = .bool false := hd ⟨16, .data⟩ (by simp) rfl
                    rw [if_pos (by rw [wanted_of rfl rfl eg]; rfl)]
                    clear hd ho hne eg
                    go_simp
                    exact hK _ _ rfl hG (fun j' v' _ hf => hf)
                  · intro l a W hs ho hG hd hne K' hK
                    have eg : a.tmps[59]?.getD undef = .bool false := hd ⟨6, .guard⟩ (by simp) rfl
                    have e9 : a.tmps[62]?.getD undef = .bool true := hd ⟨9, .data⟩ (by simp) rfl
                    have e17 : a.tmps[70]?.getD undef = .bool false := hd ⟨17, .data⟩ (by simp) rfl
                    rw [if_pos (by rw [wanted_of rfl rfl eg]; rfl)]
                    clear hd ho hne eg
                    go_simp
                    exact hK _ _ rfl hG (fun j' v' _ hf => hf)
                  · intro l a W hs ho hG hd hne K' hK
                    have e6 : a.tmps[59]?.getD undef = .bool false := hd ⟨6, .data⟩ (by simp) rfl
                    have e18 : a.tmps[71]?.getD undef = .bool false := hd ⟨18, .data⟩ (by simp) rfl
                    clear hd ho hne
                    go_simp
                    exact hK _ _ rfl hG (fun j' v' _ hf => hf)
                  · intro l a W hs ho hG hd hne K' hK
                    have e4 : a.tmps[57]?.getD undef = .agg #[.int .i64 x0, .string x1, .int .i64 x2, .slice x3 x4 x5] := hd ⟨4, .data⟩ (by simp) rfl
                    have e19 : a.tmps[72]?.getD undef = .bool false := hd ⟨19, .data⟩ (by simp) rfl
                    clear hd ho hne
                    go_simp
                    go_at_call 106
                    (with_reducible refine (HRn W hG).mono ?_)
                    rintro e W2 ⟨rfl, hx4⟩
                    go_simp
                    exact hK _ _ rfl (hG.trans hx4) (fun j' v' _ hf => hf)
                · intro l a W ho hG hall hF K' hK
                  have e20 : a.tmps[73]?.getD undef = .bool fm := hF 20 (by omega)
                  obtain ⟨fr, hfr⟩ : ∃ fr : Tmp → Value, a = ([53, 54, 55, 56, 57, 58, 59, 60, 61, 62, 63, 64, 65, 66, 67, 68, 69, 70, 71, 72, 73] : List Tmp).foldl (fun b d => b.put (some d) (fr d)) _ := ⟨_, ho.puts⟩
                  have hfr0 := Lib.hid hfr
                  clear hfr ho hF hall
                  go_simp
                  refine hK _ _ ?_
                  rw [hfr0.out]
                  simp only [List.foldl]
                  clear hfr0 hK e20
                  go_wp2_with fail
                  go_simp
                  go_meet
                  exact ⟨rfl, rfl, hG⟩


            case rest =>
              obtain ⟨rfl, rfl, hxw⟩ := hcut
              clear b0 b3 q0 q1 q2 q3 HRn hnb
              cases fm with
              | true =>
                go_wp2_with fail
                go_roundw
                case rel => exact ⟨j + 1, hj0.out, by go_num, by rw [hS.out, hx0.out.2.2]; rfl, hx0.out.2.1.trans hxw⟩
                case measure => simp [intOf]; omega
              | false =>
                go_wp2
                go_ret
                exact ⟨by rw [hFr.out, hH.out (by first | rfl | trivial)]; rfl, hx0.out.1.trans hxw⟩
          · obtain rfl : j = K.length := by omega
            rw [List.take_length] at hyes
            have hx0 := Lib.hid (hXc.trans hx)
            clear HR hAt hx hXc
            go_wp2
            go_ret
            exact ⟨by rw [hFr.out, hyes]; rfl, hx0.out⟩

end Go.Proofs.Ytgjjngkmbplijaa

/- The document's trees in memory: the labels of their Ors (ref04.labels, Labels). -/
namespace Go.Proofs.Ytgjjngkmbplijaa
open Go.RowKit
set_option linter.unusedSimpArgs false
set_option linter.unusedVariables false

theorem HT.labels_eq (h : HT) : h.tr.labels = (if h.kd = 5 then [h.s] else []) ++ Tr.labelsL (h.k.map HT.tr) := by
  rw [HT.tr_eq, Tr.labels]
theorem labelsL_at {l : List Tr} {i : Nat} {x : Tr} (h : l[i]? = some x) : x.labels.length ≤ (Tr.labelsL l).length := by
  induction l generalizing i with
  | nil => simp at h
  | cons y r ih =>
    cases i with
    | zero => simp at h; subst h; simp [Tr.labelsL]
    | succ i => have := ih (by simpa using h); simp only [Tr.labelsL, List.length_append]; omega
theorem labelsL_take_len (l : List Tr) (i : Nat) : (Tr.labelsL (l.take i)).length ≤ (Tr.labelsL l).length := by
  induction l generalizing i with
  | nil => simp
  | cons x r ih =>
    cases i with
    | zero => simp [Tr.labelsL]
    | succ i => have := ih i; simp only [List.take_succ_cons, Tr.labelsL, List.length_append]; omega

set_option maxRecDepth 100000 in
set_option maxHeartbeats 3200000 in
theorem rlabels_calls (k : Nat) : ∀ (h : HT) (q : Nat → Prop) (w : World), SizeOf.sizeOf h < k → h.In q w → h.tr.labels.length ≤ 2 ^ 33 → Calls Try.prog 107 #[h.val] w fun e w' => RetOwn w 9 1 h.tr.labels.length (strVals h.tr.labels) e w' := by
  induction k with
  | zero => intro h q w hk; omega
  | succ k ih =>
    intro h q w hk hin hn
    have hN := h.labels_eq
    have hcap := hin.cap
    have hAt := fun (i : Nat) (hi : i < h.k.length) => hin.at hi
    have hLl : (Tr.labelsL (h.k.map HT.tr)).length ≤ 2 ^ 33 := by rw [hN, List.length_append] at hn; omega
    have HR := fun (x : HT) (i : Nat) (hx : h.k[i]? = some x) (W : World) (hxi : x.In q W) => ih x q W (by have := HT.size_k hx; omega) hxi (by
      have := labelsL_at (l := h.k.map HT.tr) (i := i) (x := x.tr) (by rw [List.getElem?_map, hx]; rfl)
      omega)
    have hLt := Lib.hid (fun i => Nat.le_trans (labelsL_take_len (h.k.map HT.tr) i) hLl)
    have hc1 := hcap.1
    have hc2 := hcap.2
    unfold maxLen at hc2
    unfold HT.val at *
    clear ih hk hin hn hcap hLl
    generalize h.kd = kd at *
    generalize h.s = ss at *
    generalize h.n = hn at *
    generalize h.a = ha at *
    generalize h.c = hc at *
    generalize h.tr.labels = R at *
    generalize h.k = K at *
    have hN := Lib.hid hN
    have hX : Ext w (w.alloc (.cells #[.int .i64 kd, .string ss, .int .i64 hn, .slice ha K.length hc] 76)) := (Ext.refl w).alloc _
    have b0 : (w.alloc (.cells #[.int .i64 kd, .string ss, .int .i64 hn, .slice ha K.length hc] 76)).cell? ⟨w.heap.size, 0, none⟩ = some (.int .i64 kd) := by rw [World.cell?_alloc_new]; rfl
    have b1 : (w.alloc (.cells #[.int .i64 kd, .string ss, .int .i64 hn, .slice ha K.length hc] 76)).cell? ⟨w.heap.size, 1, none⟩ = some (.string ss) := by rw [World.cell?_alloc_new]; rfl
    have b3 : (w.alloc (.cells #[.int .i64 kd, .string ss, .int .i64 hn, .slice ha K.length hc] 76)).cell? ⟨w.heap.size, 3, none⟩ = some (.slice ha K.length hc) := by rw [World.cell?_alloc_new]; rfl
    have hsz : (w.alloc (.cells #[.int .i64 kd, .string ss, .int .i64 hn, .slice ha K.length hc] 76)).heap.size = w.heap.size + 1 := by simp
    obtain ⟨own, hown0, hol⟩ : ∃ own : List ByteArray, (if kd = 5 then [ss] else []) = own ∧ own.length ≤ 1 := ⟨_, rfl, by split <;> simp⟩
    rw [hown0] at hN
    go_enter Try.func107, Try.ntmps107
    go_upto_if 7 with fail
    generalize (w.alloc (.cells #[.int .i64 kd, .string ss, .int .i64 hn, .slice ha K.length hc] 76)) = X at *
    have HZ := Lib.hid hsz
    clear hsz
    go_cut [3] from 5 to 12 (fun v wx => ∃ A C, v = .slice A own.length C ∧ wx.ownsRow (w.heap.size + 1) 9 1 (.slice A own.length C) own.length (strVals own) ∧ Ext X wx)
    case first =>
      clear HR hAt
      by_cases h5 : kd = 5
      · subst h5
        rw [if_pos rfl] at hown0
        subst hown0
        go_wp2_with (at_builtin; refine wpList_app elemStr rfl _ _ rfl (w.heap.size + 1) (.slice none 0 0) 0 [] rfl (World.ownsRow_nil _ _ _ _) _ 1 1 [.string ss] rfl (Rd.new _ #[.string ss] _ 1 1 rfl) (by simp [Value.oneCell']) (by unfold maxLen; omega) (by omega) (by have := HZ.out; simp; omega) ?_; intro v1 w1 hown1 hg1 hat1)
        have hE1 : Ext X w1 := ((Ext.refl X).alloc _).grown hg1 (fun k hk => by simp [Value.ownBlock] at hk)
        simp only [Nat.zero_add, List.nil_append] at hown1
        obtain ⟨A6, C6, rfl, h6, h7⟩ := own_form hown1
        have hq := Lib.hid (And.intro hown1 hE1)
        clear hown1 hg1 hat1 hE1
        go_wp2_with fail
        go_meet
        exact ⟨A6, C6, rfl, hq.out.1, hq.out.2⟩
      · rw [if_neg h5] at hown0
        subst hown0
        have h5' : (kd == 5) = false := beq_eq_false_iff_ne.2 h5
        go_wp2_with fail
        go_meet
        exact ⟨none, 0, rfl, World.ownsRow_nil _ _ _ _, Ext.refl _⟩
    case rest =>
      obtain ⟨A, C, rfl, hown, hxc⟩ := hcut
      have b3c := hxc.cell b3
      have hq := Lib.hid (And.intro hown hxc)
      clear hown hown0 b0 b1
      go_wp2_with fail
      go_loopw [16, 3] (fun i out wr => ∃ (j : Nat) (A1 : Option Addr) (C1 : Nat) (L : List ByteArray), j ≤ K.length ∧ i = .int .i64 j ∧ out = .slice A1 L.length C1 ∧ L = own ++ Tr.labelsL ((K.take j).map HT.tr) ∧ wr.ownsRow (w.heap.size + 1) 9 1 (.slice A1 L.length C1) L.length (strVals L) ∧ Ext X wr) (fun i _ _ => K.length - (intOf i).toNat)
      case atStart => exact ⟨0, A, C, own, by omega, rfl, rfl, by simp [Tr.labelsL], hq.out⟩
      case round =>
        obtain ⟨j, A1, C1, L, hj, rfl, rfl, hL, hown, hx⟩ := hrel
        clear hxc b3c
        by_cases hlt : j < K.length
        · obtain ⟨g, x, e1, hgq, e2, hxi, q0, q1, q2, q3⟩ := hAt j hlt
          subst e1
          have c3 := hx.cell b3
          replace q0 := (hX.trans hx).cell q0
          replace q1 := (hX.trans hx).cell q1
          replace q2 := (hX.trans hx).cell q2
          replace q3 := (hX.trans hx).cell q3
          have HRk := HR x j e2 wr (hxi.ext (hX.trans hx))
          have hb := hLt.out (j + 1)
          have hS : own ++ Tr.labelsL ((K.take (j + 1)).map HT.tr) = L ++ x.tr.labels := by rw [map_take_snoc e2, labelsL_snoc, hL, List.append_assoc]
          have hb0 : L.length + x.tr.labels.length ≤ 2 ^ 34 := by
            have h1 := congrArg List.length hS
            simp only [List.length_append] at h1
            rw [List.map_take] at h1
            omega
          have hS := Lib.hid hS
          have hj0 := Lib.hid (show j + 1 ≤ K.length from hlt)
          have hr1 := Lib.hid (And.intro hown hx)
          clear HR hAt e2 hxi hx hb hL hLt hgq hown
          generalize x.tr.labels = N at *
          generalize x.kd = x0 at *
          generalize x.s = x1 at *
          generalize x.n = x2 at *
          generalize x.a = x3 at *
          generalize x.k.length = x4 at *
          generalize x.c = x5 at *
          (go_wp2_with fail; (with_reducible refine (HRk).mono ?_); rintro e w' ⟨nv, rfl, hno, hx4⟩)
          obtain ⟨A2, C2, rfl, hn1, hn2⟩ := own_form hno
          have hrd := Rd.of_own hno
          have hown := hx4.own hr1.out.1
          have hXw := hr1.out.2.trans hx4
          have hle : w.heap.size + 1 ≤ w'.heap.size := by have := hXw.le; have := HZ.out; omega
          have h63 : L.length + N.length ≤ maxLen := by unfold maxLen; omega
          have hby : (L.length + N.length) * 16 ≤ 140737488355328 := by omega
          clear hno HRk q0 q1 q2 q3
          go_wp2_with (at_builtin; refine wpList_app elemStr rfl _ _ rfl (w.heap.size + 1) (.slice A1 L.length C1) L.length (strVals L) rfl hown A2 N.length C2 (strVals N) rfl hrd (strVals_one N) h63 hby hle ?_; intro v1 w1 hown1 hg1 hat1)
          have hE6 := Lib.hid (hXw.grown hg1 (fun k hk => by have := (hown.lt k hk).1; have := HZ.out; omega))
          obtain ⟨A6, C6, rfl, h6, h7⟩ := own_form hown1
          have e7 := Lib.hid (show (L ++ N).length = L.length + N.length by simp)
          have hown6 := Lib.hid hown1
          clear hown1 hg1 hat1 h63 hby hown
          go_wp2_with fail
          go_roundw
          case rel => exact ⟨j + 1, A6, C6, L ++ N, hj0.out, by go_num, by rw [e7.out], hS.out.symm, by rw [e7.out, strVals_app]; exact hown6.out, hE6.out⟩
          case measure => simp [intOf]; omega
        · obtain rfl : j = K.length := by omega
          rw [List.take_length, ← hN.out] at hL
          subst hL
          have hr1 := Lib.hid (And.intro hown hx)
          clear HR hAt hown
          go_wp2
          apply bodyPost_ret
          · exact results_tmp rfl _ _ _
          · rfl
          exact ⟨_, rfl, own_mono hr1.out.1 (by omega), hX.trans hr1.out.2⟩

set_option maxRecDepth 100000 in
set_option maxHeartbeats 400000 in
theorem rLabels_calls (h : HT) (q : Nat → Prop) (w : World) (hin : h.In q w) (hn : h.tr.labels.length ≤ 2 ^ 33) : Calls Try.prog 80 #[h.val] w fun e w' => RetOwn w 9 1 h.tr.labels.length (strVals h.tr.labels) e w' := by
  have H := fun W (hW : Ext w W) => rlabels_calls _ h q W (Nat.lt_succ_self _) (hin.ext hW) hn
  unfold HT.val at *
  clear hin hn
  generalize h.tr.labels = R at *
  go_enter Try.func80, Try.ntmps80
  (go_wp2_with fail; (with_reducible refine (H _ ((by repeat' (first | (with_reducible exact Ext.refl _) | (with_reducible assumption) | (with_reducible refine Ext.alloc ?_ _) | (with_reducible refine Ext.drew ?_) | (with_reducible refine Ext.drewN ?_ _) | (with_reducible refine Ext.setCell ?_ (by first | exact Nat.le_refl _ | (simp; done) | (simp; omega) | omega) _) | (with_reducible refine Ext.trans ?_ (by assumption)))))).mono ?_); rintro e w' ⟨nv, rfl, hno, hx4⟩)
  obtain ⟨A2, C2, rfl, hn1, hn2⟩ := own_form hno
  have hno2 := own_mono hno (show w.heap.size ≤ _ by simp)
  clear hno
  go_wp2
  apply bodyPost_ret
  · exact results_tmp rfl _ _ _
  · rfl
  exact ⟨_, rfl, hno2, (by repeat' (first | (with_reducible exact Ext.refl _) | (with_reducible assumption) | (with_reducible refine Ext.alloc ?_ _) | (with_reducible refine Ext.drew ?_) | (with_reducible refine Ext.drewN ?_ _) | (with_reducible refine Ext.setCell ?_ (by first | exact Nat.le_refl _ | (simp; done) | (simp; omega) | omega) _) | (with_reducible refine Ext.trans ?_ (by assumption))))⟩

end Go.Proofs.Ytgjjngkmbplijaa

/- The document's trees in memory: may they be (ref04.Check). -/
namespace Go.Proofs.Ytgjjngkmbplijaa
open Go.RowKit
set_option linter.unusedSimpArgs false
set_option linter.unusedVariables false

theorem Tr.check_no {t : Tr} {num : Bool} (h : t.form num = false) : t.check num = 2 := by unfold Tr.check; rw [h]; rfl
theorem Tr.check_lim {t : Tr} {num : Bool} (h : t.form num = true) (h2 : 60 < t.nodes ∨ 12 < t.depth) : t.check num = 5 := by unfold Tr.check; rw [if_pos h, if_pos h2]
theorem Tr.check_tw {t : Tr} {num : Bool} (h : t.form num = true) (h2 : t.nodes ≤ 60) (h3 : t.depth ≤ 12) (h4 : twice t.labels = true) : t.check num = 4 := by unfold Tr.check; rw [if_pos h, if_neg (by omega), if_pos h4]
theorem Tr.check_ok {t : Tr} {num : Bool} (h : t.form num = true) (h2 : t.nodes ≤ 60) (h3 : t.depth ≤ 12) (h4 : twice t.labels = false) : t.check num = 0 := by unfold Tr.check; rw [if_pos h, if_neg (by omega), if_neg (by rw [h4]; decide)]
theorem text_two (x s : ByteArray) : x = s ∨ ((x.toList == s.toList) = false ∧ (s == x) = false) := by
  by_cases h : x = s
  · exact .inl h
  · exact .inr ⟨by rw [bytes_beq]; exact beq_eq_false_iff_ne.2 h, beq_eq_false_iff_ne.2 (fun e => h e.symm)⟩
theorem any_at {l : List ByteArray} {p : ByteArray → Bool} {i k : Nat} {x : ByteArray} (hk : k < i) (h : l[k]? = some x) (hp : p x = true) : (l.take i).any p = true := by
  rw [List.any_eq_true]
  exact ⟨x, List.mem_of_getElem? (i := k) (by rw [List.getElem?_take, if_pos hk]; exact h), hp⟩

set_option maxRecDepth 100000 in
set_option maxHeartbeats 3200000 in
theorem rcheck_calls (h : HT) (q : Nat → Prop) (w : World) (num : Bool) (hin : h.In q w) (hsh : h.tr.short) (hn : h.tr.nodes ≤ 2 ^ 40) (hl : h.tr.labels.length ≤ 2 ^ 33) : Calls Try.prog 58 #[h.val, .bool num] w fun e w' => e = .returned (.int .i64 (h.tr.check num)) ∧ Ext w w' := by
  have H1 := fun W (hW : Ext w W) => rform_calls _ h q W num (Nat.lt_succ_self _) (hin.ext hW) hsh
  have H2 := fun W (hW : Ext w W) => rsize_calls _ h q W (Nat.lt_succ_self _) (hin.ext hW) hn
  have H3 := fun W (hW : Ext w W) => rlabels_calls _ h q W (Nat.lt_succ_self _) (hin.ext hW) hl
  have hdn := h.tr.depth_le
  have C1 := Lib.hid (fun (e : h.tr.form num = false) => Tr.check_no e)
  have C2 := Lib.hid (fun (e : h.tr.form num = true) h2 => Tr.check_lim (num := num) e h2)
  have C3 := Lib.hid (fun (e : h.tr.form num = true) h2 h3 h4 => Tr.check_tw (num := num) e h2 h3 h4)
  have C4 := Lib.hid (fun (e : h.tr.form num = true) h2 h3 h4 => Tr.check_ok (num := num) e h2 h3 h4)
  clear hin hsh
  unfold HT.val at *
  generalize h.kd = kd at *
  generalize h.s = ss at *
  generalize h.n = hnn at *
  generalize h.a = ha at *
  generalize h.c = hc at *
  generalize h.k = K at *
  generalize h.tr.check num = R at *
  generalize h.tr.nodes = nn at *
  generalize h.tr.depth = dd at *
  generalize h.tr.labels = L at *
  generalize h.tr.form num = fm at *
  have boxed : ∀ w5 : World, Ext (w.alloc (.cells #[.int .i64 kd, .string ss, .int .i64 hnn, .slice ha K.length hc] 76)) w5 → w5.cell? ⟨w.heap.size, 0, none⟩ = some (.int .i64 kd) ∧ w5.cell? ⟨w.heap.size, 1, none⟩ = some (.string ss) ∧ w5.cell? ⟨w.heap.size, 2, none⟩ = some (.int .i64 hnn) ∧ w5.cell? ⟨w.heap.size, 3, none⟩ = some (.slice ha K.length hc) := fun w5 hx =>
    ⟨hx.cell (by rw [World.cell?_alloc_new]; rfl), hx.cell (by rw [World.cell?_alloc_new]; rfl), hx.cell (by rw [World.cell?_alloc_new]; rfl), hx.cell (by rw [World.cell?_alloc_new]; rfl)⟩
  have boxed := Lib.hid boxed
  cases fm with
  | false =>
    have hR := Lib.hid (C1.out rfl)
    clear C1 C2 C3 C4 H2 H3
    go_enter Try.func58, Try.ntmps58
    (go_wp2_with fail; (with_reducible refine (H1 _ ((by repeat' (first | (with_reducible exact Ext.refl _) | (with_reducible assumption) | (with_reducible refine Ext.alloc ?_ _) | (with_reducible refine Ext.drew ?_) | (with_reducible refine Ext.drewN ?_ _) | (with_reducible refine Ext.setCell ?_ (by first | exact Nat.le_refl _ | (simp; done) | (simp; omega) | omega) _) | (with_reducible refine Ext.trans ?_ (by assumption)))))).mono ?_); rintro e w' ⟨rfl, hx⟩)
    go_wp2
    go_ret
    exact ⟨by rw [hR.out]; rfl, (by repeat' (first | (with_reducible exact Ext.refl _) | (with_reducible assumption) | (with_reducible refine Ext.alloc ?_ _) | (with_reducible refine Ext.drew ?_) | (with_reducible refine Ext.drewN ?_ _) | (with_reducible refine Ext.setCell ?_ (by first | exact Nat.le_refl _ | (simp; done) | (simp; omega) | omega) _) | (with_reducible refine Ext.trans ?_ (by assumption))))⟩
  | true =>
    go_enter Try.func58, Try.ntmps58
    (go_wp2_with fail; (with_reducible refine (H1 _ ((by repeat' (first | (with_reducible exact Ext.refl _) | (with_reducible assumption) | (with_reducible refine Ext.alloc ?_ _) | (with_reducible refine Ext.drew ?_) | (with_reducible refine Ext.drewN ?_ _) | (with_reducible refine Ext.setCell ?_ (by first | exact Nat.le_refl _ | (simp; done) | (simp; omega) | omega) _) | (with_reducible refine Ext.trans ?_ (by assumption)))))).mono ?_); rintro e w' ⟨rfl, hx⟩)
    obtain ⟨c0, c1, c2, c3⟩ := boxed.out _ hx
    (go_wp2_with fail; (with_reducible refine (H2 _ ((by repeat' (first | (with_reducible exact Ext.refl _) | (with_reducible assumption) | (with_reducible refine Ext.alloc ?_ _) | (with_reducible refine Ext.drew ?_) | (with_reducible refine Ext.drewN ?_ _) | (with_reducible refine Ext.setCell ?_ (by first | exact Nat.le_refl _ | (simp; done) | (simp; omega) | omega) _) | (with_reducible refine Ext.trans ?_ (by assumption)))))).mono ?_); rintro e w2 ⟨rfl, hx2⟩)
    have hxx := hx.trans hx2
    clear hx hx2 c0 c1 c2 c3 H1 H2
    by_cases h60 : nn ≤ 60
    case neg =>
      have hR := Lib.hid (C2.out trivial (.inl (by omega)))
      have h60' : (60 : Int) < (nn : Int) := by omega
      clear C1 C2 C3 C4 H3
      go_wp2
      go_ret
      exact ⟨by rw [hR.out]; rfl, (by repeat' (first | (with_reducible exact Ext.refl _) | (with_reducible assumption) | (with_reducible refine Ext.alloc ?_ _) | (with_reducible refine Ext.drew ?_) | (with_reducible refine Ext.drewN ?_ _) | (with_reducible refine Ext.setCell ?_ (by first | exact Nat.le_refl _ | (simp; done) | (simp; omega) | omega) _) | (with_reducible refine Ext.trans ?_ (by assumption))))⟩
    by_cases h12 : dd ≤ 12
    case neg =>
      have hR := Lib.hid (C2.out trivial (.inr (by omega)))
      have h60' : (nn : Int) ≤ 60 := by omega
      have h12' : (12 : Int) < (dd : Int) := by omega
      clear C1 C2 C3 C4 H3
      go_wp2
      go_ret
      exact ⟨by rw [hR.out]; rfl, (by repeat' (first | (with_reducible exact Ext.refl _) | (with_reducible assumption) | (with_reducible refine Ext.alloc ?_ _) | (with_reducible refine Ext.drew ?_) | (with_reducible refine Ext.drewN ?_ _) | (with_reducible refine Ext.setCell ?_ (by first | exact Nat.le_refl _ | (simp; done) | (simp; omega) | omega) _) | (with_reducible refine Ext.trans ?_ (by assumption))))⟩
    have h60' : (nn : Int) ≤ 60 := by omega
    have h12' : (dd : Int) ≤ 12 := by omega
    have C3 := Lib.hid (C3.out trivial h60 h12)
    have C4 := Lib.hid (C4.out trivial h60 h12)
    obtain ⟨c0, c1, c2, c3⟩ := boxed.out _ hxx
    (go_wp2_with fail; (with_reducible refine (H3 _ ((by repeat' (first | (with_reducible exact Ext.refl _) | (with_reducible assumption) | (with_reducible refine Ext.alloc ?_ _) | (with_reducible refine Ext.drew ?_) | (with_reducible refine Ext.drewN ?_ _) | (with_reducible refine Ext.setCell ?_ (by first | exact Nat.le_refl _ | (simp; done) | (simp; omega) | omega) _) | (with_reducible refine Ext.trans ?_ (by assumption)))))).mono ?_); rintro e w3 ⟨nv, rfl, hno, hx3⟩)
    obtain ⟨A, C, rfl, hn1, hn2⟩ := own_form hno
    unfold maxLen at hn2
    have hE := Lib.hid (show Ext w w3 from ((by repeat' (first | (with_reducible exact Ext.refl _) | (with_reducible assumption) | (with_reducible refine Ext.alloc ?_ _) | (with_reducible refine Ext.drew ?_) | (with_reducible refine Ext.drewN ?_ _) | (with_reducible refine Ext.setCell ?_ (by first | exact Nat.le_refl _ | (simp; done) | (simp; omega) | omega) _) | (with_reducible refine Ext.trans ?_ (by assumption))))))
    have hrd := Lib.hid (Rd.of_own hno)
    clear hno hxx hx3 c0 c1 c2 c3 H3 C1 C2 boxed
    go_wp2_with fail
    go_loopw [29] (fun i wr => ∃ j : Nat, j ≤ L.length ∧ i = .int .i64 j ∧ (∀ a s, a < j → L[a]? = some s → ((L.take a).any fun x => s == x) = false) ∧ Ext w wr ∧ Rd wr 1 A L.length (strVals L)) (fun i _ => L.length - (intOf i).toNat)
    case atStart => exact ⟨0, by omega, rfl, fun a s h => by omega, hE.out, hrd.out⟩
    case round =>
      obtain ⟨j, hj, rfl, hno, hx, hr⟩ := hrel
      by_cases hlt : j < L.length
      · obtain ⟨y, e2, hv2⟩ := strVals_at hlt
        have hj0 := Lib.hid (show j + 1 ≤ L.length from hlt)
        have hxr := Lib.hid (And.intro hx hr)
        have hno0 := Lib.hid hno
        clear hx hr hno
        go_wp2_with fail
        go_loopw [9] (fun i wr => ∃ q : Nat, q ≤ j ∧ i = .int .i64 q ∧ ((L.take q).any fun x => y == x) = false ∧ Ext w wr ∧ Rd wr 1 A L.length (strVals L)) (fun i _ => j - (intOf i).toNat)
        case atStart => exact ⟨0, by omega, rfl, rfl, hxr.out⟩
        case round =>
          obtain ⟨q, hq, rfl, hnq, hx, hr⟩ := hrel
          by_cases hlt2 : q < j
          · have hqn : q < L.length := by omega
            obtain ⟨x, e1, hv1⟩ := strVals_at hqn
            obtain ⟨ad1, u1, ea, hu1, hc1⟩ := hr.at1 hqn
            subst ea
            obtain ⟨ad2, u2, ea2, hu2, hc2⟩ := hr.at1 hlt
            injection ea2 with ea2
            subst ea2
            obtain rfl : Value.string x = u1 := by rw [hv1] at hu1; injection hu1
            obtain rfl : Value.string y = u2 := by rw [hv2] at hu2; injection hu2
            have hrx := Lib.hid (And.intro hx hr)
            have hq0 := Lib.hid (show q + 1 ≤ j from hlt2)
            have hi1 : (q : Int) < (L.length : Int) := by omega
            have hi2 : (j : Int) < (L.length : Int) := by omega
            have hi3 : (0 : Int) ≤ (q : Int) := by omega
            have hi4 : (0 : Int) ≤ (j : Int) := by omega
            have hs := any_take_succ (p := fun x => y == x) e1
            rw [hnq] at hs
            rcases text_two y x with rfl | ⟨t1, t2⟩
            · have hR := Lib.hid (C3.out (twice_hit e2 (any_at hlt2 e1 (by simp))))
              clear hx hr hv1 hu1 hv2 hu2 e1 hs hnq
              go_wp2_with fail
              go_quiet (fail)
              go_wp2
              go_ret
              exact ⟨by rw [hR.out]; rfl, hrx.out.1.drewN _⟩
            · have hs := Lib.hid (show ((L.take (q + 1)).any fun x => y == x) = false by rw [hs]; simp; intro e; subst e; simp at t2)
              clear hx hr hv1 hu1 hv2 hu2 e1 hnq t2
              go_wp2_with fail
              go_quiet (fail)
              go_wp2_with fail
              go_roundw
              case rel => exact ⟨q + 1, hq0.out, by go_num, hs.out, hrx.out.1.drewN _, hrx.out.2.ext ((Ext.refl _).drewN _)⟩
              case measure => simp [intOf]; omega
          · obtain rfl : q = j := by omega
            have hrx := Lib.hid (And.intro hx hr)
            have hnn := Lib.hid (show ∀ a s, a < q + 1 → L[a]? = some s → ((L.take a).any fun x => s == x) = false from fun a s ha hs => by
              by_cases haq : a < q
              · exact hno0.out a s haq hs
              · obtain rfl : a = q := by omega
                rw [e2] at hs
                injection hs with hs
                subst hs
                exact hnq)
            clear hx hr e2 hv2 hnq
            go_wp2_with fail
            go_roundw
            case rel => exact ⟨q + 1, hj0.out, by go_num, hnn.out, hrx.out⟩
            case measure => simp [intOf]; omega
      · obtain rfl : j = L.length := by omega
        have hR := Lib.hid (C4.out (twice_no (fun i s h => hno i s (List.getElem?_eq_some_iff.1 h).1 h)))
        have hx0 := Lib.hid hx
        clear hr hno hx
        go_wp2
        go_ret
        exact ⟨by rw [hR.out]; rfl, hx0.out⟩

end Go.Proofs.Ytgjjngkmbplijaa

/- Package play: the right contract of a plan. -/
namespace Go.Proofs.Ytgjjngkmbplijaa
open Go.RowKit
set_option linter.unusedSimpArgs false
set_option linter.unusedVariables false

theorem Te.tr_form (t : Te) : t.tr.form false = t.formed := by
  induction t <;> simp [Te.tr, Tr.form, Tr.formL, Tr.selfOk, Tr.numFirst, Te.formed, Ob.tr_form, dayB, *]
theorem Te.tr_check (t : Te) : t.tr.check false = t.checked := by
  unfold Tr.check Te.checked
  rw [Te.tr_form, Te.tr_nodes, Te.tr_depth, Te.tr_labels]
theorem Te.form_cl {o : Te} (h : o.clean) : ∃ t x, o.val = .iface t x := by
  cases o with
  | odd v => exact h.elim
  | _ => exact ⟨_, _, rfl⟩
def usd1 : ByteArray := ⟨#[117, 115, 100]⟩
/-- The right contract of a plan, as a tree. -/
def rightT (p : Pl) : Tr := if (conT p).check false = 0 then conT p else .mk 2 ⟨#[117, 115, 100]⟩ 0 []
theorem rightT_ok (p : Pl) : ∃ o, TeOk (rightT p) 5 o ∧ o.checked = 0 := by
  unfold rightT
  by_cases h : (conT p).check false = 0
  · rw [if_pos h]
    obtain ⟨o, ho⟩ := conT_ok p
    refine ⟨o, ho, ?_⟩
    rw [← o.tr_check, ho.tr]; exact h
  · rw [if_neg h]
    refine ⟨.one ⟨#[117, 115, 100]⟩, ⟨.one _ _ _, ?_, trivial, rfl, by simp only [Te.nodes]; omega, by simp only [Te.depth]; omega⟩, by decide +kernel⟩
    show ByteArray.size _ ≤ 1000
    decide

set_option maxRecDepth 100000 in
set_option maxHeartbeats 3200000 in
theorem right_tree (p : Pl) (w : World) (hp : p.In (· < w.heap.size) w) : Calls Try.prog 67 #[p.val] w fun e w' => RetH w (rightT p) e w' := by
  have hx : Ext w ((w.alloc (.cells #[.slice p.a p.n p.c, .slice p.a2 p.n2 p.c2] 72)).alloc fourZ) := ((Ext.refl w).alloc _).alloc _
  obtain ⟨o, ho⟩ := conT_ok p
  have hcon := contract_calls p _ ((hp.ext hx).weak (fun y hy => Nat.lt_of_lt_of_le hy hx.le))
  have hno : o.nodes ≤ 1000 := by have := ho.nodes; omega
  have hlb : o.labels.length ≤ 1000 := Nat.le_trans o.labels_len hno
  have hck := fun (h : HT) (q : Nat → Prop) (W : World) (e : h.tr = conT p) (hin : h.In q W) => show Calls Try.prog 58 #[h.val, .bool false] W fun e w' => e = .returned (.int .i64 ((conT p).check false)) ∧ Ext W w' by
    have := rcheck_calls h q W false hin (by rw [e, ← ho.tr]; exact Te.tr_short ho.wf) (by rw [e, ← ho.tr, Te.tr_nodes]; omega) (by rw [e, ← ho.tr, Te.tr_labels]; omega)
    rwa [e] at this
  have hs : ((w.alloc (.cells #[.slice p.a p.n p.c, .slice p.a2 p.n2 p.c2] 72)).alloc fourZ).heap.size = w.heap.size + 1 + 1 := by simp
  have hF : Four ((w.alloc (.cells #[.slice p.a p.n p.c, .slice p.a2 p.n2 p.c2] 72)).alloc fourZ) (w.heap.size + 1) := ⟨_, _, _, _, by
    have h := heap_alloc_new (w.alloc (.cells #[.slice p.a p.n p.c, .slice p.a2 p.n2 p.c2] 72)) fourZ
    have e : (w.alloc (.cells #[.slice p.a p.n p.c, .slice p.a2 p.n2 p.c2] 72)).heap.size = w.heap.size + 1 := by simp
    rwa [e] at h⟩
  have HH := Lib.hid (And.intro hF (And.intro hx hs))
  have hR := Lib.hid (show rightT p = if (conT p).check false = 0 then conT p else .mk 2 ⟨#[117, 115, 100]⟩ 0 [] from rfl)
  generalize rightT p = R at *
  generalize (conT p).check false = ck at *
  clear hp hx ho hno hlb hF hs
  unfold Pl.val at *
  generalize conT p = T at *
  go_enter Try.func67, Try.ntmps67
  (go_wp2_with fail; (with_reducible refine (hcon).mono ?_); rintro e w' ⟨t, rfl, ht, hin, hx3⟩)
  have hle := hx3.le
  rw [HH.out.2.2] at hle
  have hF3 := HH.out.1.ext hx3
  have hE3 := HH.out.2.1.trans hx3
  have hin3 := hin.weak (q' := fun x => w.heap.size ≤ x ∧ x ≠ w.heap.size + 1) (fun y hy => by rw [HH.out.2.2] at hy; omega)
  have hck1 := fun W (hW : Ext w' W) => hck t _ W ht (hin.ext hW)
  have HE := Lib.hid (And.intro hF3 (And.intro hE3 (And.intro hin3 ht)))
  clear hcon hck hin hin3 ht hF3 hE3 hx3
  unfold HT.val at *
  (go_wp2_with fail; (with_reducible refine (hck1 _ ((by repeat' (first | (with_reducible exact Ext.refl _) | (with_reducible assumption) | (with_reducible refine Ext.alloc ?_ _) | (with_reducible refine Ext.drew ?_) | (with_reducible refine Ext.drewN ?_ _) | (with_reducible refine Ext.setCell ?_ (by first | exact Nat.le_refl _ | (simp; done) | (simp; omega) | omega) _) | (with_reducible refine Ext.trans ?_ (by assumption)))))).mono ?_); rintro e w4 ⟨rfl, hx4⟩)
  clear hck1
  have c0 : w4.cell? ⟨w'.heap.size, 0, none⟩ = some (.int .i64 t.kd) := hx4.cell (by rw [World.cell?_alloc_new]; rfl)
  have c1 : w4.cell? ⟨w'.heap.size, 1, none⟩ = some (.string t.s) := hx4.cell (by rw [World.cell?_alloc_new]; rfl)
  have c2 : w4.cell? ⟨w'.heap.size, 2, none⟩ = some (.int .i64 t.n) := hx4.cell (by rw [World.cell?_alloc_new]; rfl)
  have c3 : w4.cell? ⟨w'.heap.size, 3, none⟩ = some (.slice t.a t.k.length t.c) := hx4.cell (by rw [World.cell?_alloc_new]; rfl)
  have hE4 : Ext w' w4 := ((by repeat' (first | (with_reducible exact Ext.refl _) | (with_reducible assumption) | (with_reducible refine Ext.alloc ?_ _) | (with_reducible refine Ext.drew ?_) | (with_reducible refine Ext.drewN ?_ _) | (with_reducible refine Ext.setCell ?_ (by first | exact Nat.le_refl _ | (simp; done) | (simp; omega) | omega) _) | (with_reducible refine Ext.trans ?_ (by assumption)))))
  have hF4 := HE.out.1.ext hE4
  have hX4 := HE.out.2.1.trans hE4
  have hI4 := HE.out.2.2.1.ext hE4
  obtain ⟨⟨y0, d0⟩, ⟨y1, d1⟩, ⟨y2, d2⟩, ⟨y3, d3⟩, hfz⟩ := hF4.cells
  have HQ := Lib.hid (And.intro hF4 (And.intro hX4 (And.intro hI4 HE.out.2.2.2)))
  clear hE4 hF4 hX4 hI4 hx4 HE HH
  by_cases hck0 : ck = 0
  · subst hck0
    have hR := Lib.hid (show R = T by rw [hR.out, if_pos rfl])
    go_wp2
    apply bodyPost_ret (v := t.val)
    · exact put4_at HQ.out.1 t _ 0 _ 2 rfl rfl
    · rfl
    exact ⟨t, rfl, by rw [hR.out]; exact HQ.out.2.2.2, ((HQ.out.2.2.1.grown (fun y hy => hy.2) (put4_grown _ _ _ _ _ _)).weak (fun y hy => hy.1)), put4_ext HQ.out.2.1 (by omega) _ _ _ _⟩
  · have hR := Lib.hid (show R = .mk 2 ⟨#[117, 115, 100]⟩ 0 [] by rw [hR.out, if_neg hck0])
    have hne : (ck != 0) = true := by simpa using hck0
    go_wp2
    apply bodyPost_ret (v := (HT.mk 2 ⟨#[117, 115, 100]⟩ 0 none 0 []).val)
    · exact put4_at HQ.out.1 (HT.mk 2 ⟨#[117, 115, 100]⟩ 0 none 0 []) _ 0 _ 2 rfl rfl
    · rfl
    exact ⟨_, rfl, by rw [hR.out, HT.tr_eq]; rfl, HT.leaf_in _ _ _ _ _, put4_ext HQ.out.2.1 (by omega) _ _ _ _⟩

end Go.Proofs.Ytgjjngkmbplijaa
