/- The document's trees in memory: how many, how deep (ref04.Size). -/
import Derived.Test.YtgjjngkmbplijaaPlayObs
namespace Go.Proofs.Ytgjjngkmbplijaa
open Go.RowKit
set_option linter.unusedSimpArgs false
set_option linter.unusedVariables false

theorem HT.size_k {h x : HT} {i : Nat} (hx : h.k[i]? = some x) : SizeOf.sizeOf x < SizeOf.sizeOf h := by
  cases h with
  | mk kd s n a c k =>
    have h1 := List.sizeOf_lt_of_mem (List.mem_of_getElem? hx)
    simp only [HT.k] at h1
    simp
    omega
theorem HT.nodes_eq (h : HT) (h0 : h.kd ≠ 0) : h.tr.nodes = 1 + Tr.nodesL (h.k.map HT.tr) := by
  rw [HT.tr_eq, Tr.nodes, if_neg h0]
theorem HT.depth_eq (h : HT) (h0 : h.kd ≠ 0) : h.tr.depth = Tr.depthL (h.k.map HT.tr) + 1 := by
  rw [HT.tr_eq, Tr.depth, if_neg h0]
theorem map_take_snoc {k : List HT} {i : Nat} {x : HT} (hx : k[i]? = some x) : (k.take (i + 1)).map HT.tr = (k.take i).map HT.tr ++ [x.tr] := by
  rw [List.take_add_one, hx]; simp
theorem nodesL_take (l : List Tr) (i : Nat) : Tr.nodesL (l.take i) ≤ Tr.nodesL l := by
  induction l generalizing i with
  | nil => simp
  | cons x r ih =>
    cases i with
    | zero => simp [Tr.nodesL]
    | succ i => simp only [List.take_succ_cons, Tr.nodesL]; have := ih i; omega
mutual
theorem Tr.depth_le : (t : Tr) → t.depth ≤ t.nodes
  | .mk kd s n k => by
    rw [Tr.depth, Tr.nodes]
    split
    · exact Nat.le_refl _
    · have := Tr.depthL_le k; omega
theorem Tr.depthL_le : (l : List Tr) → Tr.depthL l ≤ Tr.nodesL l
  | [] => Nat.le_refl _
  | x :: r => by
    rw [Tr.depthL, Tr.nodesL]
    have h1 := Tr.depth_le x
    have h2 := Tr.depthL_le r
    omega
end

set_option maxRecDepth 100000 in
set_option maxHeartbeats 1600000 in
theorem rsize_calls (k : Nat) : ∀ (h : HT) (q : Nat → Prop) (w : World), SizeOf.sizeOf h < k → h.In q w → h.tr.nodes ≤ 2 ^ 40 → Calls Try.prog 57 #[h.val] w fun e w' => RetII w h.tr.nodes h.tr.depth e w' := by
  induction k with
  | zero => intro h q w hk; omega
  | succ k ih =>
    intro h q w hk hin hn
    by_cases h0 : h.kd = 0
    · have hN := Lib.hid (show h.tr.nodes = 0 ∧ h.tr.depth = 0 by rw [HT.tr_eq, Tr.nodes, Tr.depth, if_pos h0, if_pos h0]; exact ⟨rfl, rfl⟩)
      generalize h.tr.nodes = nn at *
      generalize h.tr.depth = dd at *
      unfold HT.val
      rw [h0]
      clear ih hk hin hn h0
      go_enter Try.func57, Try.ntmps57
      go_wp2
      go_ret2
      exact ⟨by rw [hN.out.1, hN.out.2]; rfl, (by repeat' (first | (with_reducible exact Ext.refl _) | (with_reducible assumption) | (with_reducible refine Ext.alloc ?_ _) | (with_reducible refine Ext.drew ?_) | (with_reducible refine Ext.drewN ?_ _) | (with_reducible refine Ext.setCell ?_ (by first | exact Nat.le_refl _ | (simp; done) | (simp; omega) | omega) _) | (with_reducible refine Ext.trans ?_ (by assumption))))⟩
    · have hN := Lib.hid (And.intro (h.nodes_eq h0) (h.depth_eq h0))
      have hnk := h.nodes_eq h0
      have hcap := hin.cap
      have hAt := fun (i : Nat) (hi : i < h.k.length) => hin.at hi
      have HR := fun (x : HT) (i : Nat) (hx : h.k[i]? = some x) (W : World) (hxi : x.In q W) => ih x q W (by have := HT.size_k hx; omega) hxi (by
        have h1 := nodesL_take (h.k.map HT.tr) (i + 1)
        rw [← List.map_take, map_take_snoc hx, nodesL_snoc] at h1
        omega)
      have HTk := Lib.hid (fun i => Nat.le_trans (nodesL_take (h.k.map HT.tr) i) (show Tr.nodesL (h.k.map HT.tr) ≤ 2 ^ 40 by omega))
      have HD := Lib.hid (fun i => Tr.depthL_le ((h.k.take i).map HT.tr))
      have hk0 : (h.kd == 0) = false := by simpa using h0
      have hc2 := hcap.2
      unfold maxLen at hc2
      have hc1 := hcap.1
      clear ih hk hin hn h0 hnk hcap
      unfold HT.val at *
      generalize h.kd = kd at *
      generalize h.s = ss at *
      generalize h.n = hn at *
      generalize h.a = ha at *
      generalize h.c = hc at *
      generalize h.tr.nodes = nn at *
      generalize h.tr.depth = dd at *
      generalize h.k = K at *
      go_enter Try.func57, Try.ntmps57
      go_wp2_with fail
      have hs0 : Ext w (w.alloc (.cells #[.int .i64 kd, .string ss, .int .i64 hn, .slice ha K.length hc] 76)) := (Ext.refl w).alloc _
      have hcell : ∀ j v, (#[.int .i64 kd, .string ss, .int .i64 hn, .slice ha K.length hc] : Array Value)[j]? = some v → (w.alloc (.cells #[.int .i64 kd, .string ss, .int .i64 hn, .slice ha K.length hc] 76)).cell? ⟨w.heap.size, j, none⟩ = some v := fun j v hj => by rw [World.cell?_alloc_new]; exact hj
      have hcell := Lib.hid hcell
      generalize (w.alloc (.cells #[.int .i64 kd, .string ss, .int .i64 hn, .slice ha K.length hc] 76)) = X at *
      go_loopw [15, 4, 5] (fun i n d wr => ∃ j : Nat, j ≤ K.length ∧ i = .int .i64 j ∧ n = .int .i64 ((1 + Tr.nodesL ((K.take j).map HT.tr) : Nat) : Int) ∧ d = .int .i64 ((Tr.depthL ((K.take j).map HT.tr) : Nat) : Int) ∧ Ext X wr) (fun i _ _ _ => K.length - (intOf i).toNat)
      case atStart => exact ⟨0, by omega, rfl, by simp [Tr.nodesL], by simp [Tr.depthL], Ext.refl _⟩
      case round =>
        obtain ⟨j, hj, rfl, rfl, rfl, hx⟩ := hrel
        by_cases hlt : j < K.length
        · obtain ⟨g, x, e1, hq, e2, hxi, q0, q1, q2, q3⟩ := hAt j hlt
          subst e1
          have c3 := hx.cell (hcell.out 3 _ rfl)
          replace q0 := (hs0.trans hx).cell q0
          replace q1 := (hs0.trans hx).cell q1
          replace q2 := (hs0.trans hx).cell q2
          replace q3 := (hs0.trans hx).cell q3
          have HRk := HR x j e2 wr (hxi.ext (hs0.trans hx))
          have hS := map_take_snoc e2
          have hb := HTk.out (j + 1)
          rw [← List.map_take, hS, nodesL_snoc] at hb
          have hdl := x.tr.depth_le
          have hml := HD.out j
          have hS0 := Lib.hid (show Tr.nodesL ((K.take (j + 1)).map HT.tr) = Tr.nodesL ((K.take j).map HT.tr) + x.tr.nodes by rw [hS, nodesL_snoc])
          have hM0 := Lib.hid (show Tr.depthL ((K.take (j + 1)).map HT.tr) = Max.max (Tr.depthL ((K.take j).map HT.tr)) x.tr.depth by rw [hS, depthL_snoc])
          have hj0 := Lib.hid (show j + 1 ≤ K.length from hlt)
          have hx0 := Lib.hid hx
          clear HR hAt e2 hS hxi hx HTk HD hs0 hq
          generalize Tr.nodesL ((K.take j).map HT.tr) = sj at *
          generalize Tr.depthL ((K.take j).map HT.tr) = mj at *
          generalize x.tr.nodes = n1 at *
          generalize x.tr.depth = d1 at *
          generalize x.kd = x0 at *
          generalize x.s = x1 at *
          generalize x.n = x2 at *
          generalize x.a = x3 at *
          generalize x.k.length = x4 at *
          generalize x.c = x5 at *
          (go_wp2_with fail; (with_reducible refine (HRk).mono ?_); rintro e w' ⟨rfl, hx4⟩)
          clear HRk q0 q1 q2 q3
          go_wp2_with fail
          go_roundw
          case rel => exact ⟨j + 1, hj0.out, by go_num, by rw [hS0.out]; go_num, by rw [hM0.out]; go_num, hx0.out.trans hx4⟩
          case measure => simp [intOf]; omega
        · obtain rfl : j = K.length := by omega
          rw [List.take_length]
          have h2 := HTk.out K.length
          have h3 := HD.out K.length
          rw [List.take_length] at h3
          have e9 : (K.map HT.tr).take K.length = K.map HT.tr := List.take_of_length_le (by simp)
          rw [e9] at h2
          clear HR hAt e9
          generalize Tr.nodesL (K.map HT.tr) = S at *
          generalize Tr.depthL (K.map HT.tr) = D at *
          go_wp2
          go_ret2
          exact ⟨by rw [hN.out.1, hN.out.2]; simp, hs0.trans hx⟩

end Go.Proofs.Ytgjjngkmbplijaa
