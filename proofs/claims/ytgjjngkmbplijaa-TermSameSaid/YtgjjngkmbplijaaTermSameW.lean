/- The walk of the law TermSame. -/
import Derived.Test.YtgjjngkmbplijaaTermPartsW
import Derived.Test.YtgjjngkmbplijaaObsSameW
namespace Go.Proofs.Ytgjjngkmbplijaa
open Go.RowKit
set_option linter.unusedSimpArgs false
set_option linter.unusedVariables false

theorem Te.same_nodes {a b : Te} (h : a.same b = true) : a.nodes = b.nodes := by
  induction a generalizing b with
  | zero => cases b <;> simp [Te.same] at h; rfl
  | one s => cases b <;> simp [Te.same] at h; rfl
  | odd v => cases b <;> simp [Te.same] at h
  | give t ih => cases b <;> simp [Te.same] at h; simp [Te.nodes, ih h]
  | and l r ihl ihr => cases b <;> simp [Te.same] at h; simp [Te.nodes, ihl h.1, ihr h.2]
  | or s l r ihl ihr => cases b <;> simp [Te.same] at h; simp [Te.nodes, ihl h.2.1, ihr h.2.2]
  | scale o t ih => cases b <;> simp [Te.same] at h; simp [Te.nodes, Ob.same_nodes h.1, ih h.2]
  | whn d t ih => cases b <;> simp [Te.same] at h; simp [Te.nodes, ih h.2]
  | cond o l r ihl ihr => cases b <;> simp [Te.same] at h; simp [Te.nodes, Ob.same_nodes h.1, ihl h.2.1, ihr h.2.2]
theorem Te.give_same (t : Te) : (Te.give t).same t = false ∧ t.same (.give t) = false := by
  constructor
  · cases h : (Te.give t).same t with
    | false => rfl
    | true => have := Te.same_nodes h; simp only [Te.nodes] at this; omega
  · cases h : t.same (.give t) with
    | false => rfl
    | true => have := Te.same_nodes h; simp only [Te.nodes] at this; omega
theorem tsame_any (a b : Te) (ha : a.wf) (hb : b.wf) (r : Bool) (h : a.same b = r) (w : World) : Calls Try.prog 78 #[a.val, b.val] w fun e w' => RetB w r e w' := by
  subst h
  exact tsame_calls _ a b w (Nat.lt_succ_self _) ha hb
theorem oddNilT : (Te.odd .nilIface).wf := .inl rfl
/-- The pairs of contracts that are not alike. -/
def sameTab (a : Te) (m : Int) : List (Te × Te) :=
  [(.whn m a, .whn (m + 1) a), (.one ⟨#[117, 115, 100]⟩, .one ⟨#[101, 117, 114]⟩), (.or ⟨#[97]⟩ a .zero, .or ⟨#[98]⟩ a .zero), (.and a (.give a), .and (.give a) a),
   (.scale (.const m) a, .scale (.const (-m - 1)) a), (.cond (.const 1) a (.give a), .cond (.const 1) (.give a) a), (.and a .zero, .or ⟨#[97]⟩ a .zero)]
/-- What the law asks of a pair. -/
structure Apart (x : Te × Te) : Prop where
  w1 : x.1.wf
  w2 : x.2.wf
  c1 : x.1.clean
  c2 : x.2.clean
  s1 : x.1.same x.2 = false
  s2 : x.2.same x.1 = false
theorem sameTab_apart (a : Te) (m : Int) (hwf : a.wf) (hcl : a.clean) (h0 : 0 ≤ m) (h1 : m ≤ 1000) : ∀ x ∈ sameTab a m, Apart x := by
  have g := a.give_same
  have cb : ∀ k : Int, -10000 ≤ k ∧ k ≤ 10000 → (Ob.const k).wf := fun k hk => ⟨by omega, by omega⟩
  have sb : ∀ s : ByteArray, s.size ≤ 10 → s.size ≤ 1000 := fun s h => by omega
  intro x hx
  simp only [sameTab, List.mem_cons, List.not_mem_nil, or_false] at hx
  rcases hx with rfl | rfl | rfl | rfl | rfl | rfl | rfl
  · exact ⟨⟨⟨by omega, by omega⟩, hwf⟩, ⟨⟨by omega, by omega⟩, hwf⟩, hcl, hcl, by simp [Te.same]; intro; omega, by simp [Te.same]; intro; omega⟩
  · exact ⟨sb _ (by decide), sb _ (by decide), trivial, trivial, by decide, by decide⟩
  · exact ⟨⟨sb _ (by decide), hwf, trivial⟩, ⟨sb _ (by decide), hwf, trivial⟩, ⟨hcl, trivial⟩, ⟨hcl, trivial⟩, by show ((⟨#[97]⟩ : ByteArray) == ⟨#[98]⟩ && _) = false; rw [show ((⟨#[97]⟩ : ByteArray) == ⟨#[98]⟩) = false by decide]; rfl, by show ((⟨#[98]⟩ : ByteArray) == ⟨#[97]⟩ && _) = false; rw [show ((⟨#[98]⟩ : ByteArray) == ⟨#[97]⟩) = false by decide]; rfl⟩
  · exact ⟨⟨hwf, hwf⟩, ⟨hwf, hwf⟩, ⟨hcl, hcl⟩, ⟨hcl, hcl⟩, by simp [Te.same, g.1, g.2], by simp [Te.same, g.1, g.2]⟩
  · exact ⟨⟨cb _ (by omega), hwf⟩, ⟨cb _ (by omega), hwf⟩, ⟨trivial, hcl⟩, ⟨trivial, hcl⟩, by simp [Te.same, Ob.same]; intro; omega, by simp [Te.same, Ob.same]; intro; omega⟩
  · exact ⟨⟨cb _ (by omega), hwf, hwf⟩, ⟨cb _ (by omega), hwf, hwf⟩, ⟨trivial, hcl, hcl⟩, ⟨trivial, hcl, hcl⟩, by simp [Te.same, g.1, g.2], by simp [Te.same, g.1, g.2]⟩
  · exact ⟨⟨hwf, trivial⟩, ⟨sb _ (by decide), hwf, trivial⟩, ⟨hcl, trivial⟩, ⟨hcl, trivial⟩, by simp [Te.same], by simp [Te.same]⟩
def pairCells (l : List (Te × Te)) : List Value := l.flatMap fun x => [x.1.val, x.2.val]
theorem pairCells_at {l : List (Te × Te)} {j : Nat} {x : Te × Te} (h : l[j]? = some x) : (pairCells l)[j * 2]? = some x.1.val ∧ (pairCells l)[j * 2 + 1]? = some x.2.val := by
  induction l generalizing j with
  | nil => simp at h
  | cons y r ih =>
    cases j with
    | zero => simp at h; subst h; exact ⟨rfl, rfl⟩
    | succ j =>
      simp only [List.getElem?_cons_succ] at h
      obtain ⟨h1, h2⟩ := ih h
      have e : ∀ k, (pairCells (y :: r))[k + 2]? = (pairCells r)[k]? := fun k => by simp [pairCells]
      rw [show (j + 1) * 2 = j * 2 + 2 by omega, show j * 2 + 2 + 1 = (j * 2 + 1) + 2 by omega, e, e]
      exact ⟨h1, h2⟩
theorem Rd.atP {w : World} {ad : Addr} {n : Nat} {l : List (Te × Te)} (h : Rd w 2 (some ad) n (pairCells l)) {j : Nat} {x : Te × Te} (hx : l[j]? = some x) :
    w.cell? (ad.add (j * 2)) = some x.1.val ∧ w.cell? (ad.add (j * 2 + 1)) = some x.2.val := by
  obtain ⟨h1, h2⟩ := pairCells_at hx
  obtain ⟨a1, e1, c1⟩ := h.2 _ _ h1
  obtain ⟨a2, e2, c2⟩ := h.2 _ _ h2
  injection e1 with e1
  injection e2 with e2
  subst e1 e2
  exact ⟨c1, c2⟩

set_option maxRecDepth 100000 in
set_option maxHeartbeats 3200000 in
theorem termSame_walk (p : Pl) (n : Int) (w : World) (hp : p.In (· < w.heap.size) w) (hn : (Lit.int .i64 n).wf = true) : Calls Try.prog 21 #[p.val, .int .i64 n] w fun e w' => e = .returned (.bool true) ∧ Ext w w' := by
  have hb := i64_of hn
  obtain ⟨t, ht⟩ := conT_ok p
  have hwf := ht.wf
  have hcl := ht.clean
  have H1 := fun W (hW : Ext w W) => contract_calls p W ((hp.ext hW).weak (fun y hy => Nat.lt_of_lt_of_le hy hW.le))
  have H2 := fun (h : HT) (q : Nat → Prop) (W : World) (e : h.tr = conT p) (hin : h.In q W) => pterm_at ht.is hwf h q W e hin
  have hm0 : 0 ≤ n % 100 := Int.emod_nonneg _ (by omega)
  have hm1 : n % 100 < 100 := Int.emod_lt_of_pos _ (by omega)
  have HW := fun W => within_calls n 100 W (by omega) (by omega) hb.1 hb.2
  generalize n % 100 = m at *
  have S1 := tsame_any t t hwf hwf true (t.same_refl hcl)
  have S2 := tsame_any t (.odd .nilIface) hwf oddNilT false (by cases t <;> simp [Te.same])
  have S3 := tsame_any (.odd .nilIface) (.odd .nilIface) oddNilT oddNilT false (by simp [Te.same])
  have S4 := tsame_any (.give t) t hwf hwf false t.give_same.1
  have S5 := tsame_any (.give t) (.give t) hwf hwf true (by simp [Te.same, t.same_refl hcl])
  simp only [Te.val] at S2 S3 S4 S5
  have HA := Lib.hid (sameTab_apart t m hwf hcl hm0 (by omega))
  obtain ⟨k, x, e⟩ := t.form_clean hcl
  have hcs := Lib.hid (show pairCells (sameTab t m) = [.iface 106 (.agg #[.int .i64 m, .iface k x]), .iface 106 (.agg #[.int .i64 (m + 1), .iface k x]), .iface 96 (.agg #[.string ⟨#[117, 115, 100]⟩]), .iface 96 (.agg #[.string ⟨#[101, 117, 114]⟩]),
    .iface 104 (.agg #[.string ⟨#[97]⟩, .iface k x, .iface 101 (.agg #[])]), .iface 104 (.agg #[.string ⟨#[98]⟩, .iface k x, .iface 101 (.agg #[])]),
    .iface 118 (.agg #[.iface k x, .iface 99 (.agg #[.iface k x])]), .iface 118 (.agg #[.iface 99 (.agg #[.iface k x]), .iface k x]),
    .iface 108 (.agg #[.iface 52 (.agg #[.int .i64 m]), .iface k x]), .iface 108 (.agg #[.iface 52 (.agg #[.int .i64 (-m - 1)]), .iface k x]),
    .iface 110 (.agg #[.iface 52 (.agg #[.int .i64 1]), .iface k x, .iface 99 (.agg #[.iface k x])]), .iface 110 (.agg #[.iface 52 (.agg #[.int .i64 1]), .iface 99 (.agg #[.iface k x]), .iface k x]),
    .iface 118 (.agg #[.iface k x, .iface 101 (.agg #[])]), .iface 104 (.agg #[.string ⟨#[97]⟩, .iface k x, .iface 101 (.agg #[])])] by
      simp [pairCells, sameTab, Te.val, Ob.val, e])
  rw [e] at S1 S2 S4 S5
  simp only [e] at H2
  have hlen : (sameTab t m).length = 7 := rfl
  clear hwf hcl e hn hb ht hp
  generalize conT p = T at *
  unfold Pl.val at *
  go_enter Try.func21, Try.ntmps21
  go_wp2_with fail
  go_region_held3 (fun W => W.cell? ⟨w.heap.size, 0, none⟩ = some (.slice p.a p.n p.c) ∧ W.cell? ⟨w.heap.size, 1, none⟩ = some (.slice p.a2 p.n2 p.c2)) (go_keep)
    (first | (go_at_call 73; (with_reducible refine (H1 _ ((by repeat' (first | (with_reducible exact Ext.refl _) | (with_reducible assumption) | (with_reducible refine Ext.alloc ?_ _) | (with_reducible refine Ext.drew ?_) | (with_reducible refine Ext.drewN ?_ _) | (with_reducible refine Ext.setCell ?_ (by first | exact Nat.le_refl _ | (simp; done) | (simp; omega) | omega) _) | (with_reducible refine Ext.trans ?_ (by assumption)))))).mono ?_); rintro e w5 ⟨h5, rfl, ht5, hi5, hv5⟩; obtain ⟨hc5, hf5⟩ := hv5.cells; have hbl5 : w.heap.size < w5.heap.size := by { have := hv5.le; (try simp at this); omega }) | (go_at_call 66; (with_reducible refine (H2 _ _ _ (by assumption) (by assumption)).mono ?_); rintro e w6 ⟨rfl, hv6⟩; obtain ⟨hc6, hf6⟩ := hv6.cells; have hbl6 : w.heap.size < w6.heap.size := by { have := hv6.le; (try simp at this); omega }))
  clear H1 H2
  (go_wp2_with fail; (with_reducible refine (HW _).mono ?_); rintro e w' ⟨rfl, rfl⟩)
  (go_wp2_with fail; (with_reducible refine (S1 _).mono ?_); rintro e w' ⟨rfl, hx1⟩)
  (go_wp2_with fail; (with_reducible refine (S2 _).mono ?_); rintro e w' ⟨rfl, hx2⟩)
  (go_wp2_with fail; (with_reducible refine (S3 _).mono ?_); rintro e w' ⟨rfl, hx3⟩)
  (go_wp2_with fail; (with_reducible refine (S4 _).mono ?_); rintro e w' ⟨rfl, hx4⟩)
  (go_wp2_with fail; (with_reducible refine (S5 _).mono ?_); rintro e w7 ⟨rfl, hx5⟩)
  have hxw := Lib.hid (show Ext w w7 from (by repeat' (first | (with_reducible exact Ext.refl _) | (with_reducible assumption) | (with_reducible refine Ext.alloc ?_ _) | (with_reducible refine Ext.drew ?_) | (with_reducible refine Ext.drewN ?_ _) | (with_reducible refine Ext.setCell ?_ (by first | exact Nat.le_refl _ | (simp; done) | (simp; omega) | omega) _) | (with_reducible refine Ext.trans ?_ (by assumption)))))
  clear hx1 hx2 hx3 hx4 hx5 S1 S2 S3 S4 S5 HW
  go_wp2_with fail
  go_loopw [131] (fun i wr => ∃ j : Nat, j ≤ 7 ∧ i = .int .i64 j ∧ Ext w wr ∧ Rd wr 2 (some ⟨w7.heap.size, 0, none⟩) 7 (pairCells (sameTab t m))) (fun i _ => 7 - (intOf i).toNat)
  case atStart =>
    refine ⟨0, by omega, rfl, hxw.out.alloc _, ?_⟩
    refine Rd.newAt (by simp) ?_ rfl
    rw [hcs.out]
  case round =>
    obtain ⟨j, hj, rfl, hx, hr⟩ := hrel
    by_cases hlt : j < 7
    · have h1 : (sameTab t m)[j]? = some (sameTab t m)[j] := List.getElem?_eq_getElem (by rw [hlen]; exact hlt)
      generalize (sameTab t m)[j] = u at h1
      obtain ⟨u1, u2⟩ := u
      have ha := HA.out _ (List.mem_of_getElem? h1)
      obtain ⟨r1, r2⟩ := hr.atP h1
      have hr0 := Lib.hid (And.intro hx hr)
      have V1 := tsame_any u1 u2 ha.w1 ha.w2 false ha.s1
      have V2 := tsame_any u2 u1 ha.w2 ha.w1 false ha.s2
      have V3 := tsame_any u1 u1 ha.w1 ha.w1 true (u1.same_refl ha.c1)
      obtain ⟨y1, z1, e1⟩ := u1.form_clean ha.c1
      obtain ⟨y2, z2, e2⟩ := u2.form_clean ha.c2
      simp only at r1 r2
      rw [e1] at V1 V2 V3 r1
      rw [e2] at V1 V2 r2
      rw [Addr.add_lit] at r1 r2
      simp only [Nat.zero_add] at r1 r2
      clear hr h1 ha e1 e2 hx
      (go_wp2_with fail; (with_reducible refine (V1 _).mono ?_); rintro e w8 ⟨rfl, hx1⟩)
      have q1 : w8.cell? ⟨wr.heap.size, 0, none⟩ = some (.iface y1 z1) := hx1.cell (by rw [World.cell?_alloc_new]; rfl)
      have q2 : w8.cell? ⟨wr.heap.size, 1, none⟩ = some (.iface y2 z2) := hx1.cell (by rw [World.cell?_alloc_new]; rfl)
      (go_wp2_with fail; (with_reducible refine (V2 _).mono ?_); rintro e w9 ⟨rfl, hx2⟩)
      replace q1 := hx2.cell q1
      replace q2 := hx2.cell q2
      (go_wp2_with fail; (with_reducible refine (V3 _).mono ?_); rintro e w10 ⟨rfl, hx3⟩)
      have hE : Ext wr w10 := ((by repeat' (first | (with_reducible exact Ext.refl _) | (with_reducible assumption) | (with_reducible refine Ext.alloc ?_ _) | (with_reducible refine Ext.drew ?_) | (with_reducible refine Ext.drewN ?_ _) | (with_reducible refine Ext.setCell ?_ (by first | exact Nat.le_refl _ | (simp; done) | (simp; omega) | omega) _) | (with_reducible refine Ext.trans ?_ (by assumption)))))
      have hst := Lib.hid (And.intro (hr0.out.1.trans hE) (hr0.out.2.ext hE))
      clear hE hx1 hx2 hx3 q1 q2
      go_wp2_with fail
      go_roundw
      case rel => exact ⟨j + 1, by omega, by go_num, hst.out⟩
      case measure => simp [intOf]; omega
    · obtain rfl : j = 7 := by omega
      clear hr
      (go_wp2_with fail; (with_reducible refine (wakes05_calls _).mono ?_); rintro e w' ⟨rfl, hx9⟩)
      go_wp2
      go_ret
      exact ⟨rfl, hx.trans hx9⟩

end Go.Proofs.Ytgjjngkmbplijaa
