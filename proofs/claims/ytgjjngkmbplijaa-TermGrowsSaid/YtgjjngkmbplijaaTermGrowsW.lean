/- The walk of the law TermGrows. -/
import Derived.Test.YtgjjngkmbplijaaTermPartsW
import Derived.Test.YtgjjngkmbplijaaTerm6
namespace Go.Proofs.Ytgjjngkmbplijaa
open Go.RowKit
set_option linter.unusedSimpArgs false
set_option linter.unusedVariables false

/-- 'append(s, x...)' as wpList_app, in a guarded operation that is wanted. -/
theorem wpList_appW {P : Program} {w : World} {t e : TypeId} {size bytes : Nat} {ops : Array Oper} {rest : List Oper} {o : Oper} {a : Act} {Q : Exit → Act → World → Prop} (E : Elem P t e size bytes) (hgd : Region.wanted o (yielded ops a.tmps) = true) (s x : Operand)
    (ho : o.op = .call { callee := .builtin .append, args := #[s, x], argTypes := #[t, t] })
    (base : Nat) (v : Value) (n : Nat) (xs : List Value) (hs : a.eval s = v) (hown : w.ownsRow base e size v n xs)
    (A : Option Addr) (m c : Nat) (news : List Value) (hx : a.eval x = .slice A m c) (hr : Rd w size A m news) (h1 : ∀ u ∈ news, u.oneCell' = true)
    (h63 : n + m ≤ maxLen) (hbytes : (n + m) * bytes ≤ 140737488355328) (hbase : base ≤ w.heap.size)
    (h : ∀ v' w', w'.ownsRow base e size v' (n + m) (xs ++ news) → w.grownBy w' v.ownBlock → (v'.ownBlock = v.ownBlock ∨ v'.ownBlock = some w.heap.size) → wpList P ops Q rest (a.put o.dst v') w') : wpList P ops Q (o :: rest) a w := by
  obtain ⟨v', w', hrun, h2, h3, h4⟩ := run_app (P := P) E o.type base v n xs hown A m c news hr h1 h63 hbytes hbase
  refine wpList_step fun K hK => ?_
  rw [if_pos hgd]
  unfold Oper.wp execOp
  simp only [ho, resolve, invoke, builtin, Sem.run_bind, Sem.run_pure, Result.andThen_ok, List.map_toArray, List.map_cons, List.map_nil, hs, hx, hrun]
  exact hK _ _ (h v' w' h2 h3 h4)
theorem addNew_dupT {L : List ByteArray} (h : L.Nodup) (s : ByteArray) : (addNew L s).Nodup := by
  by_cases hs : s ∈ L
  · rw [addNew_mem hs]; exact h
  · rw [addNew_not hs, List.nodup_append]
    refine ⟨h, by simp, fun a ha b hb => ?_⟩
    simp at hb
    subst hb
    exact fun e => hs (e ▸ ha)
theorem addAll_dupT {L : List ByteArray} (h : L.Nodup) (N : List ByteArray) : (addAll L N).Nodup := by
  induction N generalizing L with
  | nil => exact h
  | cons s t ih => rw [addAll_cons]; exact ih (addNew_dupT h s)
theorem addAll_self {L N : List ByteArray} (h : (L ++ N).Nodup) : addAll L N = L ++ N := by
  induction N generalizing L with
  | nil => simp [addAll_nil]
  | cons s t ih =>
    have hs : s ∉ L := fun hm => (List.nodup_append.1 h).2.2 s hm s (List.mem_cons_self ..) rfl
    rw [addAll_cons, addNew_not hs, ih (by simpa using h)]
    simp
theorem Ob.names_dupT (o : Ob) : o.names.Nodup := by
  cases o <;> simp only [Ob.names] <;> first | exact List.nodup_nil | (exact addAll_dupT (addAll_dupT List.nodup_nil _) _) | (exact addAll_dupT List.nodup_nil _) | simp
theorem Te.names_dup (t : Te) : t.names.Nodup := by
  cases t <;> simp only [Te.names] <;> first | exact List.nodup_nil | (exact addAll_dupT (addAll_dupT List.nodup_nil _) _) | (exact addAll_dupT (addAll_dupT (Ob.names_dupT _) _) _) | (exact addAll_dupT (Ob.names_dupT _) _) | (exact addAll_dupT List.nodup_nil _)
theorem Te.names_self (t : Te) : addAll [] t.names = t.names := by
  have := addAll_self (L := []) (N := t.names) (by simpa using t.names_dup)
  simpa using this
def zzAdd : Ob := .add (.fix ⟨#[122, 122]⟩) (.const 1)
theorem addAll_head (s : ByteArray) (L N : List ByteArray) : ∃ M, addAll (s :: L) N = s :: M := by
  induction N generalizing L with
  | nil => exact ⟨L, rfl⟩
  | cons x r ih =>
    rw [addAll_cons]
    by_cases hx : x ∈ s :: L
    · rw [addNew_mem hx]; exact ih L
    · rw [addNew_not hx]; exact ih (L ++ [x])

/-- What the first loop takes of one of its two contracts: it has one more, is one deeper, its labels and names are as those of the part. -/
structure GrowOf (x : Value) (n d : Nat) (labels names : List ByteArray) : Prop where
  size : ∀ w, Calls Try.prog 74 #[x] w fun e w' => RetII w ((n : Int) + 1) ((d : Int) + 1) e w'
  lab : ∀ w, Calls Try.prog 75 #[x] w fun e w' => RetOwn w 9 1 labels.length (strVals labels) e w'
  nam : ∀ w, Calls Try.prog 76 #[x] w fun e w' => RetOwn w 9 1 names.length (strVals names) e w'
  kid : ∀ w, ∃ y, Calls Try.prog 77 #[x] w (RetOwn w 97 1 1 [y])
theorem grow_give (a : Te) (hwf : a.wf) (hn : a.nodes ≤ 1000) : GrowOf (Te.give a).val a.nodes a.depth a.labels a.names where
  size := fun w => by have := tsize_calls _ (.give a) w (Nat.lt_succ_self _) hwf (by simp only [Te.nodes]; omega); simpa [Te.nodes, Te.depth] using this
  lab := fun w => tlabels_calls _ (.give a) w (Nat.lt_succ_self _) hwf (by simp only [Te.nodes]; omega)
  nam := fun w => by have := tnames_calls _ (.give a) w (Nat.lt_succ_self _) hwf (by simp only [Te.nodes]; omega); simp only [Te.names, a.names_self] at this; exact this
  kid := fun w => ⟨a.val, tkids_own (.give a) w hwf⟩
theorem grow_whn (a : Te) (m : Int) (hm : 0 ≤ m ∧ m ≤ 100000) (hwf : a.wf) (hn : a.nodes ≤ 1000) : GrowOf (Te.whn m a).val a.nodes a.depth a.labels a.names where
  size := fun w => by have := tsize_calls _ (.whn m a) w (Nat.lt_succ_self _) ⟨⟨by omega, by omega⟩, hwf⟩ (by simp only [Te.nodes]; omega); simpa [Te.nodes, Te.depth] using this
  lab := fun w => tlabels_calls _ (.whn m a) w (Nat.lt_succ_self _) ⟨⟨by omega, by omega⟩, hwf⟩ (by simp only [Te.nodes]; omega)
  nam := fun w => by have := tnames_calls _ (.whn m a) w (Nat.lt_succ_self _) ⟨⟨by omega, by omega⟩, hwf⟩ (by simp only [Te.nodes]; omega); simp only [Te.names, a.names_self] at this; exact this
  kid := fun w => ⟨a.val, tkids_own (.whn m a) w ⟨⟨by omega, by omega⟩, hwf⟩⟩
theorem ksame_own {b1 b2 : Nat} (l : List ByteArray) {v1 v2 : Value} {w : World} (h1 : w.ownsRow b1 9 1 v1 l.length (strVals l)) (h2 : w.ownsRow b2 9 1 v2 l.length (strVals l)) : Calls Try.prog 50 #[v1, v2] w fun e w' => e = .returned (.bool true) ∧ Ext w w' := by
  obtain ⟨A1, C1, rfl, a1, a2⟩ := own_form h1
  obtain ⟨A2, C2, rfl, a3, a4⟩ := own_form h2
  have := ksame_calls l l A1 C1 A2 C2 w (Rd.of_own h1) a1 a2 (Rd.of_own h2) a3 a4
  rwa [beq_self_eq_true] at this

set_option maxRecDepth 100000 in
set_option maxHeartbeats 3200000 in
theorem termGrows_walk (p q : Pl) (day : Int) (w : World) (hp : p.In (· < w.heap.size) w) (hq : q.In (· < w.heap.size) w) (hd : (Lit.int .i64 day).wf = true) : Calls Try.prog 20 #[p.val, q.val, .int .i64 day] w fun e w' => e = .returned (.bool true) ∧ Ext w w' := by
  have hb := i64_of hd
  obtain ⟨a, ha⟩ := conT_ok p
  obtain ⟨b, hb'⟩ := conT_ok q
  have hwa := ha.wf
  have hwb := hb'.wf
  have hna := ha.nodes
  have hnb := hb'.nodes
  have hda := ha.depth
  have hdb := hb'.depth
  have P1 := fun W (hW : Ext w W) => contract_calls p W ((hp.ext hW).weak (fun y hy => Nat.lt_of_lt_of_le hy hW.le))
  have P2 := fun (h : HT) (r : Nat → Prop) (W : World) (e : h.tr = conT p) (hin : h.In r W) => pterm_at ha.is hwa h r W e hin
  have Q1 := fun W (hW : Ext w W) => contract_calls q W ((hq.ext hW).weak (fun y hy => Nat.lt_of_lt_of_le hy hW.le))
  have Q2 := fun (h : HT) (r : Nat → Prop) (W : World) (e : h.tr = conT q) (hin : h.In r W) => pterm_at hb'.is hwb h r W e hin
  have hm0 : 0 ≤ day % 10001 := Int.emod_nonneg _ (by omega)
  have hm1 : day % 10001 < 10001 := Int.emod_lt_of_pos _ (by omega)
  have HW := fun W => within_calls day 10001 W (by omega) (by omega) hb.1 hb.2
  generalize day % 10001 = m at *
  have SA := fun W => tsize_calls _ a W (Nat.lt_succ_self _) hwa (by omega)
  have SB := fun W => tsize_calls _ b W (Nat.lt_succ_self _) hwb (by omega)
  have LA := fun W => tlabels_calls _ a W (Nat.lt_succ_self _) hwa (by omega)
  have LB := fun W => tlabels_calls _ b W (Nat.lt_succ_self _) hwb (by omega)
  have NA := fun W => tnames_calls _ a W (Nat.lt_succ_self _) hwa (by omega)
  have G1 := grow_give a hwa (by omega)
  have G2 := grow_whn a m ⟨by omega, by omega⟩ hwa (by omega)
  have STa := fun W => tsize_calls _ (.and a b) W (Nat.lt_succ_self _) ⟨hwa, hwb⟩ (by simp only [Te.nodes]; omega)
  have LTa := fun W => tlabels_calls _ (.and a b) W (Nat.lt_succ_self _) ⟨hwa, hwb⟩ (by simp only [Te.nodes]; omega)
  have hzz : (Te.scale zzAdd a).wf := ⟨⟨by show ByteArray.size _ ≤ 1000; decide, by decide, by decide⟩, hwa⟩
  have SO := fun W => tsize_calls _ (.scale zzAdd a) W (Nat.lt_succ_self _) hzz (by simp only [Te.nodes, zzAdd, Ob.nodes]; omega)
  have NO := fun W => tnames_calls _ (.scale zzAdd a) W (Nat.lt_succ_self _) hzz (by simp only [Te.nodes, zzAdd, Ob.nodes]; omega)
  have hll : a.labels.length + b.labels.length ≤ 1000 := by have := a.labels_len; have := b.labels_len; omega
  obtain ⟨M, hM⟩ := addAll_head ⟨#[122, 122]⟩ [] a.names
  have hnm : (Te.scale zzAdd a).names = ⟨#[122, 122]⟩ :: M := by
    have e1 : zzAdd.names = [⟨#[122, 122]⟩] := by decide
    simp only [Te.names, e1, hM]
  have hml : (⟨#[122, 122]⟩ :: M).length ≤ 1000 := by
    have := (Te.scale zzAdd a).names_len
    rw [hnm] at this
    simp only [Te.nodes, zzAdd, Ob.nodes] at this
    omega
  have hnd : (Te.scale zzAdd a).nodes = a.nodes + 4 ∧ (Te.scale zzAdd a).depth = Max.max 2 a.depth + 1 := by
    simp only [Te.nodes, Te.depth, zzAdd, Ob.nodes, Ob.depth]
    omega
  have hnt : (Te.and a b).nodes = a.nodes + b.nodes + 1 ∧ (Te.and a b).depth = Max.max a.depth b.depth + 1 ∧ (Te.and a b).labels = a.labels ++ b.labels := ⟨rfl, rfl, rfl⟩
  rw [hnd.1, hnd.2] at SO
  simp only [hnm] at NO
  rw [hnt.1, hnt.2.1] at STa
  simp only [hnt.2.2] at LTa
  obtain ⟨ka, xa, ea⟩ := a.form_clean ha.clean
  obtain ⟨kb, xb, eb⟩ := b.form_clean hb'.clean
  have hv1 : (Te.give a).val = .iface 99 (.agg #[.iface ka xa]) := by simp only [Te.val, ea]
  have hv2 : (Te.whn m a).val = .iface 106 (.agg #[.int .i64 m, .iface ka xa]) := by simp only [Te.val, ea]
  have hv3 : (Te.and a b).val = .iface 118 (.agg #[.iface ka xa, .iface kb xb]) := by simp only [Te.val, ea, eb]
  have hv4 : (Te.scale zzAdd a).val = .iface 108 (.agg #[.iface 55 (.agg #[.iface 60 (.agg #[.string ⟨#[122, 122]⟩]), .iface 52 (.agg #[.int .i64 1])]), .iface ka xa]) := by simp only [Te.val, zzAdd, Ob.val, ea]
  rw [hv1] at G1
  rw [hv2] at G2
  simp only [hv3] at STa LTa
  simp only [hv4] at SO NO
  simp only [ea] at SA LA NA P2
  simp only [eb] at SB LB Q2
  have HG1 := Lib.hid G1
  have HG2 := Lib.hid G2
  have hbd := Lib.hid (And.intro hna (And.intro hnb (And.intro hda hdb)))
  have b1 : a.nodes ≤ 1000 := by omega
  have b2 : b.nodes ≤ 1000 := by omega
  have b3 : a.depth ≤ 1000 := by omega
  have b4 : b.depth ≤ 1000 := by omega
  clear hv1 hv2 hv3 hv4 ea eb ha hb' hp hq hd hb hzz hnm hM hnd hnt hwa hwb G1 G2 hna hnb hda hdb
  generalize conT p = T1 at *
  generalize conT q = T2 at *
  generalize a.nodes = an at *
  generalize b.nodes = bn at *
  generalize a.depth = ad at *
  generalize b.depth = bd at *
  generalize a.labels = al at *
  generalize b.labels = bl at *
  generalize a.names = nm at *
  unfold Pl.val at *
  have hs2 : w.heap.size < w.heap.size + 1 + 1 := by omega
  have hs3 : ∀ w5 : World, w.heap.size + 1 < w5.heap.size → w.heap.size < w5.heap.size := fun _ h => by omega
  go_enter Try.func20, Try.ntmps20
  go_wp2_with fail
  go_region_held3 (fun W => W.cell? ⟨w.heap.size, 0, none⟩ = some (.slice p.a p.n p.c) ∧ W.cell? ⟨w.heap.size, 1, none⟩ = some (.slice p.a2 p.n2 p.c2) ∧ W.cell? ⟨w.heap.size + 1, 0, none⟩ = some (.slice q.a q.n q.c) ∧ W.cell? ⟨w.heap.size + 1, 1, none⟩ = some (.slice q.a2 q.n2 q.c2)) (go_keep)
    (first | (go_at_call 73; (with_reducible refine (P1 _ ((by repeat' (first | (with_reducible exact Ext.refl _) | (with_reducible assumption) | (with_reducible refine Ext.alloc ?_ _) | (with_reducible refine Ext.drew ?_) | (with_reducible refine Ext.drewN ?_ _) | (with_reducible refine Ext.setCell ?_ (by first | exact Nat.le_refl _ | (simp; done) | (simp; omega) | omega) _) | (with_reducible refine Ext.trans ?_ (by assumption)))))).mono ?_); rintro e w5 ⟨h5, rfl, ht5, hi5, hv5⟩; obtain ⟨hc5, hf5⟩ := hv5.cells; have hbl5 : w.heap.size + 1 < w5.heap.size := by { have := hv5.le; (try simp at this); omega }; have hbk5 : w.heap.size < w5.heap.size := (by omega)) | (go_at_call 73; (with_reducible refine (Q1 _ ((by repeat' (first | (with_reducible exact Ext.refl _) | (with_reducible assumption) | (with_reducible refine Ext.alloc ?_ _) | (with_reducible refine Ext.drew ?_) | (with_reducible refine Ext.drewN ?_ _) | (with_reducible refine Ext.setCell ?_ (by first | exact Nat.le_refl _ | (simp; done) | (simp; omega) | omega) _) | (with_reducible refine Ext.trans ?_ (by assumption)))))).mono ?_); rintro e w8 ⟨h8, rfl, ht8, hi8, hv8⟩; obtain ⟨hc8, hf8⟩ := hv8.cells; have hbl8 : w.heap.size + 1 < w8.heap.size := by { have := hv8.le; (try simp at this); omega }; have hbk8 : w.heap.size < w8.heap.size := (by omega)) | (go_at_call 66; (with_reducible refine (P2 _ _ _ (by assumption) (by assumption)).mono ?_); rintro e w6 ⟨rfl, hv6⟩; obtain ⟨hc6, hf6⟩ := hv6.cells; have hbl6 : w.heap.size + 1 < w6.heap.size := by { have := hv6.le; (try simp at this); omega }; have hbk6 : w.heap.size < w6.heap.size := (by omega)) | (go_at_call 66; (with_reducible refine (Q2 _ _ _ (by assumption) (by assumption)).mono ?_); rintro e w9 ⟨rfl, hv9⟩; obtain ⟨hc9, hf9⟩ := hv9.cells; have hbl9 : w.heap.size + 1 < w9.heap.size := by { have := hv9.le; (try simp at this); omega }; have hbk9 : w.heap.size < w9.heap.size := (by omega)))
  clear P1 P2 Q1 Q2
  (go_wp2_with fail; (with_reducible refine (SA _).mono ?_); rintro e w' ⟨rfl, hx1⟩)
  (go_wp2_with fail; (with_reducible refine (SB _).mono ?_); rintro e w7 ⟨rfl, hx2⟩)
  (go_wp2_with fail; (with_reducible refine (HW _).mono ?_); rintro e w' ⟨rfl, rfl⟩)
  have hxw := Lib.hid (show Ext w w7 from (by repeat' (first | (with_reducible exact Ext.refl _) | (with_reducible assumption) | (with_reducible refine Ext.alloc ?_ _) | (with_reducible refine Ext.drew ?_) | (with_reducible refine Ext.drewN ?_ _) | (with_reducible refine Ext.setCell ?_ (by first | exact Nat.le_refl _ | (simp; done) | (simp; omega) | omega) _) | (with_reducible refine Ext.trans ?_ (by assumption)))))
  clear hx1 hx2 hs3 HW hs2 hc5 hf5 hc6 hf6 hc8 hf8 hc9 hf9 hi5 hi8 ht5 ht8 hv5 hv6 hv8 hv9
  go_wp2_with fail
  go_loopw [50] (fun i wr => ∃ j : Nat, j ≤ 2 ∧ i = .int .i64 j ∧ Ext w wr ∧ Rd wr 1 (some ⟨w7.heap.size, 0, none⟩) 2 [.iface 99 (.agg #[.iface ka xa]), .iface 106 (.agg #[.int .i64 m, .iface ka xa])]) (fun i _ => 2 - (intOf i).toNat)
  case atStart => exact ⟨0, by omega, rfl, hxw.out.alloc _, Rd.newAt (by simp) rfl rfl⟩
  case round =>
    obtain ⟨j, hj, rfl, hx, hr⟩ := hrel
    by_cases hlt : j < 2
    · obtain ⟨_, u, e0, e1, hc⟩ := hr.at1 (k := j) hlt
      injection e0 with e0
      subst e0
      have hG : ∃ K X, u = .iface K X ∧ Hid (GrowOf (.iface K X) an ad al nm) := by
        rcases (by omega : j = 0 ∨ j = 1) with rfl | rfl
        · simp at e1; exact ⟨_, _, e1.symm, HG1⟩
        · simp at e1; exact ⟨_, _, e1.symm, HG2⟩
      obtain ⟨K, X, rfl, HGn⟩ := hG
      rw [Addr.add_lit] at hc
      simp only [Nat.zero_add] at hc
      have hr0 := Lib.hid (And.intro hx hr)
      clear hr hx e1
      (go_wp2_with fail; (with_reducible refine (HGn.out.size _).mono ?_); rintro e w' ⟨rfl, hx1⟩)
      (go_wp2_with fail; (with_reducible refine (HGn.out.lab _).mono ?_); rintro e w' ⟨v1, rfl, ho1, hx2⟩)
      (go_wp2_with fail; (with_reducible refine (LA _).mono ?_); rintro e w' ⟨v2, rfl, ho2, hx3⟩)
      have ho1 := hx3.own ho1
      (go_wp2_with fail; (with_reducible refine (ksame_own al ho1 ho2).mono ?_); rintro e w' ⟨rfl, hx4⟩)
      clear ho1 ho2
      (go_wp2_with fail; (with_reducible refine (HGn.out.nam _).mono ?_); rintro e w' ⟨v3, rfl, ho3, hx5⟩)
      (go_wp2_with fail; (with_reducible refine (NA _).mono ?_); rintro e w' ⟨v4, rfl, ho4, hx6⟩)
      have ho3 := hx6.own ho3
      (go_wp2_with fail; (with_reducible refine (ksame_own nm ho3 ho4).mono ?_); rintro e w' ⟨rfl, hx7⟩)
      clear ho3 ho4
      obtain ⟨y, hkid⟩ := HGn.out.kid w'
      (go_wp2_with fail; (with_reducible refine hkid.mono ?_); rintro e w' ⟨v5, rfl, ho5, hx8⟩)
      obtain ⟨A5, C5, rfl, _, _⟩ := own_form ho5
      have hE := ((((((hx1.trans hx2).trans hx3).trans hx4).trans hx5).trans hx6).trans hx7).trans hx8
      have hst := Lib.hid (And.intro (hr0.out.1.trans hE) (hr0.out.2.ext hE))
      clear hE hx1 hx2 hx3 hx4 hx5 hx6 hx7 hx8 ho5 hkid
      go_wp2_with fail
      go_roundw
      case rel => exact ⟨j + 1, by omega, by go_num, hst.out⟩
      case measure => simp [intOf]; omega
    · obtain rfl : j = 2 := by omega
      clear hr
      obtain ⟨D1, hD1, hc1⟩ : ∃ D, Max.max ad bd = D ∧ ((ad < bd ∧ bd = D) ∨ (bd ≤ ad ∧ ad = D)) := ⟨_, rfl, by omega⟩
      obtain ⟨D2, hD2, hc2⟩ : ∃ D, Max.max 2 ad = D ∧ (((ad : Int) < 2 ∧ 2 = D) ∨ ((2 : Int) ≤ (ad : Int) ∧ ad = D)) := ⟨_, rfl, by omega⟩
      rw [hD1] at STa
      rw [hD2] at SO
      have hx0 := Lib.hid hx
      clear hD1 hD2 hbd HG1 HG2 hxw SA SB NA hx
      rcases hc1 with ⟨hc1, rfl⟩ | ⟨hc1, rfl⟩ <;> rcases hc2 with ⟨hc2, rfl⟩ | ⟨hc2, rfl⟩ <;>
      ( (go_wp2_with fail; (with_reducible refine (STa _).mono ?_); rintro e w8 ⟨rfl, hx8⟩)
        have q0 : w8.cell? ⟨wr.heap.size, 0, none⟩ = some (.iface ka xa) := hx8.cell (by rw [World.cell?_alloc_new]; rfl)
        have q1 : w8.cell? ⟨wr.heap.size, 1, none⟩ = some (.iface kb xb) := hx8.cell (by rw [World.cell?_alloc_new]; rfl)
        have hE8 := Lib.hid ((hx0.out.alloc _).trans hx8)
        clear hx8
        (go_wp2_with fail; (with_reducible refine (SO _).mono ?_); rintro e w9 ⟨rfl, hx9⟩)
        have r0 : w9.cell? ⟨w8.heap.size, 0, none⟩ = some (.iface 55 (.agg #[.iface 60 (.agg #[.string ⟨#[122, 122]⟩]), .iface 52 (.agg #[.int .i64 1])])) := hx9.cell (by rw [World.cell?_alloc_new]; rfl)
        have r1 : w9.cell? ⟨w8.heap.size, 1, none⟩ = some (.iface ka xa) := hx9.cell (by rw [World.cell?_alloc_new]; rfl)
        have hE9 := Lib.hid ((hE8.out.alloc _).trans hx9)
        replace q0 := hx9.cell (((Ext.refl w8).alloc _).cell q0)
        replace q1 := hx9.cell (((Ext.refl w8).alloc _).cell q1)
        clear hx9 hE8
        (go_wp2_with fail; (with_reducible refine (LTa _).mono ?_); rintro e w10 ⟨v1, rfl, ho1, hx10⟩)
        (go_wp2_with fail; (with_reducible refine (LA _).mono ?_); rintro e w11 ⟨v2, rfl, ho2, hx11⟩)
        (go_wp2_with fail; (with_reducible refine (LB _).mono ?_); rintro e w12 ⟨v3, rfl, ho3, hx12⟩)
        obtain ⟨A2, C2, rfl, _, _⟩ := own_form ho2
        obtain ⟨A3, C3, rfl, _, _⟩ := own_form ho3
        have ho2 := hx12.own ho2
        have hr3 := Rd.of_own ho3
        have h63 : al.length + bl.length ≤ maxLen := by unfold maxLen; omega
        have hby : (al.length + bl.length) * 16 ≤ 140737488355328 := by omega
        have hb12 : w10.heap.size ≤ w12.heap.size := (hx11.trans hx12).le
        go_wp2_with (at_builtin; refine wpList_appW elemStr (by rfl) _ _ rfl w10.heap.size (.slice A2 al.length C2) al.length (strVals al) rfl ho2 A3 bl.length C3 (strVals bl) rfl hr3 (strVals_one bl) h63 hby hb12 ?_; intro v4 w13 hown4 hg4 hat4)
        have hE13 : Ext w10 w13 := (hx11.trans hx12).grown hg4 (fun k hk => (ho2.lt k hk).1)
        have ho1' := hE13.own ho1
        have ho4 : w13.ownsRow w10.heap.size 9 1 v4 (al ++ bl).length (strVals (al ++ bl)) := by rw [strVals_app, List.length_append]; exact hown4
        have hE1013 := hx10.trans hE13
        replace q0 := hE1013.cell q0
        replace q1 := hE1013.cell q1
        replace r0 := hE1013.cell r0
        replace r1 := hE1013.cell r1
        have hE14 := Lib.hid (hE9.out.trans hE1013)
        have HK := ksame_own (al ++ bl) ho1' ho4
        clear hown4 hg4 hat4 ho1 ho1' ho2 ho3 hr3 h63 hby hb12 hx10 hx11 hx12 hE13 hE1013 hE9 ho4 q0 q1
        (go_wp2_with fail; (with_reducible refine HK.mono ?_); rintro e w14 ⟨rfl, hx14⟩)
        replace r0 := hx14.cell r0
        replace r1 := hx14.cell r1
        (go_wp2_with fail; (with_reducible refine (NO _).mono ?_); rintro e w15 ⟨v5, rfl, ho5, hx15⟩)
        obtain ⟨A5, C5, rfl, _, _⟩ := own_form ho5
        replace r0 := hx15.cell r0
        replace r1 := hx15.cell r1
        simp only [List.length_cons] at hml
        (go_wp2_with fail; (with_reducible refine (NO _).mono ?_); rintro e w16 ⟨v6, rfl, ho6, hx16⟩)
        obtain ⟨A6, C6, rfl, _, _⟩ := own_form ho6
        obtain ⟨g6, rfl, _, _⟩ := own_at (k := 0) ho6 (by simp)
        obtain ⟨_, _, e6, e7, hc6⟩ := (Rd.of_own ho6).at1 (k := 0) (by simp)
        injection e6 with e6
        subst e6
        simp [strVals] at e7
        subst e7
        rw [Addr.add_lit] at hc6
        simp only [Nat.zero_add] at hc6
        have hE16 := Lib.hid (((hE14.out.trans hx14).trans hx15).trans hx16)
        clear ho5 ho6 hx14 hx15 hx16 hE14 HK r0 r1
        (go_wp2_with fail; (with_reducible refine (wakes05_calls _).mono ?_); rintro e w' ⟨rfl, hx17⟩)
        go_wp2
        go_ret
        exact ⟨rfl, hE16.out.trans hx17⟩)

end Go.Proofs.Ytgjjngkmbplijaa
