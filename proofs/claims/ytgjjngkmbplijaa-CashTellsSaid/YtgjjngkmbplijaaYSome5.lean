/- Package handfastlaw05: some contract (Some). Printed from XSome4's text by hand. -/
import Derived.Test.YtgjjngkmbplijaaYSome4
import Derived.Test.YtgjjngkmbplijaaYPlain2
import Derived.Test.YtgjjngkmbplijaaZMt3
import Derived.Test.YtgjjngkmbplijaaZPt
import Derived.Test.YtgjjngkmbplijaaYRef5

namespace Go.Proofs.Ytgjjngkmbplijaa
open Go.RowKit
set_option linter.unusedSimpArgs false
set_option linter.unusedVariables false

/-- A contract comes back, and its tree; nothing that was there has turned. -/
def RetSx (w : World) (e : Ending) (w' : World) : Prop :=
  ∃ (t : Te) (h : HT), e = .returned (.tuple #[t.val, h.val]) ∧ t.wf ∧ t.nodes ≤ 400 ∧ t.depth ≤ 100 ∧ h.tr = t.tr ∧ h.In (w.heap.size ≤ ·) w' ∧ Ext w w'

set_option maxRecDepth 100000 in
set_option maxHeartbeats 3200000 in
theorem some5_calls (p : Pl) (at0 what v odd : Int) (s : ByteArray) (w : World) (hp : p.In (· < w.heap.size) w) (a1 : -9223372036854775808 ≤ at0) (a2 : at0 ≤ 9223372036854775807) (b1 : -9223372036854775808 ≤ what) (b2 : what ≤ 9223372036854775807)
    (v1 : -9223372036854775808 ≤ v) (v2 : v ≤ 9223372036854775807) (d1 : -9223372036854775808 ≤ odd) (d2 : odd ≤ 9223372036854775807) (hs : s.size ≤ maxLen) :
    Calls Try.prog 79 #[p.val, .int .i64 at0, .int .i64 what, .int .i64 v, .string s, .int .i64 odd] w fun e w' => RetSx w e w' := by
  have HN := fun W (hW : Ext w W) => contract_calls p W ((hp.ext hW).weak (fun y hy => Nat.lt_of_lt_of_le hy hW.le))
  obtain ⟨o0, ho⟩ := conT_ok p
  have hno : o0.nodes ≤ 320 := by have := ho.nodes; omega
  have hdo : o0.depth ≤ 6 := ho.depth
  have hev : (conT p).everyLen ≤ 2 ^ 30 := by rw [← ho.tr]; have := o0.tr_every; omega
  have hn1 : 1 ≤ (conT p).nodes := by rw [← ho.tr, Te.tr_nodes]; have := ho.clean; cases o0 <;> simp [Te.nodes] <;> first | omega | exact this.elim
  have hn2 : (conT p).nodes ≤ 2 ^ 30 := by rw [← ho.tr, Te.tr_nodes]; omega
  have hq := tquo_rng what 4 b1 b2 (by omega)
  have hq2 := tquo_rng odd 30 d1 d2 (by omega)
  have HS := fun (h : HT) (q : Nat → Prop) (W : World) (ht : h.tr = (conT p)) (hin : h.InE q W) (hq' : ∀ y, q y → y < W.heap.size) => spoilt_calls h q W at0 (what.tdiv 4) v s hin hq' (by rw [ht]; exact hev) (by rw [ht]; exact hn1) (by rw [ht]; exact hn2) a1 a2 hq.1 hq.2 v1 v2 hs
  have HO := fun (t : Tr) (o : Te) (hi : IsTe t o) (hw : o.wf) (h : HT) (q : Nat → Prop) (W : World) (ht : h.tr = t) (hin : h.In q W) => pterm_at hi hw h q W ht hin
  have HD := fun W => odd_calls (odd.tdiv 30) W hq2.1 hq2.2
  have HP := fun (o : Te) (W : World) (hw : o.wf) => pplain_calls _ o W (Nat.lt_succ_self _) hw
  have HM := fun W => within_calls odd 30 W (by omega) (by omega) d1 d2
  have hm0 : 0 ≤ odd % 30 := Int.emod_nonneg _ (by omega)
  have hm1 : odd % 30 < 30 := Int.emod_lt_of_pos _ (by omega)
  obtain ⟨j, hj⟩ : ∃ j : Nat, odd % 30 = j := ⟨(odd % 30).toNat, by omega⟩
  rw [hj] at HM hm0 hm1
  clear hj
  have hX : Ext w ((w.alloc (.cells #[.slice p.a p.n p.c, .slice p.a2 p.n2 p.c2] 72)).alloc fourZ) := ((Ext.refl w).alloc _).alloc _
  have hXs : ((w.alloc (.cells #[.slice p.a p.n p.c, .slice p.a2 p.n2 p.c2] 72)).alloc fourZ).heap.size = w.heap.size + 1 + 1 := by simp
  have hF : Four ((w.alloc (.cells #[.slice p.a p.n p.c, .slice p.a2 p.n2 p.c2] 72)).alloc fourZ) (w.heap.size + 1) := ⟨_, _, _, _, by
    have h := heap_alloc_new (w.alloc (.cells #[.slice p.a p.n p.c, .slice p.a2 p.n2 p.c2] 72)) fourZ
    have e : (w.alloc (.cells #[.slice p.a p.n p.c, .slice p.a2 p.n2 p.c2] 72)).heap.size = w.heap.size + 1 := by simp
    rwa [e] at h⟩
  have HH := Lib.hid (And.intro hX (And.intro hXs (And.intro hF ho)))
  have q1 := hq.1
  have q2 := hq.2
  have q3 := hq2.1
  have q4 := hq2.2
  clear hp hev hn1 hn2 hq hq2 a1 a2 b1 b2 v1 v2 d1 d2 hs hX hXs hF ho
  unfold Pl.val at *
  generalize conT p = r at *
  go_enter Try.func79, Try.ntmps79
  (go_wp2_with fail; (with_reducible refine (HN _ ((by repeat' (first | (with_reducible exact Ext.refl _) | (with_reducible assumption) | (with_reducible refine Ext.alloc ?_ _) | (with_reducible refine Ext.drew ?_) | (with_reducible refine Ext.drewN ?_ _) | (with_reducible refine Ext.setCell ?_ (by first | exact Nat.le_refl _ | (simp; done) | (simp; omega) | omega) _) | (with_reducible refine Ext.trans ?_ (by assumption)))))).mono ?_); rintro e w2 ⟨h, rfl, ht, hin, hx2⟩)
  clear HN
  have hE2 := HH.out.1.trans hx2
  have hF2 := HH.out.2.2.1.ext hx2
  have hle2 := hx2.le
  rw [HH.out.2.1] at hle2
  unfold HT.val
  go_upto_region 2 with fail
  go_upto_if 20 with fail
  go_cut [] from 18 to 27 (fun wx => ∃ (u : HT) (o : Te), TeSp u.tr 320 6 o ∧ wx.heap[w2.heap.size]? = some (.cells #[.int .i64 u.kd, .string u.s, .int .i64 u.n, .slice u.a u.k.length u.c] 76 (0, 0)) ∧ u.In (fun _ => True) wx ∧ Ext w2 wx)
  case first =>
    cases hm : (what.tmod 4 == 0) with
    | true =>
      have HSh := HS h _ (w2.alloc (.cells #[.int .i64 h.kd, .string h.s, .int .i64 h.n, .slice h.a h.k.length h.c] 76)) ht ((hin.inE).ext ((Ext.refl _).alloc _)) (fun y hy => by have := hy.2; simp; omega)
      unfold HT.val at HSh
      clear HS HO HD HP
      (go_wp2_with fail; (with_reducible refine HSh.mono ?_); rintro e w4 ⟨u, rfl, hsp, hui, hx4⟩)
      rw [ht] at hsp
      obtain ⟨o, ho⟩ := HH.out.2.2.2.is.spoil HH.out.2.2.2.wf HH.out.2.2.2.clean u.tr hsp
      unfold HT.val
      have hF4 := Four.ext (show Four (w2.alloc (.cells #[.int .i64 h.kd, .string h.s, .int .i64 h.n, .slice h.a h.k.length h.c] 76)) w2.heap.size from ⟨_, _, _, _, heap_alloc_new _ _⟩) hx4
      obtain ⟨⟨y0, d0⟩, ⟨y1, d1⟩, ⟨y2, d2⟩, ⟨y3, d3⟩, hfz⟩ := hF4.cells
      have hx5 : Ext w2 w4 := ((by repeat' (first | (with_reducible exact Ext.refl _) | (with_reducible assumption) | (with_reducible refine Ext.alloc ?_ _) | (with_reducible refine Ext.drew ?_) | (with_reducible refine Ext.drewN ?_ _) | (with_reducible refine Ext.setCell ?_ (by first | exact Nat.le_refl _ | (simp; done) | (simp; omega) | omega) _) | (with_reducible refine Ext.trans ?_ (by assumption)))))
      have HL := Lib.hid (And.intro hF4 (And.intro hui (And.intro hx5 ho)))
      clear hF4 hui hx4 hx5 ho HSh hsp
      go_wp2_with fail
      go_meet
      exact ⟨u, o, ⟨HL.out.2.2.2.is, HL.out.2.2.2.wf, Nat.le_trans HL.out.2.2.2.nodes hno, Nat.le_trans HL.out.2.2.2.depth hdo⟩, HL.out.1.put _ _ _ _, (HL.out.2.1.grown (fun y hy => by
        rcases hy with hy | hy
        · have := hy.2; omega
        · have h4 : (w2.alloc (.cells #[.int .i64 h.kd, .string h.s, .int .i64 h.n, .slice h.a h.k.length h.c] 76)).heap.size = w2.heap.size + 1 := by simp
          have : w2.heap.size + 1 ≤ y := by rw [← h4]; exact hy
          omega) (put4_grown w4 w2.heap.size _ _ _ _)).any, put4_ext HL.out.2.2.1 (Nat.le_refl _) _ _ _ _⟩
    | false =>
      have HL := Lib.hid hin
      clear HS HO HD HP hin
      go_wp2_with fail
      go_meet
      exact ⟨h, o0, ⟨by rw [ht]; exact HH.out.2.2.2.is, HH.out.2.2.2.wf, hno, hdo⟩, heap_alloc_new _ _, (HL.out.ext ((Ext.refl _).alloc _)).weak (fun _ _ => trivial), (Ext.refl _).alloc _⟩
  case rest =>
    obtain ⟨u, o, hsp, hb, hui, hxx⟩ := hcut
    obtain ⟨k0, kf, kl⟩ := obj_cells hb
    have z0 := k0 0 _ rfl
    have z1 := k0 1 _ rfl
    have z2 := k0 2 _ rfl
    have z3 := k0 3 _ rfl
    have HOu := fun W (hW : Ext wc W) => HO u.tr o hsp.is hsp.wf u _ W rfl (hui.ext hW)
    have HP1 := fun W => HP o W hsp.wf
    have HPA := fun (v : Value) (hv : OddT v) W => HP (.and o (.odd v)) W ⟨hsp.wf, hv⟩
    have HPS := fun (o2 : Ob) (hw2 : o2.wf) W => HP (.scale o2 o) W ⟨hw2, hsp.wf⟩
    have HPO := fun (v : Value) (hv : OddT v) W => HP (.odd v) W hv
    unfold HT.val at HOu
    simp only [Te.val] at HPA HPS HPO
    have f1 := Te.form hsp.wf
    have hEc := Lib.hid (And.intro (hE2.trans hxx) (And.intro (hF2.ext hxx) (And.intro hsp hxx.le)))
    clear HS HO HP hin hx2 hE2 hF2 hb hui hsp hxx k0 HH
    have hjj : j = 27 ∨ j = 28 ∨ j = 29 ∨ (((j : Int) == 27) = false ∧ ((j : Int) == 28) = false ∧ ((j : Int) == 29) = false) := by
      by_cases h1 : j = 27
      · exact .inl h1
      by_cases h2 : j = 28
      · exact .inr (.inl h2)
      by_cases h3 : j = 29
      · exact .inr (.inr (.inl h3))
      · exact .inr (.inr (.inr ⟨by simp; omega, by simp; omega, by simp; omega⟩))
    rcases hjj with rfl | rfl | rfl | ⟨j1, j2, j3⟩
    · rcases f1 with e1 | ⟨t1, x1, e1⟩
      all_goals
        rw [e1] at HOu HPA
        clear HP1 HPS HPO
        (go_wp2_with fail; (with_reducible refine (HOu _ ((by repeat' (first | (with_reducible exact Ext.refl _) | (with_reducible assumption) | (with_reducible refine Ext.alloc ?_ _) | (with_reducible refine Ext.drew ?_) | (with_reducible refine Ext.drewN ?_ _) | (with_reducible refine Ext.setCell ?_ (by first | exact Nat.le_refl _ | (simp; done) | (simp; omega) | omega) _) | (with_reducible refine Ext.trans ?_ (by assumption)))))).mono ?_); rintro e w5 ⟨rfl, hx5⟩)
        (go_wp2_with fail; (with_reducible refine (HM _).mono ?_); rintro e w5' ⟨rfl, rfl⟩)
        (go_wp2_with fail; (with_reducible refine (HD _).mono ?_); rintro e w6 ⟨vv, rfl, hov, hx6⟩)
        have HP3 := HPA vv hov.te
        have hot := hov.te
        have f2 : vv = .nilIface ∨ ∃ k x, vv = .iface k x := by
          rcases hot with h | ⟨k, x, h, _⟩
          · exact .inl h
          · exact .inr ⟨k, x, h⟩
        rcases f2 with rfl | ⟨t2, x2, rfl⟩
        all_goals
          clear HPA HD HOu
          (go_wp2_with fail; (with_reducible refine (HP3 _).mono ?_); rintro e w7 ⟨hh, rfl, htr, hin7, hx7⟩)
          have hE7 := hEc.out.1.trans ((hx5.trans hx6).trans hx7)
          have hF7 := hEc.out.2.1.ext ((hx5.trans hx6).trans hx7)
          obtain ⟨⟨y0, d0⟩, ⟨y1, d1⟩, ⟨y2, d2⟩, ⟨y3, d3⟩, hfz⟩ := hF7.cells
          have hlt := Nat.le_trans hEc.out.2.2.2 (hx5.trans hx6).le
          have hI7 := hin7.weak (q' := fun y => w.heap.size ≤ y ∧ y ≠ w.heap.size + 1) (fun y hy => by omega)
          have HL := Lib.hid (And.intro hE7 (And.intro hF7 (And.intro hI7 htr)))
          clear hE7 hF7 hI7 htr hin7 hx7
          unfold HT.val
          go_wp2
          refine bodyPost_ret (put4_at3 HL.out.2.1 hh _ _ 13 12 _ rfl rfl rfl) rfl ?_
          exact ⟨.and o (.odd _), hh, by simp only [Te.val]; rw [e1]; rfl, ⟨hEc.out.2.2.1.wf, hot⟩, by have := hEc.out.2.2.1.nodes; simp only [Te.nodes]; omega, by have := hEc.out.2.2.1.depth; simp only [Te.depth]; omega, HL.out.2.2.2,
            (HL.out.2.2.1.grown (fun y hy => hy.2) (put4_grown _ _ _ _ _ _)).weak (fun y hy => hy.1), put4_ext HL.out.1 (by omega) _ _ _ _⟩
    · rcases f1 with e1 | ⟨t1, x1, e1⟩
      all_goals
        rw [e1] at HOu HPS
        clear HP1 HPA HPO
        (go_wp2_with fail; (with_reducible refine (HOu _ ((by repeat' (first | (with_reducible exact Ext.refl _) | (with_reducible assumption) | (with_reducible refine Ext.alloc ?_ _) | (with_reducible refine Ext.drew ?_) | (with_reducible refine Ext.drewN ?_ _) | (with_reducible refine Ext.setCell ?_ (by first | exact Nat.le_refl _ | (simp; done) | (simp; omega) | omega) _) | (with_reducible refine Ext.trans ?_ (by assumption)))))).mono ?_); rintro e w5 ⟨rfl, hx5⟩)
        (go_wp2_with fail; (with_reducible refine (HM _).mono ?_); rintro e w5' ⟨rfl, rfl⟩)
        (go_wp2_with fail; (with_reducible refine (HD _).mono ?_); rintro e w6 ⟨vv, rfl, hov, hx6⟩)
        obtain ⟨o2, hvv, hw2, hn2, hd2⟩ := oddIs_ob hov
        have HP3 := HPS o2 hw2
        have f2 := Ob.form hw2
        rw [hvv] at f2 HP3
        rcases f2 with rfl | ⟨t2, x2, rfl⟩
        all_goals
          clear HPS HD HOu
          (go_wp2_with fail; (with_reducible refine (HP3 _).mono ?_); rintro e w7 ⟨hh, rfl, htr, hin7, hx7⟩)
          have hE7 := hEc.out.1.trans ((hx5.trans hx6).trans hx7)
          have hF7 := hEc.out.2.1.ext ((hx5.trans hx6).trans hx7)
          obtain ⟨⟨y0, d0⟩, ⟨y1, d1⟩, ⟨y2, d2⟩, ⟨y3, d3⟩, hfz⟩ := hF7.cells
          have hlt := Nat.le_trans hEc.out.2.2.2 (hx5.trans hx6).le
          have hI7 := hin7.weak (q' := fun y => w.heap.size ≤ y ∧ y ≠ w.heap.size + 1) (fun y hy => by omega)
          have HL := Lib.hid (And.intro hE7 (And.intro hF7 (And.intro hI7 htr)))
          clear hE7 hF7 hI7 htr hin7 hx7
          unfold HT.val
          go_wp2
          refine bodyPost_ret (put4_at3 HL.out.2.1 hh _ _ 13 12 _ rfl rfl rfl) rfl ?_
          exact ⟨.scale o2 o, hh, by simp only [Te.val]; rw [e1, hvv]; rfl, ⟨hw2, hEc.out.2.2.1.wf⟩, by have := hEc.out.2.2.1.nodes; simp only [Te.nodes]; omega, by have := hEc.out.2.2.1.depth; simp only [Te.depth]; omega, HL.out.2.2.2,
            (HL.out.2.2.1.grown (fun y hy => hy.2) (put4_grown _ _ _ _ _ _)).weak (fun y hy => hy.1), put4_ext HL.out.1 (by omega) _ _ _ _⟩
    · rcases f1 with e1 | ⟨t1, x1, e1⟩
      all_goals
        rw [e1] at HOu
        clear HP1 HPA HPS
        (go_wp2_with fail; (with_reducible refine (HOu _ ((by repeat' (first | (with_reducible exact Ext.refl _) | (with_reducible assumption) | (with_reducible refine Ext.alloc ?_ _) | (with_reducible refine Ext.drew ?_) | (with_reducible refine Ext.drewN ?_ _) | (with_reducible refine Ext.setCell ?_ (by first | exact Nat.le_refl _ | (simp; done) | (simp; omega) | omega) _) | (with_reducible refine Ext.trans ?_ (by assumption)))))).mono ?_); rintro e w5 ⟨rfl, hx5⟩)
        (go_wp2_with fail; (with_reducible refine (HM _).mono ?_); rintro e w5' ⟨rfl, rfl⟩)
        (go_wp2_with fail; (with_reducible refine (HD _).mono ?_); rintro e w6 ⟨vv, rfl, hov, hx6⟩)
        have HP3 := HPO vv hov.te
        have hot := hov.te
        have f2 : vv = .nilIface ∨ ∃ k x, vv = .iface k x := by
          rcases hot with h | ⟨k, x, h, _⟩
          · exact .inl h
          · exact .inr ⟨k, x, h⟩
        rcases f2 with rfl | ⟨t2, x2, rfl⟩
        all_goals
          clear HPO HD HOu
          (go_wp2_with fail; (with_reducible refine (HP3 _).mono ?_); rintro e w7 ⟨hh, rfl, htr, hin7, hx7⟩)
          have hE7 := hEc.out.1.trans ((hx5.trans hx6).trans hx7)
          have hF7 := hEc.out.2.1.ext ((hx5.trans hx6).trans hx7)
          obtain ⟨⟨y0, d0⟩, ⟨y1, d1⟩, ⟨y2, d2⟩, ⟨y3, d3⟩, hfz⟩ := hF7.cells
          have hlt := Nat.le_trans hEc.out.2.2.2 (hx5.trans hx6).le
          have hI7 := hin7.weak (q' := fun y => w.heap.size ≤ y ∧ y ≠ w.heap.size + 1) (fun y hy => by omega)
          have HL := Lib.hid (And.intro hE7 (And.intro hF7 (And.intro hI7 htr)))
          clear hE7 hF7 hI7 htr hin7 hx7
          unfold HT.val
          go_wp2
          refine bodyPost_ret (put4_at3 HL.out.2.1 hh _ _ 13 12 _ rfl rfl rfl) rfl ?_
          exact ⟨.odd _, hh, by simp only [Te.val]; rfl, hot, by have := hEc.out.2.2.1.nodes; simp only [Te.nodes]; omega, by have := hEc.out.2.2.1.depth; simp only [Te.depth]; omega, HL.out.2.2.2,
            (HL.out.2.2.1.grown (fun y hy => hy.2) (put4_grown _ _ _ _ _ _)).weak (fun y hy => hy.1), put4_ext HL.out.1 (by omega) _ _ _ _⟩
    · rcases f1 with e1 | ⟨t1, x1, e1⟩
      all_goals
        rw [e1] at HOu HP1
        clear HPA HPS HPO HD
        (go_wp2_with fail; (with_reducible refine (HOu _ ((by repeat' (first | (with_reducible exact Ext.refl _) | (with_reducible assumption) | (with_reducible refine Ext.alloc ?_ _) | (with_reducible refine Ext.drew ?_) | (with_reducible refine Ext.drewN ?_ _) | (with_reducible refine Ext.setCell ?_ (by first | exact Nat.le_refl _ | (simp; done) | (simp; omega) | omega) _) | (with_reducible refine Ext.trans ?_ (by assumption)))))).mono ?_); rintro e w5 ⟨rfl, hx5⟩)
        (go_wp2_with fail; (with_reducible refine (HM _).mono ?_); rintro e w5' ⟨rfl, rfl⟩)
        (go_wp2_with fail; (with_reducible refine (HP1 _).mono ?_); rintro e w7 ⟨hh, rfl, htr, hin7, hx7⟩)
        have hE7 := hEc.out.1.trans (hx5.trans hx7)
        have hF7 := hEc.out.2.1.ext (hx5.trans hx7)
        obtain ⟨⟨y0, d0⟩, ⟨y1, d1⟩, ⟨y2, d2⟩, ⟨y3, d3⟩, hfz⟩ := hF7.cells
        have hlt := Nat.le_trans hEc.out.2.2.2 hx5.le
        have hI7 := hin7.weak (q' := fun y => w.heap.size ≤ y ∧ y ≠ w.heap.size + 1) (fun y hy => by omega)
        have HL := Lib.hid (And.intro hE7 (And.intro hF7 (And.intro hI7 htr)))
        clear hE7 hF7 hI7 htr hin7 hx7
        unfold HT.val
        go_wp2
        refine bodyPost_ret (put4_at3 HL.out.2.1 hh _ _ 13 12 _ rfl rfl rfl) rfl ?_
        exact ⟨o, hh, by rw [e1]; rfl, hEc.out.2.2.1.wf, by have := hEc.out.2.2.1.nodes; omega, by have := hEc.out.2.2.1.depth; omega, HL.out.2.2.2,
          (HL.out.2.2.1.grown (fun y hy => hy.2) (put4_grown _ _ _ _ _ _)).weak (fun y hy => hy.1), put4_ext HL.out.1 (by omega) _ _ _ _⟩

end Go.Proofs.Ytgjjngkmbplijaa
