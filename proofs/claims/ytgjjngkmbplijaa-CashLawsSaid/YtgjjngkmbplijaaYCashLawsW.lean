/- The walk of the law CashLaws. -/
import Derived.Test.YtgjjngkmbplijaaZRf
import Derived.Test.YtgjjngkmbplijaaZPt
import Derived.Test.YtgjjngkmbplijaaYKn10
import Derived.Test.YtgjjngkmbplijaaYTurned
import Derived.Deep.CutRange
import Derived.Test.YtgjjngkmbplijaaYRegAll

namespace Go.Proofs.Ytgjjngkmbplijaa
open Go.RowKit
set_option linter.unusedSimpArgs false
set_option linter.unusedVariables false

/-- 'append(s, x...)' as wpList_app, in a guarded operation that is wanted. -/
theorem wpList_appG {P : Program} {w : World} {t e : TypeId} {size bytes : Nat} {ops : Array Oper} {rest : List Oper} {o : Oper} {a : Act} {Q : Exit → Act → World → Prop} (E : Elem P t e size bytes) (hgd : Region.wanted o (yielded ops a.tmps) = true) (s x : Operand)
    (ho : o.op = .call { callee := .builtin .append, args := #[s, x], argTypes := #[t, t] })
    (base : Nat) (v : Value) (n : Nat) (xs : List Value) (hs : a.eval s = v) (hown : w.ownsRow base e size v n xs)
    (A : Option Addr) (m c : Nat) (news : List Value) (hx : a.eval x = .slice A m c) (hr : Rd w size A m news) (h1 : ∀ u ∈ news, u.oneCell' = true)
    (h63 : n + m ≤ maxLen) (hbytes : (n + m) * bytes ≤ 140737488355328) (hbase : base ≤ w.heap.size)
    (h : ∀ v' w', w'.ownsRow base e size v' (n + m) (xs ++ news) → w.grownBy w' v.ownBlock → (v'.ownBlock = v.ownBlock ∨ v'.ownBlock = some w.heap.size) → wpList P ops Q rest (a.put o.dst v') w') : wpList P ops Q (o :: rest) a w := by
  obtain ⟨v', w', hrun, h2, h3, h4⟩ := run_app (P := P) E o.type base v n xs hown A m c news hr h1 h63 hbytes hbase
  refine wpList_step fun K hK => ?_
  rw [if_pos hgd]
  unfold Oper.wp execOp
  simp only [ho, resolve, invoke, builtin, Sem.run_bind, Sem.run_pure, Result.andThen_ok, List.map_toArray, List.map_cons, List.map_nil, hs, hx, hrun]
  exact hK _ _ (h v' w' h2 h3 h4)
theorem Fl.same_rfl2 (x : Fl) : x.same x = true := by simp [Fl.same]
theorem Wa.same_rfl2 (x : Wa) : x.same x = true := by simp [Wa.same]
theorem wa_own {w : World} {base : Nat} {e : TypeId} {A : Option Addr} {n c : Nat} {l : List Wa} (h : w.ownsRow base e 5 (.slice A n c) n (waCells l)) : l.length = n := by
  have := h.1
  have e : (waCells l).length = l.length * 5 := by
    clear h this
    induction l with
    | nil => rfl
    | cons x r ih => simp only [waCells, List.flatMap_cons, List.length_append, List.length_cons] at *; have : x.cells.length = 5 := rfl; omega
  omega
theorem ksameF_own {b1 b2 : Nat} (l : List Fl) {n : Nat} {a1 a2 : Option Addr} {c1 c2 : Nat} {w : World} (h1 : w.ownsRow b1 144 3 (.slice a1 n c1) n (flCells l)) (h2 : w.ownsRow b2 144 3 (.slice a2 n c2) n (flCells l)) (hl : n ≤ 2 ^ 30) :
    Calls Try.prog 82 #[.slice a1 n c1, .slice a2 n c2] w fun e w' => RetB w true e w' := by
  obtain rfl := fl_own h1
  obtain ⟨_, _, e1, _, m1⟩ := own_form h1
  obtain ⟨_, _, e2, _, m2⟩ := own_form h2
  injection e1 with _ _ e1
  injection e2 with _ _ e2
  subst e1 e2
  have := ksameF_calls b1 b2 l l a1 c1 a2 c2 w h1 h2 (by omega) m1 m2
  rwa [eqL_rfl Fl.same_rfl2] at this
theorem ksameW_own {b1 b2 : Nat} (l : List Wa) {n : Nat} {a1 a2 : Option Addr} {c1 c2 : Nat} {w : World} (h1 : w.ownsRow b1 152 5 (.slice a1 n c1) n (waCells l)) (h2 : w.ownsRow b2 152 5 (.slice a2 n c2) n (waCells l)) (hl : n ≤ 2 ^ 30) :
    Calls Try.prog 84 #[.slice a1 n c1, .slice a2 n c2] w fun e w' => RetB w true e w' := by
  obtain rfl := wa_own h1
  obtain ⟨_, _, e1, _, m1⟩ := own_form h1
  obtain ⟨_, _, e2, _, m2⟩ := own_form h2
  injection e1 with _ _ e1
  injection e2 with _ _ e2
  subst e1 e2
  have := ksameW_calls b1 b2 l l a1 c1 a2 c2 w h1 h2 (by omega) m1 m2
  rwa [eqL_rfl Wa.same_rfl2] at this
theorem turn_ways (x : Wa) (h : x.sideOk) : (x.ch = true ∧ x.turn (-1) = ⟨true, x.name, x.label, x.day, 1 - x.side⟩ ∧ 0 ≤ x.side ∧ x.side ≤ 1) ∨ (x.ch = false ∧ x.turn (-1) = ⟨false, x.name, x.label, x.day, x.side⟩) := by
  obtain ⟨a, b, c, d, e⟩ := x
  have hs : e = 0 ∨ e = 1 := h
  cases a with
  | true => exact .inl ⟨rfl, by simp [Wa.turn], by rcases hs with h | h <;> simp only <;> omega, by rcases hs with h | h <;> simp only <;> omega⟩
  | false => exact .inr ⟨rfl, by simp [Wa.turn]⟩
theorem max_sp (d m D : Int) (h : D = Max.max d m) : (d < m ∧ m = D) ∨ (m ≤ d ∧ d = D) := by omega

set_option maxRecDepth 100000 in
set_option maxHeartbeats 12800000 in
theorem cashLaws_walk (p q : Pl) (a1 : Option Addr) (n1 c1 : Nat) (l1 : List Int) (a2 : Option Addr) (n2 c2 : Nat) (l2 : List Int) (day when_ : Int) (w : World) (hp : p.In (· < w.heap.size) w) (hq : q.In (· < w.heap.size) w) (hl1 : InInts w a1 n1 c1 l1) (hl2 : InInts w a2 n2 c2 l2) (hd : (Lit.int .i64 day).wf = true) (hvv : (Lit.int .i64 when_).wf = true) :
    Calls Try.prog 30 #[p.val, q.val, .slice a1 n1 c1, .slice a2 n2 c2, .int .i64 day, .int .i64 when_] w fun e w' => e = .returned (.bool true) ∧ Ext w w' := by
  have hb1 := i64_of hvv
  have hb2 := i64_of hd
  have HW7 := fun W => within_calls day 7 W (by omega) (by omega) hb2.1 hb2.2
  have HW9 := fun W => within_calls when_ 9 W (by omega) (by omega) hb1.1 hb1.2
  have m1 : 0 ≤ day % 7 := Int.emod_nonneg _ (by omega)
  have m2 : day % 7 < 7 := Int.emod_lt_of_pos _ (by omega)
  have m3 : 0 ≤ when_ % 9 := Int.emod_nonneg _ (by omega)
  have m4 : when_ % 9 < 9 := Int.emod_lt_of_pos _ (by omega)
  generalize day % 7 = d at *
  generalize when_ % 9 = m at *
  have hdB : dayB d = true := (dayB_iff d).2 (by omega)
  have hmB : dayB m = true := (dayB_iff m).2 (by omega)
  obtain ⟨o, ho, hoc⟩ := rightT_ok p
  obtain ⟨r, hr, hrc⟩ := rightT_ok q
  have hwf := ho.wf
  have hwr := hr.wf
  have hnd := (Te.checked_form hoc).2.1
  have hnr := (Te.checked_form hrc).2.1
  have P1 := fun W (hW : Ext w W) => right_tree p W ((hp.ext hW).weak (fun y hy => Nat.lt_of_lt_of_le hy hW.le))
  have P2 := fun (h : HT) (t : Nat → Prop) (W : World) (e : h.tr = rightT p) (hin : h.In t W) => pterm_at ho.is hwf h t W e hin
  have Q1 := fun W (hW : Ext w W) => right_tree q W ((hq.ext hW).weak (fun y hy => Nat.lt_of_lt_of_le hy hW.le))
  have Q2 := fun (h : HT) (t : Nat → Prop) (W : World) (e : h.tr = rightT q) (hin : h.In t W) => pterm_at hr.is hwr h t W e hin
  have K1 := fun W (hW : Ext w W) => known10_calls W a1 n1 c1 l1 a2 n2 c2 l2 ⟨hl1.1.ext hW, hl1.2⟩ ⟨hl2.1.ext hW, hl2.2⟩
  have HA := fun (F : FixL) (C : ChL) (p f c : Nat) (d : Int) W (hW : Wld W p f c F C) => cof_calls p f c F C ⟨#[116]⟩ o d W hwf (by omega) hW
  have HB := fun (F : FixL) (C : ChL) (p f c : Nat) W (hW : Wld W p f c F C) => cof_calls p f c F C ⟨#[116]⟩ r d W hwr (by omega) hW
  have HG := fun (F : FixL) (C : ChL) (p f c : Nat) W (hW : Wld W p f c F C) => cof_calls p f c F C ⟨#[116]⟩ (.give o) d W hwf (by simp only [Te.nodes]; omega) hW
  have HN := fun (F : FixL) (C : ChL) (p f c : Nat) W (hW : Wld W p f c F C) => cof_calls p f c F C ⟨#[116]⟩ (.and o r) d W ⟨hwf, hwr⟩ (by simp only [Te.nodes]; omega) hW
  have HM := fun (F : FixL) (C : ChL) (p f c : Nat) W (hW : Wld W p f c F C) => cof_calls p f c F C ⟨#[116]⟩ (.whn m o) d W ⟨⟨by omega, by omega⟩, hwf⟩ (by simp only [Te.nodes]; omega) hW
  have HS := fun (F : FixL) (C : ChL) (p f c : Nat) W (hW : Wld W p f c F C) => cof_calls p f c F C ⟨#[116]⟩ (.scale (.const 0) o) d W ⟨⟨by omega, by omega⟩, hwf⟩ (by simp only [Te.nodes, Ob.nodes]; omega) hW
  have TG := fun W => tcheck_calls (.give o) W hwf (by simp only [Te.nodes]; omega)
  have TN := fun W => tcheck_calls (.and o r) W ⟨hwf, hwr⟩ (by simp only [Te.nodes]; omega)
  have TM := fun W => tcheck_calls (.whn m o) W ⟨⟨by omega, by omega⟩, hwf⟩ (by simp only [Te.nodes]; omega)
  have TS := fun W => tcheck_calls (.scale (.const 0) o) W ⟨⟨by omega, by omega⟩, hwf⟩ (by simp only [Te.nodes, Ob.nodes]; omega)
  have hways := Lib.hid (fun (F : FixL) (C : ChL) => cashOf_ways (F := F) (C := C) (id := ⟨#[116]⟩) hoc hdB)
  have hwayr := Lib.hid (fun (F : FixL) (C : ChL) => cashOf_ways (F := F) (C := C) (id := ⟨#[116]⟩) hrc hdB)
  have gW := Lib.hid (fun (F : FixL) (C : ChL) (st : CSt) (ht : (Te.give o).checked = 0) hA => give_ways (F := F) (C := C) (id := ⟨#[116]⟩) (st := st) ht hdB hA hoc)
  have nW := Lib.hid (fun (F : FixL) (C : ChL) (st su : CSt) (ht : (Te.and o r).checked = 0) hA hB => and_ways (F := F) (C := C) (id := ⟨#[116]⟩) (st := st) (su := su) ht hdB hoc hrc hA hB)
  have mW := Lib.hid (fun (F : FixL) (C : ChL) (ht : (Te.whn m o).checked = 0) => whn_ways (F := F) (C := C) (id := ⟨#[116]⟩) ht hdB hmB hoc)
  have sW := Lib.hid (fun (F : FixL) (C : ChL) (ht : (Te.scale (.const 0) o).checked = 0) => scale0_ways (F := F) (C := C) (id := ⟨#[116]⟩) ht hdB)
  have dW := Lib.hid (fun (F : FixL) (C : ChL) (st : CSt) hA => cash_days (F := F) (C := C) (id := ⟨#[116]⟩) (st := st) hdB hoc hA)
  have rW := Lib.hid (fun (F : FixL) (C : ChL) (st : CSt) hA => cash_days (F := F) (C := C) (id := ⟨#[116]⟩) (st := st) hdB hrc hA)
  have lW := Lib.hid (fun (F : FixL) (C : ChL) (e : Int) => (cashOf_len (F := F) (C := C) (id := ⟨#[116]⟩) (o := o) (d := e) hnd))
  obtain ⟨kx, vx, ex⟩ := Te.form_cl ho.clean
  obtain ⟨ky, vy, ey⟩ := Te.form_cl hr.clean
  have v1 : (Te.give o).val = .iface 99 (.agg #[.iface kx vx]) := by simp only [Te.val, ex]
  have v2 : (Te.and o r).val = .iface 118 (.agg #[.iface kx vx, .iface ky vy]) := by simp only [Te.val, ex, ey]
  have v3 : (Te.whn m o).val = .iface 106 (.agg #[.int .i64 m, .iface kx vx]) := by simp only [Te.val, ex]
  have v4 : (Te.scale (.const 0) o).val = .iface 108 (.agg #[.iface 52 (.agg #[.int .i64 0]), .iface kx vx]) := by simp only [Te.val, Ob.val, ex]
  simp only [v1, v2, v3, v4, ex, ey] at P2 Q2 HA HB HG HN HM HS TG TN TM TS
  clear hvv hd hb1 hb2 hp hq hl1 hl2 ho hr hoc hrc hwf hwr ex ey hdB hmB hnd hnr v1 v2 v3 v4
  generalize rightT p = T1 at *
  generalize rightT q = T2 at *
  unfold Pl.val at *
  have hs2 : w.heap.size < w.heap.size + 1 + 1 := by omega
  go_enter Try.func30, Try.ntmps30
  go_wp2_with fail
  go_region_held3 (fun W => W.cell? ⟨w.heap.size, 0, none⟩ = some (.slice p.a p.n p.c) ∧ W.cell? ⟨w.heap.size, 1, none⟩ = some (.slice p.a2 p.n2 p.c2) ∧ W.cell? ⟨w.heap.size + 1, 0, none⟩ = some (.slice q.a q.n q.c) ∧ W.cell? ⟨w.heap.size + 1, 1, none⟩ = some (.slice q.a2 q.n2 q.c2)) (go_keep)
    (first | (go_at_call 67; (with_reducible refine (P1 _ ((by repeat' (first | (with_reducible exact Ext.refl _) | (with_reducible assumption) | (with_reducible refine Ext.alloc ?_ _) | (with_reducible refine Ext.drew ?_) | (with_reducible refine Ext.drewN ?_ _) | (with_reducible refine Ext.setCell ?_ (by first | exact Nat.le_refl _ | (simp; done) | (simp; omega) | omega) _) | (with_reducible refine Ext.trans ?_ (by assumption)))))).mono ?_); rintro e w5 ⟨h5, rfl, ht5, hi5, hv5⟩; obtain ⟨hc5, hf5⟩ := hv5.cells; have hbl5 : w.heap.size + 1 < w5.heap.size := by { have := hv5.le; (try simp at this); omega }; have hbk5 : w.heap.size < w5.heap.size := (by omega)) | (go_at_call 67; (with_reducible refine (Q1 _ ((by repeat' (first | (with_reducible exact Ext.refl _) | (with_reducible assumption) | (with_reducible refine Ext.alloc ?_ _) | (with_reducible refine Ext.drew ?_) | (with_reducible refine Ext.drewN ?_ _) | (with_reducible refine Ext.setCell ?_ (by first | exact Nat.le_refl _ | (simp; done) | (simp; omega) | omega) _) | (with_reducible refine Ext.trans ?_ (by assumption)))))).mono ?_); rintro e w8 ⟨h8, rfl, ht8, hi8, hv8⟩; obtain ⟨hc8, hf8⟩ := hv8.cells; have hbl8 : w.heap.size + 1 < w8.heap.size := by { have := hv8.le; (try simp at this); omega }; have hbk8 : w.heap.size < w8.heap.size := (by omega)) | (go_at_call 66; (with_reducible refine (P2 _ _ _ (by assumption) (by assumption)).mono ?_); rintro e w6 ⟨rfl, hv6⟩; obtain ⟨hc6, hf6⟩ := hv6.cells; have hbl6 : w.heap.size + 1 < w6.heap.size := by { have := hv6.le; (try simp at this); omega }; have hbk6 : w.heap.size < w6.heap.size := (by omega)) | (go_at_call 66; (with_reducible refine (Q2 _ _ _ (by assumption) (by assumption)).mono ?_); rintro e w9 ⟨rfl, hv9⟩; obtain ⟨hc9, hf9⟩ := hv9.cells; have hbl9 : w.heap.size + 1 < w9.heap.size := by { have := hv9.le; (try simp at this); omega }; have hbk9 : w.heap.size < w9.heap.size := (by omega)))
  clear P1 P2 Q1 Q2
  have hE9 : Ext w w9 := ((by repeat' (first | (with_reducible exact Ext.refl _) | (with_reducible assumption) | (with_reducible refine Ext.alloc ?_ _) | (with_reducible refine Ext.drew ?_) | (with_reducible refine Ext.drewN ?_ _) | (with_reducible refine Ext.setCell ?_ (by first | exact Nat.le_refl _ | (simp; done) | (simp; omega) | omega) _) | (with_reducible refine Ext.trans ?_ (by assumption)))))
  clear hs2 hc5 hf5 hc6 hf6 hc8 hf8 hc9 hf9 hi5 hi8 ht5 ht8 hv5 hv6 hv8 hv9
  (go_wp2_with fail; (with_reducible refine (K1 _ hE9).mono ?_); rintro e w6 ⟨P, f, c, q6, v1, v2, F, C, rfl, hTw, hCk⟩)
  have hW6 := hTw.a.wld
  have hE6 := Lib.hid (hE9.trans hTw.a.ext)
  clear K1 hTw hCk hE9
  (go_wp2_with fail; (with_reducible refine (HW7 _).mono ?_); rintro e w' ⟨rfl, rfl⟩)
  (go_wp2_with fail; (with_reducible refine (HW9 _).mono ?_); rintro e w' ⟨rfl, rfl⟩)
  have HA := fun (d : Int) W (hW : Ext w6 W) => HA F C P f c d W (hW6.ext hW)
  have HB := fun W (hW : Ext w6 W) => HB F C P f c W (hW6.ext hW)
  have HG := fun W (hW : Ext w6 W) => HG F C P f c W (hW6.ext hW)
  have HN := fun W (hW : Ext w6 W) => HN F C P f c W (hW6.ext hW)
  have HM := fun W (hW : Ext w6 W) => HM F C P f c W (hW6.ext hW)
  have HS := fun W (hW : Ext w6 W) => HS F C P f c W (hW6.ext hW)
  clear hW6 HW7 HW9
  (go_wp2_with fail; (with_reducible refine (HA d _ (Ext.refl _)).mono ?_); rintro e w7 ⟨u1, u2, rfl, hfa, hwa, hx7⟩)
  obtain ⟨A1, C1, rfl, ha1, ha2⟩ := own_form hfa
  obtain ⟨A2, C2, rfl, ha3, ha4⟩ := own_form hwa
  (go_wp2_with fail; (with_reducible refine (HB _ hx7).mono ?_); rintro e w8 ⟨u3, u4, rfl, hfb, hwb, hx8⟩)
  obtain ⟨B1, D1, rfl, hb1, hb2⟩ := own_form hfb
  obtain ⟨B2, D2, rfl, hb3, hb4⟩ := own_form hwb
  unfold maxLen at ha2 ha4 hb2 hb4
  have hE8 := Lib.hid (hx7.trans hx8)
  rcases hways.out F C with ⟨e1, _⟩ | ⟨e1, e0⟩
  · rw [e1] at hfa hwa ⊢
    clear hfa hwa hfb hwb HA HB HG HN HM HS TG TN TM TS e1 hx7 hx8
    (go_wp2_with fail; (with_reducible refine (wakes10_calls _).mono ?_); rintro e w' ⟨rfl, hxe⟩)
    go_wp2
    go_ret
    exact ⟨rfl, hE6.out.trans (hE8.out.trans hxe)⟩
  obtain ⟨af, aw, hA⟩ : ∃ af aw, cashOf F C ⟨#[116]⟩ o d = (0, (af, aw)) := ⟨_, _, by rw [e1, ← e0]⟩
  clear e1 e0
  obtain ⟨hdays, hsides, hln1, hln2⟩ := dW.out F C _ hA
  rw [hA] at hfa hwa ha1 ha3 ⊢
  obtain ⟨be, bf, bw, hB, hbe⟩ : ∃ be bf bw, cashOf F C ⟨#[116]⟩ r d = (be, (bf, bw)) ∧ (be = 6 ∨ (be = 0 ∧ bf.length ≤ 60)) := by
    rcases hwayr.out F C with ⟨e1, _⟩ | ⟨e1, e0⟩
    · exact ⟨6, [], [], e1, .inl rfl⟩
    · refine ⟨0, _, _, by rw [e1, ← e0], .inr ⟨rfl, ?_⟩⟩
      exact (rW.out F C _ (by rw [e1, ← e0])).2.2.1
  rw [hB] at hfb hwb hb1 hb3 ⊢
  have gA := Lib.hid (fun ht => gW.out F C _ ht hA)
  have nA := Lib.hid (fun ht (h : be = 0) => nW.out F C _ _ ht hA (by rw [hB, h]))
  have mA := Lib.hid (fun ht => mW.out F C ht)
  have sA := Lib.hid (fun ht => sW.out F C ht)
  have lA := Lib.hid (fun e => lW.out F C e)
  simp only at *
  have hfa8 := Lib.hid (hx8.own hfa)
  have hwa8 := Lib.hid (hx8.own hwa)
  have hfb8 := Lib.hid hfb
  have hdays := Lib.hid hdays
  have hsides := Lib.hid hsides
  clear hfa hwa hfb hwb hx7 hx8 hA hB gW nW mW sW dW rW hways hwayr HB
  go_wp2_with fail
  go_loopw [92] (fun i wr => ∃ j : Nat, j ≤ af.length ∧ i = .int .i64 j ∧ Ext w8 wr) (fun i _ => af.length - (intOf i).toNat)
  case atStart => exact ⟨0, by omega, rfl, Ext.refl _⟩
  case round =>
    obtain ⟨j, hj, rfl, hx⟩ := hrel
    by_cases hlt : j < af.length
    · have e1 : af[j]? = some af[j] := List.getElem?_eq_getElem hlt
      generalize af[j] = x at e1
      obtain ⟨g1, rfl, q0, q1, q2⟩ := fl_at (hx.own hfa8.out) e1 hlt
      obtain ⟨y1, y2, y3⟩ := hdays.out x (List.mem_of_getElem? e1)
      have y2' : (x.amt == 0) = false := beq_eq_false_iff_ne.2 y2
      have hj0 := Lib.hid (show j + 1 ≤ af.length from hlt)
      have hx0 := Lib.hid hx
      have hji : (j : Int) < (af.length : Int) := by omega
      have hji0 : (0 : Int) ≤ (j : Int) := by omega
      clear e1 hx TG TN TM TS HA HG HN HM HS
      go_wp2_with fail
      go_roundw
      case rel => exact ⟨j + 1, hj0.out, by go_num, hx0.out⟩
      case measure => simp [intOf]; omega
    · obtain rfl : j = af.length := by omega
      have hE1 := hE8.out.trans hx
      have hfa1 := Lib.hid (hx.own hfa8.out)
      have hwa1 := Lib.hid (hx.own hwa8.out)
      have hfb1 := Lib.hid (hx.own hfb8.out)
      clear hfa8 hwa8 hfb8 hx hE8
      generalize (Te.give o).checked = kg at *
      generalize (Te.and o r).checked = kn at *
      generalize (Te.whn m o).checked = km at *
      generalize (Te.scale (.const 0) o).checked = ks at *
      (go_wp2_with fail; (with_reducible refine (TG _).mono ?_); rintro e w' ⟨rfl, hx1⟩)
      clear TG
      have hE2 := hE1.trans hx1
      have hfa2 := Lib.hid (hx1.own hfa1.out)
      have hwa2 := Lib.hid (hx1.own hwa1.out)
      have hfb2 := Lib.hid (hx1.own hfb1.out)
      clear hfa1 hwa1 hfb1 hx1 hE1
      go_upto_if 115 with fail
      go_cut [] from 43 to 320 (fun wx => Ext w' wx)
      case first =>
        as_aux_lemma =>
          clear HA HN HM HS TN TM TS nA mA sA lA
          by_cases hk : kg = 0
          · subst hk
            have hgv := gA.out rfl
            (go_wp2_with fail; (with_reducible refine (HG _ hE2).mono ?_); rintro e wg ⟨u5, u6, rfl, hfg, hwg, hxg⟩)
            rw [hgv] at hfg hwg ⊢
            simp only [timesS, times_neg, List.length_map] at hfg hwg ⊢
            obtain ⟨G1, I1, rfl, hg1, hg2⟩ := own_form hfg
            obtain ⟨G2, I2, rfl, hg3, hg4⟩ := own_form hwg
            have HT := turned_calls _ af A1 C1 wg (hxg.own hfa2.out) (by omega) (by unfold maxLen; omega) (fun x hx => (hdays.out x hx).2.2)
            (go_wp2_with fail; (with_reducible refine HT.mono ?_); rintro e wt ⟨u7, rfl, hft, hxt⟩)
            obtain ⟨T1, J1, rfl, ht1, ht2⟩ := own_form hft
            unfold maxLen at hg2 hg4 ht2
            have HSm := ksameF_own _ (hxt.own hfg) hft (by omega)
            (go_wp2_with fail; (with_reducible refine HSm.mono ?_); rintro e wk ⟨rfl, hxk⟩)
            have hE3 := Lib.hid (hxg.trans (hxt.trans hxk))
            have hwg3 := Lib.hid ((hxt.trans hxk).own hwg)
            have hwa3 := Lib.hid ((hxg.trans (hxt.trans hxk)).own hwa2.out)
            clear hfg hwg hft HT HSm hxg hxt hxk hgv HG
            go_wp2_with fail
            go_loopw [144] (fun i wq => ∃ j : Nat, j ≤ aw.length ∧ i = .int .i64 j ∧ Ext wk wq) (fun i _ => aw.length - (intOf i).toNat)
            case atStart => exact ⟨0, by omega, rfl, Ext.refl _⟩
            case round =>
              obtain ⟨k, hk, rfl, hxk⟩ := hrel
              by_cases hlt2 : k < aw.length
              · have e1 : aw[k]? = some aw[k] := List.getElem?_eq_getElem hlt2
                generalize aw[k] = x at e1
                obtain ⟨g2, rfl, q0, q1, q2, q3, q4⟩ := wa_at (hxk.own hwa3.out) e1 hlt2
                obtain ⟨g4, rfl, r0, r1, r2, r3, r4⟩ := wa_at (x := x.turn (-1)) (hxk.own hwg3.out) (by rw [List.getElem?_map, e1]; rfl) hlt2
                have hj0 := Lib.hid (show k + 1 ≤ aw.length from hlt2)
                have hx1 := Lib.hid hxk
                have hji : (k : Int) < (aw.length : Int) := by omega
                have hji0 : (0 : Int) ≤ (k : Int) := by omega
                have htw := turn_ways x (hsides.out x (List.mem_of_getElem? e1))
                clear e1 hxk
                rcases htw with ⟨k1, k2, k3, k4⟩ | ⟨k1, k2⟩
                · rw [k2] at r0 r1 r2 r3 r4
                  rw [k1] at q0
                  simp only at r0 r1 r2 r3 r4
                  clear k1 k2
                  go_upto_region 23 with fail
                  go_cut [217] from 147 to 217 (fun v wx => v = .bool false ∧ Ext wr wx)
                  case first =>
                    as_aux_lemma =>
                      rename_i J K1 hJ hK1
                      refine wp_region_all 71 [0, 1, 2, 3, 4, 5, 6, 7, 8, 9, 10, 11, 12, 13, 14, 15, 16, 17, 18, 19, 20, 21, 22, 23, 24, 25, 26, 27, 28, 29, 30, 31, 32, 33, 34, 35, 36, 37, 38, 39, 40, 41, 42, 43, 44, 45, 46, 47, 48, 49, 50, 51, 52, 53, 54, 55, 56, 57, 58, 59, 60, 61, 62, 63, 64, 65, 66, 67, 68, 69, 70] [147, 148, 149, 150, 151, 152, 153, 154, 155, 156, 157, 158, 159, 160, 161, 162, 163, 164, 165, 166, 167, 168, 169, 170, 171, 172, 173, 174, 175, 176, 177, 178, 179, 180, 181, 182, 183, 184, 185, 186, 187, 188, 189, 190, 191, 192, 193, 194, 195, 196, 197, 198, 199, 200, 201, 202, 203, 204, 205, 206, 207, 208, 209, 210, 211, 212, 213, 214, 215, 216, 217] (fun i _ u => u = ([.slice (some ⟨g4, 0, none⟩) aw.length I2, .int .i64 (k : Int), .pointer (some ⟨g4, k * 5, none⟩), .pointer (some ⟨g4, k * 5, none⟩), .bool true, .slice (some ⟨g2, 0, none⟩) aw.length C2, .int .i64 (k : Int), .pointer (some ⟨g2, k * 5, none⟩), .pointer (some ⟨g2, k * 5, none⟩), .bool true, .bool false, .bool false, .slice (some ⟨g4, 0, none⟩) aw.length I2, .int .i64 (k : Int), .pointer (some ⟨g4, k * 5, none⟩), .pointer (some ⟨g4, k * 5, none⟩), .bool true, .bool true, .slice (some ⟨g4, 0, none⟩) aw.length I2, .int .i64 (k : Int), .pointer (some ⟨g4, k * 5, none⟩), .pointer (some ⟨g4, k * 5 + 4, none⟩), .int .i64 (1 - x.side), .slice (some ⟨g2, 0, none⟩) aw.length C2, .int .i64 (k : Int), .pointer (some ⟨g2, k * 5, none⟩), .pointer (some ⟨g2, k * 5 + 4, none⟩), .int .i64 x.side, .int .i64 (1 - x.side), .bool false, .bool false, .bool false, .bool false, .slice (some ⟨g4, 0, none⟩) aw.length I2, .int .i64 (k : Int), .pointer (some ⟨g4, k * 5, none⟩), .pointer (some ⟨g4, k * 5 + 3, none⟩), .int .i64 x.day, .slice (some ⟨g2, 0, none⟩) aw.length C2, .int .i64 (k : Int), .pointer (some ⟨g2, k * 5, none⟩), .pointer (some ⟨g2, k * 5 + 3, none⟩), .int .i64 x.day, .bool false, .bool false, .bool false, .slice (some ⟨g4, 0, none⟩) aw.length I2, .int .i64 (k : Int), .pointer (some ⟨g4, k * 5, none⟩), .pointer (some ⟨g4, k * 5 + 1, none⟩), .string x.name, .slice (some ⟨g2, 0, none⟩) aw.length C2, .int .i64 (k : Int), .pointer (some ⟨g2, k * 5, none⟩), .pointer (some ⟨g2, k * 5 + 1, none⟩), .string x.name, .bool false, .bool false, .bool false, .slice (some ⟨g4, 0, none⟩) aw.length I2, .int .i64 (k : Int), .pointer (some ⟨g4, k * 5, none⟩), .pointer (some ⟨g4, k * 5 + 2, none⟩), .string x.label, .slice (some ⟨g2, 0, none⟩) aw.length C2, .int .i64 (k : Int), .pointer (some ⟨g2, k * 5, none⟩), .pointer (some ⟨g2, k * 5 + 2, none⟩), .string x.label, .bool false, .bool false] : List Value).getD i undef) (fun _ W => Ext wr W) (by kernel_rfl) rfl (by kernel_rfl) rfl rfl (by decide +kernel) rfl ?_ ?_ ?_
                      · exact (Ext.refl _).drew
                      · refine slots_cons rfl ?_ (slots_cons rfl ?_ (slots_cons rfl ?_ (slots_cons rfl ?_ (slots_cons rfl ?_ (slots_cons rfl ?_ (slots_cons rfl ?_ (slots_cons rfl ?_ (slots_cons rfl ?_ (slots_cons rfl ?_ (slots_cons rfl ?_ (slots_cons rfl ?_ (slots_cons rfl ?_ (slots_cons rfl ?_ (slots_cons rfl ?_ (slots_cons rfl ?_ (slots_cons rfl ?_ (slots_cons rfl ?_ (slots_cons rfl ?_ (slots_cons rfl ?_ (slots_cons rfl ?_ (slots_cons rfl ?_ (slots_cons rfl ?_ (slots_cons rfl ?_ (slots_cons rfl ?_ (slots_cons rfl ?_ (slots_cons rfl ?_ (slots_cons rfl ?_ (slots_cons rfl ?_ (slots_cons rfl ?_ (slots_cons rfl ?_ (slots_cons rfl ?_ (slots_cons rfl ?_ (slots_cons rfl ?_ (slots_cons rfl ?_ (slots_cons rfl ?_ (slots_cons rfl ?_ (slots_cons rfl ?_ (slots_cons rfl ?_ (slots_cons rfl ?_ (slots_cons rfl ?_ (slots_cons rfl ?_ (slots_cons rfl ?_ (slots_cons rfl ?_ (slots_cons rfl ?_ (slots_cons rfl ?_ (slots_cons rfl ?_ (slots_cons rfl ?_ (slots_cons rfl ?_ (slots_cons rfl ?_ (slots_cons rfl ?_ (slots_cons rfl ?_ (slots_cons rfl ?_ (slots_cons rfl ?_ (slots_cons rfl ?_ (slots_cons rfl ?_ (slots_cons rfl ?_ (slots_cons rfl ?_ (slots_cons rfl ?_ (slots_cons rfl ?_ (slots_cons rfl ?_ (slots_cons rfl ?_ (slots_cons rfl ?_ (slots_cons rfl ?_ (slots_cons rfl ?_ (slots_cons rfl ?_ (slots_cons rfl ?_ (slots_cons rfl ?_ (slots_cons rfl ?_ (slots_cons rfl ?_ (slots_cons rfl ?_ slots_nil))))))))))))))))))))))))))))))))))))))))))))))))))))))))))))))))))))))
                        · intro l a W hs ho hG hd hne K' hK
                          have b25 : a.tmps[25]?.getD undef = .slice (some ⟨g4, 0, none⟩) aw.length I2 := ho.ev 25 rfl
                          clear hd ho hne
                          go_simp
                          exact hK _ _ rfl hG (fun j' v' _ hf => hf)
                        · intro l a W hs ho hG hd hne K' hK
                          have b27 : a.tmps[27]?.getD undef = .int .i64 (k : Int) := ho.ev 27 rfl
                          clear hd ho hne
                          go_simp
                          exact hK _ _ rfl hG (fun j' v' _ hf => hf)
                        · intro l a W hs ho hG hd hne K' hK
                          have e0 : a.tmps[147]?.getD undef = .slice (some ⟨g4, 0, none⟩) aw.length I2 := hd ⟨0, .data⟩ (by simp) rfl
                          have e1 : a.tmps[148]?.getD undef = .int .i64 (k : Int) := hd ⟨1, .data⟩ (by simp) rfl
                          have hj1 := hji
                          have hj2 := hji0
                          clear hd ho hne
                          go_simp
                          exact hK _ _ rfl hG (fun j' v' _ hf => hf)
                        · intro l a W hs ho hG hd hne K' hK
                          have e2 : a.tmps[149]?.getD undef = .pointer (some ⟨g4, k * 5, none⟩) := hd ⟨2, .data⟩ (by simp) rfl
                          clear hd ho hne
                          go_simp
                          exact hK _ _ rfl hG (fun j' v' _ hf => hf)
                        · intro l a W hs ho hG hd hne K' hK
                          have e3 : a.tmps[150]?.getD undef = .pointer (some ⟨g4, k * 5, none⟩) := hd ⟨3, .data⟩ (by simp) rfl
                          have hcl := hG.cell r0
                          clear hd ho hne
                          go_simp
                          exact hK _ _ rfl hG (fun j' v' _ hf => hf)
                        · intro l a W hs ho hG hd hne K' hK
                          have b18 : a.tmps[18]?.getD undef = .slice (some ⟨g2, 0, none⟩) aw.length C2 := ho.ev 18 rfl
                          clear hd ho hne
                          go_simp
                          exact hK _ _ rfl hG (fun j' v' _ hf => hf)
                        · intro l a W hs ho hG hd hne K' hK
                          have b27 : a.tmps[27]?.getD undef = .int .i64 (k : Int) := ho.ev 27 rfl
                          clear hd ho hne
                          go_simp
                          exact hK _ _ rfl hG (fun j' v' _ hf => hf)
                        · intro l a W hs ho hG hd hne K' hK
                          have e5 : a.tmps[152]?.getD undef = .slice (some ⟨g2, 0, none⟩) aw.length C2 := hd ⟨5, .data⟩ (by simp) rfl
                          have e6 : a.tmps[153]?.getD undef = .int .i64 (k : Int) := hd ⟨6, .data⟩ (by simp) rfl
                          have hj1 := hji
                          have hj2 := hji0
                          clear hd ho hne
                          go_simp
                          exact hK _ _ rfl hG (fun j' v' _ hf => hf)
                        · intro l a W hs ho hG hd hne K' hK
                          have e7 : a.tmps[154]?.getD undef = .pointer (some ⟨g2, k * 5, none⟩) := hd ⟨7, .data⟩ (by simp) rfl
                          clear hd ho hne
                          go_simp
                          exact hK _ _ rfl hG (fun j' v' _ hf => hf)
                        · intro l a W hs ho hG hd hne K' hK
                          have e8 : a.tmps[155]?.getD undef = .pointer (some ⟨g2, k * 5, none⟩) := hd ⟨8, .data⟩ (by simp) rfl
                          have hcl := hG.cell q0
                          clear hd ho hne
                          go_simp
                          exact hK _ _ rfl hG (fun j' v' _ hf => hf)
                        · intro l a W hs ho hG hd hne K' hK
                          have e4 : a.tmps[151]?.getD undef = .bool true := hd ⟨4, .data⟩ (by simp) rfl
                          have e9 : a.tmps[156]?.getD undef = .bool true := hd ⟨9, .data⟩ (by simp) rfl
                          clear hd ho hne
                          go_simp
                          exact hK _ _ rfl hG (fun j' v' _ hf => hf)
                        · intro l a W hs ho hG hd hne K' hK
                          have e10 : a.tmps[157]?.getD undef = .bool false := hd ⟨10, .data⟩ (by simp) rfl
                          clear hd ho hne
                          go_simp
                          exact hK _ _ rfl hG (fun j' v' _ hf => hf)
                        · intro l a W hs ho hG hd hne K' hK
                          have eg : a.tmps[158]?.getD undef = .bool false := hd ⟨11, .guard⟩ (by simp) rfl
                          have b25 : a.tmps[25]?.getD undef = .slice (some ⟨g4, 0, none⟩) aw.length I2 := ho.ev 25 rfl
                          rw [if_pos (by rw [wanted_of rfl rfl eg]; rfl)]
                          clear hd ho hne eg
                          go_simp
                          exact hK _ _ rfl hG (fun j' v' _ hf => hf)
                        · intro l a W hs ho hG hd hne K' hK
                          have eg : a.tmps[158]?.getD undef = .bool false := hd ⟨11, .guard⟩ (by simp) rfl
                          have b27 : a.tmps[27]?.getD undef = .int .i64 (k : Int) := ho.ev 27 rfl
                          rw [if_pos (by rw [wanted_of rfl rfl eg]; rfl)]
                          clear hd ho hne eg
                          go_simp
                          exact hK _ _ rfl hG (fun j' v' _ hf => hf)
                        · intro l a W hs ho hG hd hne K' hK
                          have eg : a.tmps[158]?.getD undef = .bool false := hd ⟨11, .guard⟩ (by simp) rfl
                          have e12 : a.tmps[159]?.getD undef = .slice (some ⟨g4, 0, none⟩) aw.length I2 := hd ⟨12, .data⟩ (by simp) rfl
                          have e13 : a.tmps[160]?.getD undef = .int .i64 (k : Int) := hd ⟨13, .data⟩ (by simp) rfl
                          rw [if_pos (by rw [wanted_of rfl rfl eg]; rfl)]
                          have hj1 := hji
                          have hj2 := hji0
                          clear hd ho hne eg
                          go_simp
                          exact hK _ _ rfl hG (fun j' v' _ hf => hf)
                        · intro l a W hs ho hG hd hne K' hK
                          have eg : a.tmps[158]?.getD undef = .bool false := hd ⟨11, .guard⟩ (by simp) rfl
                          have e14 : a.tmps[161]?.getD undef = .pointer (some ⟨g4, k * 5, none⟩) := hd ⟨14, .data⟩ (by simp) rfl
                          rw [if_pos (by rw [wanted_of rfl rfl eg]; rfl)]
                          clear hd ho hne eg
                          go_simp
                          exact hK _ _ rfl hG (fun j' v' _ hf => hf)
                        · intro l a W hs ho hG hd hne K' hK
                          have eg : a.tmps[158]?.getD undef = .bool false := hd ⟨11, .guard⟩ (by simp) rfl
                          have e15 : a.tmps[162]?.getD undef = .pointer (some ⟨g4, k * 5, none⟩) := hd ⟨15, .data⟩ (by simp) rfl
                          rw [if_pos (by rw [wanted_of rfl rfl eg]; rfl)]
                          have hcl := hG.cell r0
                          clear hd ho hne eg
                          go_simp
                          exact hK _ _ rfl hG (fun j' v' _ hf => hf)
                        · intro l a W hs ho hG hd hne K' hK
                          have eg : a.tmps[158]?.getD undef = .bool false := hd ⟨11, .guard⟩ (by simp) rfl
                          have e16 : a.tmps[163]?.getD undef = .bool true := hd ⟨16, .data⟩ (by simp) rfl
                          rw [if_pos (by rw [wanted_of rfl rfl eg]; rfl)]
                          clear hd ho hne eg
                          go_simp
                          exact hK _ _ rfl hG (fun j' v' _ hf => hf)
                        · intro l a W hs ho hG hd hne K' hK
                          have eg : a.tmps[164]?.getD undef = .bool true := hd ⟨17, .guard⟩ (by simp) rfl
                          have b25 : a.tmps[25]?.getD undef = .slice (some ⟨g4, 0, none⟩) aw.length I2 := ho.ev 25 rfl
                          rw [if_pos (by rw [wanted_of rfl rfl eg]; rfl)]
                          clear hd ho hne eg
                          go_simp
                          exact hK _ _ rfl hG (fun j' v' _ hf => hf)
                        · intro l a W hs ho hG hd hne K' hK
                          have eg : a.tmps[164]?.getD undef = .bool true := hd ⟨17, .guard⟩ (by simp) rfl
                          have b27 : a.tmps[27]?.getD undef = .int .i64 (k : Int) := ho.ev 27 rfl
                          rw [if_pos (by rw [wanted_of rfl rfl eg]; rfl)]
                          clear hd ho hne eg
                          go_simp
                          exact hK _ _ rfl hG (fun j' v' _ hf => hf)
                        · intro l a W hs ho hG hd hne K' hK
                          have eg : a.tmps[164]?.getD undef = .bool true := hd ⟨17, .guard⟩ (by simp) rfl
                          have e18 : a.tmps[165]?.getD undef = .slice (some ⟨g4, 0, none⟩) aw.length I2 := hd ⟨18, .data⟩ (by simp) rfl
                          have e19 : a.tmps[166]?.getD undef = .int .i64 (k : Int) := hd ⟨19, .data⟩ (by simp) rfl
                          rw [if_pos (by rw [wanted_of rfl rfl eg]; rfl)]
                          have hj1 := hji
                          have hj2 := hji0
                          clear hd ho hne eg
                          go_simp
                          exact hK _ _ rfl hG (fun j' v' _ hf => hf)
                        · intro l a W hs ho hG hd hne K' hK
                          have eg : a.tmps[164]?.getD undef = .bool true := hd ⟨17, .guard⟩ (by simp) rfl
                          have e20 : a.tmps[167]?.getD undef = .pointer (some ⟨g4, k * 5, none⟩) := hd ⟨20, .data⟩ (by simp) rfl
                          rw [if_pos (by rw [wanted_of rfl rfl eg]; rfl)]
                          clear hd ho hne eg
                          go_simp
                          exact hK _ _ rfl hG (fun j' v' _ hf => hf)
                        · intro l a W hs ho hG hd hne K' hK
                          have eg : a.tmps[164]?.getD undef = .bool true := hd ⟨17, .guard⟩ (by simp) rfl
                          have e21 : a.tmps[168]?.getD undef = .pointer (some ⟨g4, k * 5 + 4, none⟩) := hd ⟨21, .data⟩ (by simp) rfl
                          rw [if_pos (by rw [wanted_of rfl rfl eg]; rfl)]
                          have hcl := hG.cell r4
                          clear hd ho hne eg
                          go_simp
                          exact hK _ _ rfl hG (fun j' v' _ hf => hf)
                        · intro l a W hs ho hG hd hne K' hK
                          have eg : a.tmps[164]?.getD undef = .bool true := hd ⟨17, .guard⟩ (by simp) rfl
                          have b18 : a.tmps[18]?.getD undef = .slice (some ⟨g2, 0, none⟩) aw.length C2 := ho.ev 18 rfl
                          rw [if_pos (by rw [wanted_of rfl rfl eg]; rfl)]
                          clear hd ho hne eg
                          go_simp
                          exact hK _ _ rfl hG (fun j' v' _ hf => hf)
                        · intro l a W hs ho hG hd hne K' hK
                          have eg : a.tmps[164]?.getD undef = .bool true := hd ⟨17, .guard⟩ (by simp) rfl
                          have b27 : a.tmps[27]?.getD undef = .int .i64 (k : Int) := ho.ev 27 rfl
                          rw [if_pos (by rw [wanted_of rfl rfl eg]; rfl)]
                          clear hd ho hne eg
                          go_simp
                          exact hK _ _ rfl hG (fun j' v' _ hf => hf)
                        · intro l a W hs ho hG hd hne K' hK
                          have eg : a.tmps[164]?.getD undef = .bool true := hd ⟨17, .guard⟩ (by simp) rfl
                          have e23 : a.tmps[170]?.getD undef = .slice (some ⟨g2, 0, none⟩) aw.length C2 := hd ⟨23, .data⟩ (by simp) rfl
                          have e24 : a.tmps[171]?.getD undef = .int .i64 (k : Int) := hd ⟨24, .data⟩ (by simp) rfl
                          rw [if_pos (by rw [wanted_of rfl rfl eg]; rfl)]
                          have hj1 := hji
                          have hj2 := hji0
                          clear hd ho hne eg
                          go_simp
                          exact hK _ _ rfl hG (fun j' v' _ hf => hf)
                        · intro l a W hs ho hG hd hne K' hK
                          have eg : a.tmps[164]?.getD undef = .bool true := hd ⟨17, .guard⟩ (by simp) rfl
                          have e25 : a.tmps[172]?.getD undef = .pointer (some ⟨g2, k * 5, none⟩) := hd ⟨25, .data⟩ (by simp) rfl
                          rw [if_pos (by rw [wanted_of rfl rfl eg]; rfl)]
                          clear hd ho hne eg
                          go_simp
                          exact hK _ _ rfl hG (fun j' v' _ hf => hf)
                        · intro l a W hs ho hG hd hne K' hK
                          have eg : a.tmps[164]?.getD undef = .bool true := hd ⟨17, .guard⟩ (by simp) rfl
                          have e26 : a.tmps[173]?.getD undef = .pointer (some ⟨g2, k * 5 + 4, none⟩) := hd ⟨26, .data⟩ (by simp) rfl
                          rw [if_pos (by rw [wanted_of rfl rfl eg]; rfl)]
                          have hcl := hG.cell q4
                          clear hd ho hne eg
                          go_simp
                          exact hK _ _ rfl hG (fun j' v' _ hf => hf)
                        · intro l a W hs ho hG hd hne K' hK
                          have eg : a.tmps[164]?.getD undef = .bool true := hd ⟨17, .guard⟩ (by simp) rfl
                          have e27 : a.tmps[174]?.getD undef = .int .i64 x.side := hd ⟨27, .data⟩ (by simp) rfl
                          rw [if_pos (by rw [wanted_of rfl rfl eg]; rfl)]
                          have hwr : IntKind.i64.wrap (1 - x.side) = 1 - x.side := wrap_id _ (by omega) (by omega)
                          clear hd ho hne eg
                          go_simp
                          exact hK _ _ rfl hG (fun j' v' _ hf => hf)
                        · intro l a W hs ho hG hd hne K' hK
                          have eg : a.tmps[164]?.getD undef = .bool true := hd ⟨17, .guard⟩ (by simp) rfl
                          have e22 : a.tmps[169]?.getD undef = .int .i64 (1 - x.side) := hd ⟨22, .data⟩ (by simp) rfl
                          have e28 : a.tmps[175]?.getD undef = .int .i64 (1 - x.side) := hd ⟨28, .data⟩ (by simp) rfl
                          rw [if_pos (by rw [wanted_of rfl rfl eg]; rfl)]
                          clear hd ho hne eg
                          go_simp
                          exact hK _ _ rfl hG (fun j' v' _ hf => hf)
                        · intro l a W hs ho hG hd hne K' hK
                          have eg : a.tmps[158]?.getD undef = .bool false := hd ⟨11, .guard⟩ (by simp) rfl
                          have e17 : a.tmps[164]?.getD undef = .bool true := hd ⟨17, .data⟩ (by simp) rfl
                          have e29 : a.tmps[176]?.getD undef = .bool false := hd ⟨29, .data⟩ (by simp) rfl
                          rw [if_pos (by rw [wanted_of rfl rfl eg]; rfl)]
                          clear hd ho hne eg
                          go_simp
                          exact hK _ _ rfl hG (fun j' v' _ hf => hf)
                        · intro l a W hs ho hG hd hne K' hK
                          have e11 : a.tmps[158]?.getD undef = .bool false := hd ⟨11, .data⟩ (by simp) rfl
                          have e30 : a.tmps[177]?.getD undef = .bool false := hd ⟨30, .data⟩ (by simp) rfl
                          clear hd ho hne
                          go_simp
                          exact hK _ _ rfl hG (fun j' v' _ hf => hf)
                        · intro l a W hs ho hG hd hne K' hK
                          have e31 : a.tmps[178]?.getD undef = .bool false := hd ⟨31, .data⟩ (by simp) rfl
                          clear hd ho hne
                          go_simp
                          exact hK _ _ rfl hG (fun j' v' _ hf => hf)
                        · intro l a W hs ho hG hd hne K' hK
                          have eg : a.tmps[179]?.getD undef = .bool false := hd ⟨32, .guard⟩ (by simp) rfl
                          have b25 : a.tmps[25]?.getD undef = .slice (some ⟨g4, 0, none⟩) aw.length I2 := ho.ev 25 rfl
                          rw [if_pos (by rw [wanted_of rfl rfl eg]; rfl)]
                          clear hd ho hne eg
                          go_simp
                          exact hK _ _ rfl hG (fun j' v' _ hf => hf)
                        · intro l a W hs ho hG hd hne K' hK
                          have eg : a.tmps[179]?.getD undef = .bool false := hd ⟨32, .guard⟩ (by simp) rfl
                          have b27 : a.tmps[27]?.getD undef = .int .i64 (k : Int) := ho.ev 27 rfl
                          rw [if_pos (by rw [wanted_of rfl rfl eg]; rfl)]
                          clear hd ho hne eg
                          go_simp
                          exact hK _ _ rfl hG (fun j' v' _ hf => hf)
                        · intro l a W hs ho hG hd hne K' hK
                          have eg : a.tmps[179]?.getD undef = .bool false := hd ⟨32, .guard⟩ (by simp) rfl
                          have e33 : a.tmps[180]?.getD undef = .slice (some ⟨g4, 0, none⟩) aw.length I2 := hd ⟨33, .data⟩ (by simp) rfl
                          have e34 : a.tmps[181]?.getD undef = .int .i64 (k : Int) := hd ⟨34, .data⟩ (by simp) rfl
                          rw [if_pos (by rw [wanted_of rfl rfl eg]; rfl)]
                          have hj1 := hji
                          have hj2 := hji0
                          clear hd ho hne eg
                          go_simp
                          exact hK _ _ rfl hG (fun j' v' _ hf => hf)
                        · intro l a W hs ho hG hd hne K' hK
                          have eg : a.tmps[179]?.getD undef = .bool false := hd ⟨32, .guard⟩ (by simp) rfl
                          have e35 : a.tmps[182]?.getD undef = .pointer (some ⟨g4, k * 5, none⟩) := hd ⟨35, .data⟩ (by simp) rfl
                          rw [if_pos (by rw [wanted_of rfl rfl eg]; rfl)]
                          clear hd ho hne eg
                          go_simp
                          exact hK _ _ rfl hG (fun j' v' _ hf => hf)
                        · intro l a W hs ho hG hd hne K' hK
                          have eg : a.tmps[179]?.getD undef = .bool false := hd ⟨32, .guard⟩ (by simp) rfl
                          have e36 : a.tmps[183]?.getD undef = .pointer (some ⟨g4, k * 5 + 3, none⟩) := hd ⟨36, .data⟩ (by simp) rfl
                          rw [if_pos (by rw [wanted_of rfl rfl eg]; rfl)]
                          have hcl := hG.cell r3
                          clear hd ho hne eg
                          go_simp
                          exact hK _ _ rfl hG (fun j' v' _ hf => hf)
                        · intro l a W hs ho hG hd hne K' hK
                          have eg : a.tmps[179]?.getD undef = .bool false := hd ⟨32, .guard⟩ (by simp) rfl
                          have b18 : a.tmps[18]?.getD undef = .slice (some ⟨g2, 0, none⟩) aw.length C2 := ho.ev 18 rfl
                          rw [if_pos (by rw [wanted_of rfl rfl eg]; rfl)]
                          clear hd ho hne eg
                          go_simp
                          exact hK _ _ rfl hG (fun j' v' _ hf => hf)
                        · intro l a W hs ho hG hd hne K' hK
                          have eg : a.tmps[179]?.getD undef = .bool false := hd ⟨32, .guard⟩ (by simp) rfl
                          have b27 : a.tmps[27]?.getD undef = .int .i64 (k : Int) := ho.ev 27 rfl
                          rw [if_pos (by rw [wanted_of rfl rfl eg]; rfl)]
                          clear hd ho hne eg
                          go_simp
                          exact hK _ _ rfl hG (fun j' v' _ hf => hf)
                        · intro l a W hs ho hG hd hne K' hK
                          have eg : a.tmps[179]?.getD undef = .bool false := hd ⟨32, .guard⟩ (by simp) rfl
                          have e38 : a.tmps[185]?.getD undef = .slice (some ⟨g2, 0, none⟩) aw.length C2 := hd ⟨38, .data⟩ (by simp) rfl
                          have e39 : a.tmps[186]?.getD undef = .int .i64 (k : Int) := hd ⟨39, .data⟩ (by simp) rfl
                          rw [if_pos (by rw [wanted_of rfl rfl eg]; rfl)]
                          have hj1 := hji
                          have hj2 := hji0
                          clear hd ho hne eg
                          go_simp
                          exact hK _ _ rfl hG (fun j' v' _ hf => hf)
                        · intro l a W hs ho hG hd hne K' hK
                          have eg : a.tmps[179]?.getD undef = .bool false := hd ⟨32, .guard⟩ (by simp) rfl
                          have e40 : a.tmps[187]?.getD undef = .pointer (some ⟨g2, k * 5, none⟩) := hd ⟨40, .data⟩ (by simp) rfl
                          rw [if_pos (by rw [wanted_of rfl rfl eg]; rfl)]
                          clear hd ho hne eg
                          go_simp
                          exact hK _ _ rfl hG (fun j' v' _ hf => hf)
                        · intro l a W hs ho hG hd hne K' hK
                          have eg : a.tmps[179]?.getD undef = .bool false := hd ⟨32, .guard⟩ (by simp) rfl
                          have e41 : a.tmps[188]?.getD undef = .pointer (some ⟨g2, k * 5 + 3, none⟩) := hd ⟨41, .data⟩ (by simp) rfl
                          rw [if_pos (by rw [wanted_of rfl rfl eg]; rfl)]
                          have hcl := hG.cell q3
                          clear hd ho hne eg
                          go_simp
                          exact hK _ _ rfl hG (fun j' v' _ hf => hf)
                        · intro l a W hs ho hG hd hne K' hK
                          have eg : a.tmps[179]?.getD undef = .bool false := hd ⟨32, .guard⟩ (by simp) rfl
                          have e37 : a.tmps[184]?.getD undef = .int .i64 x.day := hd ⟨37, .data⟩ (by simp) rfl
                          have e42 : a.tmps[189]?.getD undef = .int .i64 x.day := hd ⟨42, .data⟩ (by simp) rfl
                          rw [if_pos (by rw [wanted_of rfl rfl eg]; rfl)]
                          clear hd ho hne eg
                          go_simp
                          exact hK _ _ rfl hG (fun j' v' _ hf => hf)
                        · intro l a W hs ho hG hd hne K' hK
                          have e32 : a.tmps[179]?.getD undef = .bool false := hd ⟨32, .data⟩ (by simp) rfl
                          have e43 : a.tmps[190]?.getD undef = .bool false := hd ⟨43, .data⟩ (by simp) rfl
                          clear hd ho hne
                          go_simp
                          exact hK _ _ rfl hG (fun j' v' _ hf => hf)
                        · intro l a W hs ho hG hd hne K' hK
                          have e44 : a.tmps[191]?.getD undef = .bool false := hd ⟨44, .data⟩ (by simp) rfl
                          clear hd ho hne
                          go_simp
                          exact hK _ _ rfl hG (fun j' v' _ hf => hf)
                        · intro l a W hs ho hG hd hne K' hK
                          have eg : a.tmps[192]?.getD undef = .bool false := hd ⟨45, .guard⟩ (by simp) rfl
                          have b25 : a.tmps[25]?.getD undef = .slice (some ⟨g4, 0, none⟩) aw.length I2 := ho.ev 25 rfl
                          rw [if_pos (by rw [wanted_of rfl rfl eg]; rfl)]
                          clear hd ho hne eg
                          go_simp
                          exact hK _ _ rfl hG (fun j' v' _ hf => hf)
                        · intro l a W hs ho hG hd hne K' hK
                          have eg : a.tmps[192]?.getD undef = .bool false := hd ⟨45, .guard⟩ (by simp) rfl
                          have b27 : a.tmps[27]?.getD undef = .int .i64 (k : Int) := ho.ev 27 rfl
                          rw [if_pos (by rw [wanted_of rfl rfl eg]; rfl)]
                          clear hd ho hne eg
                          go_simp
                          exact hK _ _ rfl hG (fun j' v' _ hf => hf)
                        · intro l a W hs ho hG hd hne K' hK
                          have eg : a.tmps[192]?.getD undef = .bool false := hd ⟨45, .guard⟩ (by simp) rfl
                          have e46 : a.tmps[193]?.getD undef = .slice (some ⟨g4, 0, none⟩) aw.length I2 := hd ⟨46, .data⟩ (by simp) rfl
                          have e47 : a.tmps[194]?.getD undef = .int .i64 (k : Int) := hd ⟨47, .data⟩ (by simp) rfl
                          rw [if_pos (by rw [wanted_of rfl rfl eg]; rfl)]
                          have hj1 := hji
                          have hj2 := hji0
                          clear hd ho hne eg
                          go_simp
                          exact hK _ _ rfl hG (fun j' v' _ hf => hf)
                        · intro l a W hs ho hG hd hne K' hK
                          have eg : a.tmps[192]?.getD undef = .bool false := hd ⟨45, .guard⟩ (by simp) rfl
                          have e48 : a.tmps[195]?.getD undef = .pointer (some ⟨g4, k * 5, none⟩) := hd ⟨48, .data⟩ (by simp) rfl
                          rw [if_pos (by rw [wanted_of rfl rfl eg]; rfl)]
                          clear hd ho hne eg
                          go_simp
                          exact hK _ _ rfl hG (fun j' v' _ hf => hf)
                        · intro l a W hs ho hG hd hne K' hK
                          have eg : a.tmps[192]?.getD undef = .bool false := hd ⟨45, .guard⟩ (by simp) rfl
                          have e49 : a.tmps[196]?.getD undef = .pointer (some ⟨g4, k * 5 + 1, none⟩) := hd ⟨49, .data⟩ (by simp) rfl
                          rw [if_pos (by rw [wanted_of rfl rfl eg]; rfl)]
                          have hcl := hG.cell r1
                          clear hd ho hne eg
                          go_simp
                          exact hK _ _ rfl hG (fun j' v' _ hf => hf)
                        · intro l a W hs ho hG hd hne K' hK
                          have eg : a.tmps[192]?.getD undef = .bool false := hd ⟨45, .guard⟩ (by simp) rfl
                          have b18 : a.tmps[18]?.getD undef = .slice (some ⟨g2, 0, none⟩) aw.length C2 := ho.ev 18 rfl
                          rw [if_pos (by rw [wanted_of rfl rfl eg]; rfl)]
                          clear hd ho hne eg
                          go_simp
                          exact hK _ _ rfl hG (fun j' v' _ hf => hf)
                        · intro l a W hs ho hG hd hne K' hK
                          have eg : a.tmps[192]?.getD undef = .bool false := hd ⟨45, .guard⟩ (by simp) rfl
                          have b27 : a.tmps[27]?.getD undef = .int .i64 (k : Int) := ho.ev 27 rfl
                          rw [if_pos (by rw [wanted_of rfl rfl eg]; rfl)]
                          clear hd ho hne eg
                          go_simp
                          exact hK _ _ rfl hG (fun j' v' _ hf => hf)
                        · intro l a W hs ho hG hd hne K' hK
                          have eg : a.tmps[192]?.getD undef = .bool false := hd ⟨45, .guard⟩ (by simp) rfl
                          have e51 : a.tmps[198]?.getD undef = .slice (some ⟨g2, 0, none⟩) aw.length C2 := hd ⟨51, .data⟩ (by simp) rfl
                          have e52 : a.tmps[199]?.getD undef = .int .i64 (k : Int) := hd ⟨52, .data⟩ (by simp) rfl
                          rw [if_pos (by rw [wanted_of rfl rfl eg]; rfl)]
                          have hj1 := hji
                          have hj2 := hji0
                          clear hd ho hne eg
                          go_simp
                          exact hK _ _ rfl hG (fun j' v' _ hf => hf)
                        · intro l a W hs ho hG hd hne K' hK
                          have eg : a.tmps[192]?.getD undef = .bool false := hd ⟨45, .guard⟩ (by simp) rfl
                          have e53 : a.tmps[200]?.getD undef = .pointer (some ⟨g2, k * 5, none⟩) := hd ⟨53, .data⟩ (by simp) rfl
                          rw [if_pos (by rw [wanted_of rfl rfl eg]; rfl)]
                          clear hd ho hne eg
                          go_simp
                          exact hK _ _ rfl hG (fun j' v' _ hf => hf)
                        · intro l a W hs ho hG hd hne K' hK
                          have eg : a.tmps[192]?.getD undef = .bool false := hd ⟨45, .guard⟩ (by simp) rfl
                          have e54 : a.tmps[201]?.getD undef = .pointer (some ⟨g2, k * 5 + 1, none⟩) := hd ⟨54, .data⟩ (by simp) rfl
                          rw [if_pos (by rw [wanted_of rfl rfl eg]; rfl)]
                          have hcl := hG.cell q1
                          clear hd ho hne eg
                          go_simp
                          exact hK _ _ rfl hG (fun j' v' _ hf => hf)
                        · intro l a W hs ho hG hd hne K' hK
                          have eg : a.tmps[192]?.getD undef = .bool false := hd ⟨45, .guard⟩ (by simp) rfl
                          have e50 : a.tmps[197]?.getD undef = .string x.name := hd ⟨50, .data⟩ (by simp) rfl
                          have e55 : a.tmps[202]?.getD undef = .string x.name := hd ⟨55, .data⟩ (by simp) rfl
                          rw [if_pos (by rw [wanted_of rfl rfl eg]; rfl)]
                          clear hd ho hne eg
                          go_simp
                          exact hK _ _ rfl hG (fun j' v' _ hf => hf)
                        · intro l a W hs ho hG hd hne K' hK
                          have e45 : a.tmps[192]?.getD undef = .bool false := hd ⟨45, .data⟩ (by simp) rfl
                          have e56 : a.tmps[203]?.getD undef = .bool false := hd ⟨56, .data⟩ (by simp) rfl
                          clear hd ho hne
                          go_simp
                          exact hK _ _ rfl hG (fun j' v' _ hf => hf)
                        · intro l a W hs ho hG hd hne K' hK
                          have e57 : a.tmps[204]?.getD undef = .bool false := hd ⟨57, .data⟩ (by simp) rfl
                          clear hd ho hne
                          go_simp
                          exact hK _ _ rfl hG (fun j' v' _ hf => hf)
                        · intro l a W hs ho hG hd hne K' hK
                          have eg : a.tmps[205]?.getD undef = .bool false := hd ⟨58, .guard⟩ (by simp) rfl
                          have b25 : a.tmps[25]?.getD undef = .slice (some ⟨g4, 0, none⟩) aw.length I2 := ho.ev 25 rfl
                          rw [if_pos (by rw [wanted_of rfl rfl eg]; rfl)]
                          clear hd ho hne eg
                          go_simp
                          exact hK _ _ rfl hG (fun j' v' _ hf => hf)
                        · intro l a W hs ho hG hd hne K' hK
                          have eg : a.tmps[205]?.getD undef = .bool false := hd ⟨58, .guard⟩ (by simp) rfl
                          have b27 : a.tmps[27]?.getD undef = .int .i64 (k : Int) := ho.ev 27 rfl
                          rw [if_pos (by rw [wanted_of rfl rfl eg]; rfl)]
                          clear hd ho hne eg
                          go_simp
                          exact hK _ _ rfl hG (fun j' v' _ hf => hf)
                        · intro l a W hs ho hG hd hne K' hK
                          have eg : a.tmps[205]?.getD undef = .bool false := hd ⟨58, .guard⟩ (by simp) rfl
                          have e59 : a.tmps[206]?.getD undef = .slice (some ⟨g4, 0, none⟩) aw.length I2 := hd ⟨59, .data⟩ (by simp) rfl
                          have e60 : a.tmps[207]?.getD undef = .int .i64 (k : Int) := hd ⟨60, .data⟩ (by simp) rfl
                          rw [if_pos (by rw [wanted_of rfl rfl eg]; rfl)]
                          have hj1 := hji
                          have hj2 := hji0
                          clear hd ho hne eg
                          go_simp
                          exact hK _ _ rfl hG (fun j' v' _ hf => hf)
                        · intro l a W hs ho hG hd hne K' hK
                          have eg : a.tmps[205]?.getD undef = .bool false := hd ⟨58, .guard⟩ (by simp) rfl
                          have e61 : a.tmps[208]?.getD undef = .pointer (some ⟨g4, k * 5, none⟩) := hd ⟨61, .data⟩ (by simp) rfl
                          rw [if_pos (by rw [wanted_of rfl rfl eg]; rfl)]
                          clear hd ho hne eg
                          go_simp
                          exact hK _ _ rfl hG (fun j' v' _ hf => hf)
                        · intro l a W hs ho hG hd hne K' hK
                          have eg : a.tmps[205]?.getD undef = .bool false := hd ⟨58, .guard⟩ (by simp) rfl
                          have e62 : a.tmps[209]?.getD undef = .pointer (some ⟨g4, k * 5 + 2, none⟩) := hd ⟨62, .data⟩ (by simp) rfl
                          rw [if_pos (by rw [wanted_of rfl rfl eg]; rfl)]
                          have hcl := hG.cell r2
                          clear hd ho hne eg
                          go_simp
                          exact hK _ _ rfl hG (fun j' v' _ hf => hf)
                        · intro l a W hs ho hG hd hne K' hK
                          have eg : a.tmps[205]?.getD undef = .bool false := hd ⟨58, .guard⟩ (by simp) rfl
                          have b18 : a.tmps[18]?.getD undef = .slice (some ⟨g2, 0, none⟩) aw.length C2 := ho.ev 18 rfl
                          rw [if_pos (by rw [wanted_of rfl rfl eg]; rfl)]
                          clear hd ho hne eg
                          go_simp
                          exact hK _ _ rfl hG (fun j' v' _ hf => hf)
                        · intro l a W hs ho hG hd hne K' hK
                          have eg : a.tmps[205]?.getD undef = .bool false := hd ⟨58, .guard⟩ (by simp) rfl
                          have b27 : a.tmps[27]?.getD undef = .int .i64 (k : Int) := ho.ev 27 rfl
                          rw [if_pos (by rw [wanted_of rfl rfl eg]; rfl)]
                          clear hd ho hne eg
                          go_simp
                          exact hK _ _ rfl hG (fun j' v' _ hf => hf)
                        · intro l a W hs ho hG hd hne K' hK
                          have eg : a.tmps[205]?.getD undef = .bool false := hd ⟨58, .guard⟩ (by simp) rfl
                          have e64 : a.tmps[211]?.getD undef = .slice (some ⟨g2, 0, none⟩) aw.length C2 := hd ⟨64, .data⟩ (by simp) rfl
                          have e65 : a.tmps[212]?.getD undef = .int .i64 (k : Int) := hd ⟨65, .data⟩ (by simp) rfl
                          rw [if_pos (by rw [wanted_of rfl rfl eg]; rfl)]
                          have hj1 := hji
                          have hj2 := hji0
                          clear hd ho hne eg
                          go_simp
                          exact hK _ _ rfl hG (fun j' v' _ hf => hf)
                        · intro l a W hs ho hG hd hne K' hK
                          have eg : a.tmps[205]?.getD undef = .bool false := hd ⟨58, .guard⟩ (by simp) rfl
                          have e66 : a.tmps[213]?.getD undef = .pointer (some ⟨g2, k * 5, none⟩) := hd ⟨66, .data⟩ (by simp) rfl
                          rw [if_pos (by rw [wanted_of rfl rfl eg]; rfl)]
                          clear hd ho hne eg
                          go_simp
                          exact hK _ _ rfl hG (fun j' v' _ hf => hf)
                        · intro l a W hs ho hG hd hne K' hK
                          have eg : a.tmps[205]?.getD undef = .bool false := hd ⟨58, .guard⟩ (by simp) rfl
                          have e67 : a.tmps[214]?.getD undef = .pointer (some ⟨g2, k * 5 + 2, none⟩) := hd ⟨67, .data⟩ (by simp) rfl
                          rw [if_pos (by rw [wanted_of rfl rfl eg]; rfl)]
                          have hcl := hG.cell q2
                          clear hd ho hne eg
                          go_simp
                          exact hK _ _ rfl hG (fun j' v' _ hf => hf)
                        · intro l a W hs ho hG hd hne K' hK
                          have eg : a.tmps[205]?.getD undef = .bool false := hd ⟨58, .guard⟩ (by simp) rfl
                          have e63 : a.tmps[210]?.getD undef = .string x.label := hd ⟨63, .data⟩ (by simp) rfl
                          have e68 : a.tmps[215]?.getD undef = .string x.label := hd ⟨68, .data⟩ (by simp) rfl
                          rw [if_pos (by rw [wanted_of rfl rfl eg]; rfl)]
                          clear hd ho hne eg
                          go_simp
                          exact hK _ _ rfl hG (fun j' v' _ hf => hf)
                        · intro l a W hs ho hG hd hne K' hK
                          have e58 : a.tmps[205]?.getD undef = .bool false := hd ⟨58, .data⟩ (by simp) rfl
                          have e69 : a.tmps[216]?.getD undef = .bool false := hd ⟨69, .data⟩ (by simp) rfl
                          clear hd ho hne
                          go_simp
                          exact hK _ _ rfl hG (fun j' v' _ hf => hf)
                      · intro l a W ho hG hF
                        have e70 := hF 70 (by omega)
                        replace e70 : a.tmps[217]?.getD undef = .bool false := e70
                        have hfr := ho.range 147 71 (by kernel_rfl) (Nat.le_of_ble_eq_true (by kernel_rfl))
                        show K1 a W
                        refine hK1 _ _ (Met.intro ?_)
                        refine hJ _ _ ?_
                        (repeat apply Exists.intro)
                        exact ⟨⟨e70, hG⟩, hfr⟩
                  case rest =>
                    as_aux_lemma =>
                      obtain ⟨rfl, hxr⟩ := hcut
                      go_wp2_with fail
                      go_roundw
                      case rel => exact ⟨k + 1, hj0.out, by go_num, hx1.out.trans hxr⟩
                      case measure => simp [intOf]; omega
                · rw [k2] at r0 r1 r2 r3 r4
                  rw [k1] at q0
                  simp only at r0 r1 r2 r3 r4
                  clear k1 k2
                  go_upto_region 23 with fail
                  go_cut [217] from 147 to 217 (fun v wx => v = .bool false ∧ Ext wr wx)
                  case first =>
                    as_aux_lemma =>
                      rename_i J K1 hJ hK1
                      refine wp_region_all 71 [0, 1, 2, 3, 4, 5, 6, 7, 8, 9, 10, 11, 12, 13, 14, 15, 16, 17, 18, 19, 20, 21, 22, 23, 24, 25, 26, 27, 28, 29, 30, 31, 32, 33, 34, 35, 36, 37, 38, 39, 40, 41, 42, 43, 44, 45, 46, 47, 48, 49, 50, 51, 52, 53, 54, 55, 56, 57, 58, 59, 60, 61, 62, 63, 64, 65, 66, 67, 68, 69, 70] [147, 148, 149, 150, 151, 152, 153, 154, 155, 156, 157, 158, 159, 160, 161, 162, 163, 164, 165, 166, 167, 168, 169, 170, 171, 172, 173, 174, 175, 176, 177, 178, 179, 180, 181, 182, 183, 184, 185, 186, 187, 188, 189, 190, 191, 192, 193, 194, 195, 196, 197, 198, 199, 200, 201, 202, 203, 204, 205, 206, 207, 208, 209, 210, 211, 212, 213, 214, 215, 216, 217] (fun i _ u => u = ([.slice (some ⟨g4, 0, none⟩) aw.length I2, .int .i64 (k : Int), .pointer (some ⟨g4, k * 5, none⟩), .pointer (some ⟨g4, k * 5, none⟩), .bool false, .slice (some ⟨g2, 0, none⟩) aw.length C2, .int .i64 (k : Int), .pointer (some ⟨g2, k * 5, none⟩), .pointer (some ⟨g2, k * 5, none⟩), .bool false, .bool false, .bool false, .slice (some ⟨g4, 0, none⟩) aw.length I2, .int .i64 (k : Int), .pointer (some ⟨g4, k * 5, none⟩), .pointer (some ⟨g4, k * 5, none⟩), .bool false, .bool false, undef, undef, undef, undef, undef, undef, undef, undef, undef, undef, undef, undef, .bool false, .bool false, .bool false, .slice (some ⟨g4, 0, none⟩) aw.length I2, .int .i64 (k : Int), .pointer (some ⟨g4, k * 5, none⟩), .pointer (some ⟨g4, k * 5 + 3, none⟩), .int .i64 x.day, .slice (some ⟨g2, 0, none⟩) aw.length C2, .int .i64 (k : Int), .pointer (some ⟨g2, k * 5, none⟩), .pointer (some ⟨g2, k * 5 + 3, none⟩), .int .i64 x.day, .bool false, .bool false, .bool false, .slice (some ⟨g4, 0, none⟩) aw.length I2, .int .i64 (k : Int), .pointer (some ⟨g4, k * 5, none⟩), .pointer (some ⟨g4, k * 5 + 1, none⟩), .string x.name, .slice (some ⟨g2, 0, none⟩) aw.length C2, .int .i64 (k : Int), .pointer (some ⟨g2, k * 5, none⟩), .pointer (some ⟨g2, k * 5 + 1, none⟩), .string x.name, .bool false, .bool false, .bool false, .slice (some ⟨g4, 0, none⟩) aw.length I2, .int .i64 (k : Int), .pointer (some ⟨g4, k * 5, none⟩), .pointer (some ⟨g4, k * 5 + 2, none⟩), .string x.label, .slice (some ⟨g2, 0, none⟩) aw.length C2, .int .i64 (k : Int), .pointer (some ⟨g2, k * 5, none⟩), .pointer (some ⟨g2, k * 5 + 2, none⟩), .string x.label, .bool false, .bool false] : List Value).getD i undef) (fun _ W => Ext wr W) (by kernel_rfl) rfl (by kernel_rfl) rfl rfl (by decide +kernel) rfl ?_ ?_ ?_
                      · exact (Ext.refl _).drew
                      · refine slots_cons rfl ?_ (slots_cons rfl ?_ (slots_cons rfl ?_ (slots_cons rfl ?_ (slots_cons rfl ?_ (slots_cons rfl ?_ (slots_cons rfl ?_ (slots_cons rfl ?_ (slots_cons rfl ?_ (slots_cons rfl ?_ (slots_cons rfl ?_ (slots_cons rfl ?_ (slots_cons rfl ?_ (slots_cons rfl ?_ (slots_cons rfl ?_ (slots_cons rfl ?_ (slots_cons rfl ?_ (slots_cons rfl ?_ (slots_cons rfl ?_ (slots_cons rfl ?_ (slots_cons rfl ?_ (slots_cons rfl ?_ (slots_cons rfl ?_ (slots_cons rfl ?_ (slots_cons rfl ?_ (slots_cons rfl ?_ (slots_cons rfl ?_ (slots_cons rfl ?_ (slots_cons rfl ?_ (slots_cons rfl ?_ (slots_cons rfl ?_ (slots_cons rfl ?_ (slots_cons rfl ?_ (slots_cons rfl ?_ (slots_cons rfl ?_ (slots_cons rfl ?_ (slots_cons rfl ?_ (slots_cons rfl ?_ (slots_cons rfl ?_ (slots_cons rfl ?_ (slots_cons rfl ?_ (slots_cons rfl ?_ (slots_cons rfl ?_ (slots_cons rfl ?_ (slots_cons rfl ?_ (slots_cons rfl ?_ (slots_cons rfl ?_ (slots_cons rfl ?_ (slots_cons rfl ?_ (slots_cons rfl ?_ (slots_cons rfl ?_ (slots_cons rfl ?_ (slots_cons rfl ?_ (slots_cons rfl ?_ (slots_cons rfl ?_ (slots_cons rfl ?_ (slots_cons rfl ?_ (slots_cons rfl ?_ (slots_cons rfl ?_ (slots_cons rfl ?_ (slots_cons rfl ?_ (slots_cons rfl ?_ (slots_cons rfl ?_ (slots_cons rfl ?_ (slots_cons rfl ?_ (slots_cons rfl ?_ (slots_cons rfl ?_ (slots_cons rfl ?_ (slots_cons rfl ?_ (slots_cons rfl ?_ (slots_cons rfl ?_ slots_nil))))))))))))))))))))))))))))))))))))))))))))))))))))))))))))))))))))))
                        · intro l a W hs ho hG hd hne K' hK
                          have b25 : a.tmps[25]?.getD undef = .slice (some ⟨g4, 0, none⟩) aw.length I2 := ho.ev 25 rfl
                          clear hd ho hne
                          go_simp
                          exact hK _ _ rfl hG (fun j' v' _ hf => hf)
                        · intro l a W hs ho hG hd hne K' hK
                          have b27 : a.tmps[27]?.getD undef = .int .i64 (k : Int) := ho.ev 27 rfl
                          clear hd ho hne
                          go_simp
                          exact hK _ _ rfl hG (fun j' v' _ hf => hf)
                        · intro l a W hs ho hG hd hne K' hK
                          have e0 : a.tmps[147]?.getD undef = .slice (some ⟨g4, 0, none⟩) aw.length I2 := hd ⟨0, .data⟩ (by simp) rfl
                          have e1 : a.tmps[148]?.getD undef = .int .i64 (k : Int) := hd ⟨1, .data⟩ (by simp) rfl
                          have hj1 := hji
                          have hj2 := hji0
                          clear hd ho hne
                          go_simp
                          exact hK _ _ rfl hG (fun j' v' _ hf => hf)
                        · intro l a W hs ho hG hd hne K' hK
                          have e2 : a.tmps[149]?.getD undef = .pointer (some ⟨g4, k * 5, none⟩) := hd ⟨2, .data⟩ (by simp) rfl
                          clear hd ho hne
                          go_simp
                          exact hK _ _ rfl hG (fun j' v' _ hf => hf)
                        · intro l a W hs ho hG hd hne K' hK
                          have e3 : a.tmps[150]?.getD undef = .pointer (some ⟨g4, k * 5, none⟩) := hd ⟨3, .data⟩ (by simp) rfl
                          have hcl := hG.cell r0
                          clear hd ho hne
                          go_simp
                          exact hK _ _ rfl hG (fun j' v' _ hf => hf)
                        · intro l a W hs ho hG hd hne K' hK
                          have b18 : a.tmps[18]?.getD undef = .slice (some ⟨g2, 0, none⟩) aw.length C2 := ho.ev 18 rfl
                          clear hd ho hne
                          go_simp
                          exact hK _ _ rfl hG (fun j' v' _ hf => hf)
                        · intro l a W hs ho hG hd hne K' hK
                          have b27 : a.tmps[27]?.getD undef = .int .i64 (k : Int) := ho.ev 27 rfl
                          clear hd ho hne
                          go_simp
                          exact hK _ _ rfl hG (fun j' v' _ hf => hf)
                        · intro l a W hs ho hG hd hne K' hK
                          have e5 : a.tmps[152]?.getD undef = .slice (some ⟨g2, 0, none⟩) aw.length C2 := hd ⟨5, .data⟩ (by simp) rfl
                          have e6 : a.tmps[153]?.getD undef = .int .i64 (k : Int) := hd ⟨6, .data⟩ (by simp) rfl
                          have hj1 := hji
                          have hj2 := hji0
                          clear hd ho hne
                          go_simp
                          exact hK _ _ rfl hG (fun j' v' _ hf => hf)
                        · intro l a W hs ho hG hd hne K' hK
                          have e7 : a.tmps[154]?.getD undef = .pointer (some ⟨g2, k * 5, none⟩) := hd ⟨7, .data⟩ (by simp) rfl
                          clear hd ho hne
                          go_simp
                          exact hK _ _ rfl hG (fun j' v' _ hf => hf)
                        · intro l a W hs ho hG hd hne K' hK
                          have e8 : a.tmps[155]?.getD undef = .pointer (some ⟨g2, k * 5, none⟩) := hd ⟨8, .data⟩ (by simp) rfl
                          have hcl := hG.cell q0
                          clear hd ho hne
                          go_simp
                          exact hK _ _ rfl hG (fun j' v' _ hf => hf)
                        · intro l a W hs ho hG hd hne K' hK
                          have e4 : a.tmps[151]?.getD undef = .bool false := hd ⟨4, .data⟩ (by simp) rfl
                          have e9 : a.tmps[156]?.getD undef = .bool false := hd ⟨9, .data⟩ (by simp) rfl
                          clear hd ho hne
                          go_simp
                          exact hK _ _ rfl hG (fun j' v' _ hf => hf)
                        · intro l a W hs ho hG hd hne K' hK
                          have e10 : a.tmps[157]?.getD undef = .bool false := hd ⟨10, .data⟩ (by simp) rfl
                          clear hd ho hne
                          go_simp
                          exact hK _ _ rfl hG (fun j' v' _ hf => hf)
                        · intro l a W hs ho hG hd hne K' hK
                          have eg : a.tmps[158]?.getD undef = .bool false := hd ⟨11, .guard⟩ (by simp) rfl
                          have b25 : a.tmps[25]?.getD undef = .slice (some ⟨g4, 0, none⟩) aw.length I2 := ho.ev 25 rfl
                          rw [if_pos (by rw [wanted_of rfl rfl eg]; rfl)]
                          clear hd ho hne eg
                          go_simp
                          exact hK _ _ rfl hG (fun j' v' _ hf => hf)
                        · intro l a W hs ho hG hd hne K' hK
                          have eg : a.tmps[158]?.getD undef = .bool false := hd ⟨11, .guard⟩ (by simp) rfl
                          have b27 : a.tmps[27]?.getD undef = .int .i64 (k : Int) := ho.ev 27 rfl
                          rw [if_pos (by rw [wanted_of rfl rfl eg]; rfl)]
                          clear hd ho hne eg
                          go_simp
                          exact hK _ _ rfl hG (fun j' v' _ hf => hf)
                        · intro l a W hs ho hG hd hne K' hK
                          have eg : a.tmps[158]?.getD undef = .bool false := hd ⟨11, .guard⟩ (by simp) rfl
                          have e12 : a.tmps[159]?.getD undef = .slice (some ⟨g4, 0, none⟩) aw.length I2 := hd ⟨12, .data⟩ (by simp) rfl
                          have e13 : a.tmps[160]?.getD undef = .int .i64 (k : Int) := hd ⟨13, .data⟩ (by simp) rfl
                          rw [if_pos (by rw [wanted_of rfl rfl eg]; rfl)]
                          have hj1 := hji
                          have hj2 := hji0
                          clear hd ho hne eg
                          go_simp
                          exact hK _ _ rfl hG (fun j' v' _ hf => hf)
                        · intro l a W hs ho hG hd hne K' hK
                          have eg : a.tmps[158]?.getD undef = .bool false := hd ⟨11, .guard⟩ (by simp) rfl
                          have e14 : a.tmps[161]?.getD undef = .pointer (some ⟨g4, k * 5, none⟩) := hd ⟨14, .data⟩ (by simp) rfl
                          rw [if_pos (by rw [wanted_of rfl rfl eg]; rfl)]
                          clear hd ho hne eg
                          go_simp
                          exact hK _ _ rfl hG (fun j' v' _ hf => hf)
                        · intro l a W hs ho hG hd hne K' hK
                          have eg : a.tmps[158]?.getD undef = .bool false := hd ⟨11, .guard⟩ (by simp) rfl
                          have e15 : a.tmps[162]?.getD undef = .pointer (some ⟨g4, k * 5, none⟩) := hd ⟨15, .data⟩ (by simp) rfl
                          rw [if_pos (by rw [wanted_of rfl rfl eg]; rfl)]
                          have hcl := hG.cell r0
                          clear hd ho hne eg
                          go_simp
                          exact hK _ _ rfl hG (fun j' v' _ hf => hf)
                        · intro l a W hs ho hG hd hne K' hK
                          have eg : a.tmps[158]?.getD undef = .bool false := hd ⟨11, .guard⟩ (by simp) rfl
                          have e16 : a.tmps[163]?.getD undef = .bool false := hd ⟨16, .data⟩ (by simp) rfl
                          rw [if_pos (by rw [wanted_of rfl rfl eg]; rfl)]
                          clear hd ho hne eg
                          go_simp
                          exact hK _ _ rfl hG (fun j' v' _ hf => hf)
                        · intro l a W hs ho hG hd hne K' hK
                          have eg : a.tmps[164]?.getD undef = .bool false := hd ⟨17, .guard⟩ (by simp) rfl
                          rw [if_neg (by rw [wanted_of rfl rfl eg]; decide)]
                          exact hK _ _ rfl hG (fun j' v' _ hf => hf)
                        · intro l a W hs ho hG hd hne K' hK
                          have eg : a.tmps[164]?.getD undef = .bool false := hd ⟨17, .guard⟩ (by simp) rfl
                          rw [if_neg (by rw [wanted_of rfl rfl eg]; decide)]
                          exact hK _ _ rfl hG (fun j' v' _ hf => hf)
                        · intro l a W hs ho hG hd hne K' hK
                          have eg : a.tmps[164]?.getD undef = .bool false := hd ⟨17, .guard⟩ (by simp) rfl
                          rw [if_neg (by rw [wanted_of rfl rfl eg]; decide)]
                          exact hK _ _ rfl hG (fun j' v' _ hf => hf)
                        · intro l a W hs ho hG hd hne K' hK
                          have eg : a.tmps[164]?.getD undef = .bool false := hd ⟨17, .guard⟩ (by simp) rfl
                          rw [if_neg (by rw [wanted_of rfl rfl eg]; decide)]
                          exact hK _ _ rfl hG (fun j' v' _ hf => hf)
                        · intro l a W hs ho hG hd hne K' hK
                          have eg : a.tmps[164]?.getD undef = .bool false := hd ⟨17, .guard⟩ (by simp) rfl
                          rw [if_neg (by rw [wanted_of rfl rfl eg]; decide)]
                          exact hK _ _ rfl hG (fun j' v' _ hf => hf)
                        · intro l a W hs ho hG hd hne K' hK
                          have eg : a.tmps[164]?.getD undef = .bool false := hd ⟨17, .guard⟩ (by simp) rfl
                          rw [if_neg (by rw [wanted_of rfl rfl eg]; decide)]
                          exact hK _ _ rfl hG (fun j' v' _ hf => hf)
                        · intro l a W hs ho hG hd hne K' hK
                          have eg : a.tmps[164]?.getD undef = .bool false := hd ⟨17, .guard⟩ (by simp) rfl
                          rw [if_neg (by rw [wanted_of rfl rfl eg]; decide)]
                          exact hK _ _ rfl hG (fun j' v' _ hf => hf)
                        · intro l a W hs ho hG hd hne K' hK
                          have eg : a.tmps[164]?.getD undef = .bool false := hd ⟨17, .guard⟩ (by simp) rfl
                          rw [if_neg (by rw [wanted_of rfl rfl eg]; decide)]
                          exact hK _ _ rfl hG (fun j' v' _ hf => hf)
                        · intro l a W hs ho hG hd hne K' hK
                          have eg : a.tmps[164]?.getD undef = .bool false := hd ⟨17, .guard⟩ (by simp) rfl
                          rw [if_neg (by rw [wanted_of rfl rfl eg]; decide)]
                          exact hK _ _ rfl hG (fun j' v' _ hf => hf)
                        · intro l a W hs ho hG hd hne K' hK
                          have eg : a.tmps[164]?.getD undef = .bool false := hd ⟨17, .guard⟩ (by simp) rfl
                          rw [if_neg (by rw [wanted_of rfl rfl eg]; decide)]
                          exact hK _ _ rfl hG (fun j' v' _ hf => hf)
                        · intro l a W hs ho hG hd hne K' hK
                          have eg : a.tmps[164]?.getD undef = .bool false := hd ⟨17, .guard⟩ (by simp) rfl
                          rw [if_neg (by rw [wanted_of rfl rfl eg]; decide)]
                          exact hK _ _ rfl hG (fun j' v' _ hf => hf)
                        · intro l a W hs ho hG hd hne K' hK
                          have eg : a.tmps[164]?.getD undef = .bool false := hd ⟨17, .guard⟩ (by simp) rfl
                          rw [if_neg (by rw [wanted_of rfl rfl eg]; decide)]
                          exact hK _ _ rfl hG (fun j' v' _ hf => hf)
                        · intro l a W hs ho hG hd hne K' hK
                          have eg : a.tmps[158]?.getD undef = .bool false := hd ⟨11, .guard⟩ (by simp) rfl
                          have e17 : a.tmps[164]?.getD undef = .bool false := hd ⟨17, .data⟩ (by simp) rfl
                          have e29 : a.tmps[176]?.getD undef = undef := hd ⟨29, .data⟩ (by simp) rfl
                          rw [if_pos (by rw [wanted_of rfl rfl eg]; rfl)]
                          clear hd ho hne eg
                          go_simp
                          exact hK _ _ rfl hG (fun j' v' _ hf => hf)
                        · intro l a W hs ho hG hd hne K' hK
                          have e11 : a.tmps[158]?.getD undef = .bool false := hd ⟨11, .data⟩ (by simp) rfl
                          have e30 : a.tmps[177]?.getD undef = .bool false := hd ⟨30, .data⟩ (by simp) rfl
                          clear hd ho hne
                          go_simp
                          exact hK _ _ rfl hG (fun j' v' _ hf => hf)
                        · intro l a W hs ho hG hd hne K' hK
                          have e31 : a.tmps[178]?.getD undef = .bool false := hd ⟨31, .data⟩ (by simp) rfl
                          clear hd ho hne
                          go_simp
                          exact hK _ _ rfl hG (fun j' v' _ hf => hf)
                        · intro l a W hs ho hG hd hne K' hK
                          have eg : a.tmps[179]?.getD undef = .bool false := hd ⟨32, .guard⟩ (by simp) rfl
                          have b25 : a.tmps[25]?.getD undef = .slice (some ⟨g4, 0, none⟩) aw.length I2 := ho.ev 25 rfl
                          rw [if_pos (by rw [wanted_of rfl rfl eg]; rfl)]
                          clear hd ho hne eg
                          go_simp
                          exact hK _ _ rfl hG (fun j' v' _ hf => hf)
                        · intro l a W hs ho hG hd hne K' hK
                          have eg : a.tmps[179]?.getD undef = .bool false := hd ⟨32, .guard⟩ (by simp) rfl
                          have b27 : a.tmps[27]?.getD undef = .int .i64 (k : Int) := ho.ev 27 rfl
                          rw [if_pos (by rw [wanted_of rfl rfl eg]; rfl)]
                          clear hd ho hne eg
                          go_simp
                          exact hK _ _ rfl hG (fun j' v' _ hf => hf)
                        · intro l a W hs ho hG hd hne K' hK
                          have eg : a.tmps[179]?.getD undef = .bool false := hd ⟨32, .guard⟩ (by simp) rfl
                          have e33 : a.tmps[180]?.getD undef = .slice (some ⟨g4, 0, none⟩) aw.length I2 := hd ⟨33, .data⟩ (by simp) rfl
                          have e34 : a.tmps[181]?.getD undef = .int .i64 (k : Int) := hd ⟨34, .data⟩ (by simp) rfl
                          rw [if_pos (by rw [wanted_of rfl rfl eg]; rfl)]
                          have hj1 := hji
                          have hj2 := hji0
                          clear hd ho hne eg
                          go_simp
                          exact hK _ _ rfl hG (fun j' v' _ hf => hf)
                        · intro l a W hs ho hG hd hne K' hK
                          have eg : a.tmps[179]?.getD undef = .bool false := hd ⟨32, .guard⟩ (by simp) rfl
                          have e35 : a.tmps[182]?.getD undef = .pointer (some ⟨g4, k * 5, none⟩) := hd ⟨35, .data⟩ (by simp) rfl
                          rw [if_pos (by rw [wanted_of rfl rfl eg]; rfl)]
                          clear hd ho hne eg
                          go_simp
                          exact hK _ _ rfl hG (fun j' v' _ hf => hf)
                        · intro l a W hs ho hG hd hne K' hK
                          have eg : a.tmps[179]?.getD undef = .bool false := hd ⟨32, .guard⟩ (by simp) rfl
                          have e36 : a.tmps[183]?.getD undef = .pointer (some ⟨g4, k * 5 + 3, none⟩) := hd ⟨36, .data⟩ (by simp) rfl
                          rw [if_pos (by rw [wanted_of rfl rfl eg]; rfl)]
                          have hcl := hG.cell r3
                          clear hd ho hne eg
                          go_simp
                          exact hK _ _ rfl hG (fun j' v' _ hf => hf)
                        · intro l a W hs ho hG hd hne K' hK
                          have eg : a.tmps[179]?.getD undef = .bool false := hd ⟨32, .guard⟩ (by simp) rfl
                          have b18 : a.tmps[18]?.getD undef = .slice (some ⟨g2, 0, none⟩) aw.length C2 := ho.ev 18 rfl
                          rw [if_pos (by rw [wanted_of rfl rfl eg]; rfl)]
                          clear hd ho hne eg
                          go_simp
                          exact hK _ _ rfl hG (fun j' v' _ hf => hf)
                        · intro l a W hs ho hG hd hne K' hK
                          have eg : a.tmps[179]?.getD undef = .bool false := hd ⟨32, .guard⟩ (by simp) rfl
                          have b27 : a.tmps[27]?.getD undef = .int .i64 (k : Int) := ho.ev 27 rfl
                          rw [if_pos (by rw [wanted_of rfl rfl eg]; rfl)]
                          clear hd ho hne eg
                          go_simp
                          exact hK _ _ rfl hG (fun j' v' _ hf => hf)
                        · intro l a W hs ho hG hd hne K' hK
                          have eg : a.tmps[179]?.getD undef = .bool false := hd ⟨32, .guard⟩ (by simp) rfl
                          have e38 : a.tmps[185]?.getD undef = .slice (some ⟨g2, 0, none⟩) aw.length C2 := hd ⟨38, .data⟩ (by simp) rfl
                          have e39 : a.tmps[186]?.getD undef = .int .i64 (k : Int) := hd ⟨39, .data⟩ (by simp) rfl
                          rw [if_pos (by rw [wanted_of rfl rfl eg]; rfl)]
                          have hj1 := hji
                          have hj2 := hji0
                          clear hd ho hne eg
                          go_simp
                          exact hK _ _ rfl hG (fun j' v' _ hf => hf)
                        · intro l a W hs ho hG hd hne K' hK
                          have eg : a.tmps[179]?.getD undef = .bool false := hd ⟨32, .guard⟩ (by simp) rfl
                          have e40 : a.tmps[187]?.getD undef = .pointer (some ⟨g2, k * 5, none⟩) := hd ⟨40, .data⟩ (by simp) rfl
                          rw [if_pos (by rw [wanted_of rfl rfl eg]; rfl)]
                          clear hd ho hne eg
                          go_simp
                          exact hK _ _ rfl hG (fun j' v' _ hf => hf)
                        · intro l a W hs ho hG hd hne K' hK
                          have eg : a.tmps[179]?.getD undef = .bool false := hd ⟨32, .guard⟩ (by simp) rfl
                          have e41 : a.tmps[188]?.getD undef = .pointer (some ⟨g2, k * 5 + 3, none⟩) := hd ⟨41, .data⟩ (by simp) rfl
                          rw [if_pos (by rw [wanted_of rfl rfl eg]; rfl)]
                          have hcl := hG.cell q3
                          clear hd ho hne eg
                          go_simp
                          exact hK _ _ rfl hG (fun j' v' _ hf => hf)
                        · intro l a W hs ho hG hd hne K' hK
                          have eg : a.tmps[179]?.getD undef = .bool false := hd ⟨32, .guard⟩ (by simp) rfl
                          have e37 : a.tmps[184]?.getD undef = .int .i64 x.day := hd ⟨37, .data⟩ (by simp) rfl
                          have e42 : a.tmps[189]?.getD undef = .int .i64 x.day := hd ⟨42, .data⟩ (by simp) rfl
                          rw [if_pos (by rw [wanted_of rfl rfl eg]; rfl)]
                          clear hd ho hne eg
                          go_simp
                          exact hK _ _ rfl hG (fun j' v' _ hf => hf)
                        · intro l a W hs ho hG hd hne K' hK
                          have e32 : a.tmps[179]?.getD undef = .bool false := hd ⟨32, .data⟩ (by simp) rfl
                          have e43 : a.tmps[190]?.getD undef = .bool false := hd ⟨43, .data⟩ (by simp) rfl
                          clear hd ho hne
                          go_simp
                          exact hK _ _ rfl hG (fun j' v' _ hf => hf)
                        · intro l a W hs ho hG hd hne K' hK
                          have e44 : a.tmps[191]?.getD undef = .bool false := hd ⟨44, .data⟩ (by simp) rfl
                          clear hd ho hne
                          go_simp
                          exact hK _ _ rfl hG (fun j' v' _ hf => hf)
                        · intro l a W hs ho hG hd hne K' hK
                          have eg : a.tmps[192]?.getD undef = .bool false := hd ⟨45, .guard⟩ (by simp) rfl
                          have b25 : a.tmps[25]?.getD undef = .slice (some ⟨g4, 0, none⟩) aw.length I2 := ho.ev 25 rfl
                          rw [if_pos (by rw [wanted_of rfl rfl eg]; rfl)]
                          clear hd ho hne eg
                          go_simp
                          exact hK _ _ rfl hG (fun j' v' _ hf => hf)
                        · intro l a W hs ho hG hd hne K' hK
                          have eg : a.tmps[192]?.getD undef = .bool false := hd ⟨45, .guard⟩ (by simp) rfl
                          have b27 : a.tmps[27]?.getD undef = .int .i64 (k : Int) := ho.ev 27 rfl
                          rw [if_pos (by rw [wanted_of rfl rfl eg]; rfl)]
                          clear hd ho hne eg
                          go_simp
                          exact hK _ _ rfl hG (fun j' v' _ hf => hf)
                        · intro l a W hs ho hG hd hne K' hK
                          have eg : a.tmps[192]?.getD undef = .bool false := hd ⟨45, .guard⟩ (by simp) rfl
                          have e46 : a.tmps[193]?.getD undef = .slice (some ⟨g4, 0, none⟩) aw.length I2 := hd ⟨46, .data⟩ (by simp) rfl
                          have e47 : a.tmps[194]?.getD undef = .int .i64 (k : Int) := hd ⟨47, .data⟩ (by simp) rfl
                          rw [if_pos (by rw [wanted_of rfl rfl eg]; rfl)]
                          have hj1 := hji
                          have hj2 := hji0
                          clear hd ho hne eg
                          go_simp
                          exact hK _ _ rfl hG (fun j' v' _ hf => hf)
                        · intro l a W hs ho hG hd hne K' hK
                          have eg : a.tmps[192]?.getD undef = .bool false := hd ⟨45, .guard⟩ (by simp) rfl
                          have e48 : a.tmps[195]?.getD undef = .pointer (some ⟨g4, k * 5, none⟩) := hd ⟨48, .data⟩ (by simp) rfl
                          rw [if_pos (by rw [wanted_of rfl rfl eg]; rfl)]
                          clear hd ho hne eg
                          go_simp
                          exact hK _ _ rfl hG (fun j' v' _ hf => hf)
                        · intro l a W hs ho hG hd hne K' hK
                          have eg : a.tmps[192]?.getD undef = .bool false := hd ⟨45, .guard⟩ (by simp) rfl
                          have e49 : a.tmps[196]?.getD undef = .pointer (some ⟨g4, k * 5 + 1, none⟩) := hd ⟨49, .data⟩ (by simp) rfl
                          rw [if_pos (by rw [wanted_of rfl rfl eg]; rfl)]
                          have hcl := hG.cell r1
                          clear hd ho hne eg
                          go_simp
                          exact hK _ _ rfl hG (fun j' v' _ hf => hf)
                        · intro l a W hs ho hG hd hne K' hK
                          have eg : a.tmps[192]?.getD undef = .bool false := hd ⟨45, .guard⟩ (by simp) rfl
                          have b18 : a.tmps[18]?.getD undef = .slice (some ⟨g2, 0, none⟩) aw.length C2 := ho.ev 18 rfl
                          rw [if_pos (by rw [wanted_of rfl rfl eg]; rfl)]
                          clear hd ho hne eg
                          go_simp
                          exact hK _ _ rfl hG (fun j' v' _ hf => hf)
                        · intro l a W hs ho hG hd hne K' hK
                          have eg : a.tmps[192]?.getD undef = .bool false := hd ⟨45, .guard⟩ (by simp) rfl
                          have b27 : a.tmps[27]?.getD undef = .int .i64 (k : Int) := ho.ev 27 rfl
                          rw [if_pos (by rw [wanted_of rfl rfl eg]; rfl)]
                          clear hd ho hne eg
                          go_simp
                          exact hK _ _ rfl hG (fun j' v' _ hf => hf)
                        · intro l a W hs ho hG hd hne K' hK
                          have eg : a.tmps[192]?.getD undef = .bool false := hd ⟨45, .guard⟩ (by simp) rfl
                          have e51 : a.tmps[198]?.getD undef = .slice (some ⟨g2, 0, none⟩) aw.length C2 := hd ⟨51, .data⟩ (by simp) rfl
                          have e52 : a.tmps[199]?.getD undef = .int .i64 (k : Int) := hd ⟨52, .data⟩ (by simp) rfl
                          rw [if_pos (by rw [wanted_of rfl rfl eg]; rfl)]
                          have hj1 := hji
                          have hj2 := hji0
                          clear hd ho hne eg
                          go_simp
                          exact hK _ _ rfl hG (fun j' v' _ hf => hf)
                        · intro l a W hs ho hG hd hne K' hK
                          have eg : a.tmps[192]?.getD undef = .bool false := hd ⟨45, .guard⟩ (by simp) rfl
                          have e53 : a.tmps[200]?.getD undef = .pointer (some ⟨g2, k * 5, none⟩) := hd ⟨53, .data⟩ (by simp) rfl
                          rw [if_pos (by rw [wanted_of rfl rfl eg]; rfl)]
                          clear hd ho hne eg
                          go_simp
                          exact hK _ _ rfl hG (fun j' v' _ hf => hf)
                        · intro l a W hs ho hG hd hne K' hK
                          have eg : a.tmps[192]?.getD undef = .bool false := hd ⟨45, .guard⟩ (by simp) rfl
                          have e54 : a.tmps[201]?.getD undef = .pointer (some ⟨g2, k * 5 + 1, none⟩) := hd ⟨54, .data⟩ (by simp) rfl
                          rw [if_pos (by rw [wanted_of rfl rfl eg]; rfl)]
                          have hcl := hG.cell q1
                          clear hd ho hne eg
                          go_simp
                          exact hK _ _ rfl hG (fun j' v' _ hf => hf)
                        · intro l a W hs ho hG hd hne K' hK
                          have eg : a.tmps[192]?.getD undef = .bool false := hd ⟨45, .guard⟩ (by simp) rfl
                          have e50 : a.tmps[197]?.getD undef = .string x.name := hd ⟨50, .data⟩ (by simp) rfl
                          have e55 : a.tmps[202]?.getD undef = .string x.name := hd ⟨55, .data⟩ (by simp) rfl
                          rw [if_pos (by rw [wanted_of rfl rfl eg]; rfl)]
                          clear hd ho hne eg
                          go_simp
                          exact hK _ _ rfl hG (fun j' v' _ hf => hf)
                        · intro l a W hs ho hG hd hne K' hK
                          have e45 : a.tmps[192]?.getD undef = .bool false := hd ⟨45, .data⟩ (by simp) rfl
                          have e56 : a.tmps[203]?.getD undef = .bool false := hd ⟨56, .data⟩ (by simp) rfl
                          clear hd ho hne
                          go_simp
                          exact hK _ _ rfl hG (fun j' v' _ hf => hf)
                        · intro l a W hs ho hG hd hne K' hK
                          have e57 : a.tmps[204]?.getD undef = .bool false := hd ⟨57, .data⟩ (by simp) rfl
                          clear hd ho hne
                          go_simp
                          exact hK _ _ rfl hG (fun j' v' _ hf => hf)
                        · intro l a W hs ho hG hd hne K' hK
                          have eg : a.tmps[205]?.getD undef = .bool false := hd ⟨58, .guard⟩ (by simp) rfl
                          have b25 : a.tmps[25]?.getD undef = .slice (some ⟨g4, 0, none⟩) aw.length I2 := ho.ev 25 rfl
                          rw [if_pos (by rw [wanted_of rfl rfl eg]; rfl)]
                          clear hd ho hne eg
                          go_simp
                          exact hK _ _ rfl hG (fun j' v' _ hf => hf)
                        · intro l a W hs ho hG hd hne K' hK
                          have eg : a.tmps[205]?.getD undef = .bool false := hd ⟨58, .guard⟩ (by simp) rfl
                          have b27 : a.tmps[27]?.getD undef = .int .i64 (k : Int) := ho.ev 27 rfl
                          rw [if_pos (by rw [wanted_of rfl rfl eg]; rfl)]
                          clear hd ho hne eg
                          go_simp
                          exact hK _ _ rfl hG (fun j' v' _ hf => hf)
                        · intro l a W hs ho hG hd hne K' hK
                          have eg : a.tmps[205]?.getD undef = .bool false := hd ⟨58, .guard⟩ (by simp) rfl
                          have e59 : a.tmps[206]?.getD undef = .slice (some ⟨g4, 0, none⟩) aw.length I2 := hd ⟨59, .data⟩ (by simp) rfl
                          have e60 : a.tmps[207]?.getD undef = .int .i64 (k : Int) := hd ⟨60, .data⟩ (by simp) rfl
                          rw [if_pos (by rw [wanted_of rfl rfl eg]; rfl)]
                          have hj1 := hji
                          have hj2 := hji0
                          clear hd ho hne eg
                          go_simp
                          exact hK _ _ rfl hG (fun j' v' _ hf => hf)
                        · intro l a W hs ho hG hd hne K' hK
                          have eg : a.tmps[205]?.getD undef = .bool false := hd ⟨58, .guard⟩ (by simp) rfl
                          have e61 : a.tmps[208]?.getD undef = .pointer (some ⟨g4, k * 5, none⟩) := hd ⟨61, .data⟩ (by simp) rfl
                          rw [if_pos (by rw [wanted_of rfl rfl eg]; rfl)]
                          clear hd ho hne eg
                          go_simp
                          exact hK _ _ rfl hG (fun j' v' _ hf => hf)
                        · intro l a W hs ho hG hd hne K' hK
                          have eg : a.tmps[205]?.getD undef = .bool false := hd ⟨58, .guard⟩ (by simp) rfl
                          have e62 : a.tmps[209]?.getD undef = .pointer (some ⟨g4, k * 5 + 2, none⟩) := hd ⟨62, .data⟩ (by simp) rfl
                          rw [if_pos (by rw [wanted_of rfl rfl eg]; rfl)]
                          have hcl := hG.cell r2
                          clear hd ho hne eg
                          go_simp
                          exact hK _ _ rfl hG (fun j' v' _ hf => hf)
                        · intro l a W hs ho hG hd hne K' hK
                          have eg : a.tmps[205]?.getD undef = .bool false := hd ⟨58, .guard⟩ (by simp) rfl
                          have b18 : a.tmps[18]?.getD undef = .slice (some ⟨g2, 0, none⟩) aw.length C2 := ho.ev 18 rfl
                          rw [if_pos (by rw [wanted_of rfl rfl eg]; rfl)]
                          clear hd ho hne eg
                          go_simp
                          exact hK _ _ rfl hG (fun j' v' _ hf => hf)
                        · intro l a W hs ho hG hd hne K' hK
                          have eg : a.tmps[205]?.getD undef = .bool false := hd ⟨58, .guard⟩ (by simp) rfl
                          have b27 : a.tmps[27]?.getD undef = .int .i64 (k : Int) := ho.ev 27 rfl
                          rw [if_pos (by rw [wanted_of rfl rfl eg]; rfl)]
                          clear hd ho hne eg
                          go_simp
                          exact hK _ _ rfl hG (fun j' v' _ hf => hf)
                        · intro l a W hs ho hG hd hne K' hK
                          have eg : a.tmps[205]?.getD undef = .bool false := hd ⟨58, .guard⟩ (by simp) rfl
                          have e64 : a.tmps[211]?.getD undef = .slice (some ⟨g2, 0, none⟩) aw.length C2 := hd ⟨64, .data⟩ (by simp) rfl
                          have e65 : a.tmps[212]?.getD undef = .int .i64 (k : Int) := hd ⟨65, .data⟩ (by simp) rfl
                          rw [if_pos (by rw [wanted_of rfl rfl eg]; rfl)]
                          have hj1 := hji
                          have hj2 := hji0
                          clear hd ho hne eg
                          go_simp
                          exact hK _ _ rfl hG (fun j' v' _ hf => hf)
                        · intro l a W hs ho hG hd hne K' hK
                          have eg : a.tmps[205]?.getD undef = .bool false := hd ⟨58, .guard⟩ (by simp) rfl
                          have e66 : a.tmps[213]?.getD undef = .pointer (some ⟨g2, k * 5, none⟩) := hd ⟨66, .data⟩ (by simp) rfl
                          rw [if_pos (by rw [wanted_of rfl rfl eg]; rfl)]
                          clear hd ho hne eg
                          go_simp
                          exact hK _ _ rfl hG (fun j' v' _ hf => hf)
                        · intro l a W hs ho hG hd hne K' hK
                          have eg : a.tmps[205]?.getD undef = .bool false := hd ⟨58, .guard⟩ (by simp) rfl
                          have e67 : a.tmps[214]?.getD undef = .pointer (some ⟨g2, k * 5 + 2, none⟩) := hd ⟨67, .data⟩ (by simp) rfl
                          rw [if_pos (by rw [wanted_of rfl rfl eg]; rfl)]
                          have hcl := hG.cell q2
                          clear hd ho hne eg
                          go_simp
                          exact hK _ _ rfl hG (fun j' v' _ hf => hf)
                        · intro l a W hs ho hG hd hne K' hK
                          have eg : a.tmps[205]?.getD undef = .bool false := hd ⟨58, .guard⟩ (by simp) rfl
                          have e63 : a.tmps[210]?.getD undef = .string x.label := hd ⟨63, .data⟩ (by simp) rfl
                          have e68 : a.tmps[215]?.getD undef = .string x.label := hd ⟨68, .data⟩ (by simp) rfl
                          rw [if_pos (by rw [wanted_of rfl rfl eg]; rfl)]
                          clear hd ho hne eg
                          go_simp
                          exact hK _ _ rfl hG (fun j' v' _ hf => hf)
                        · intro l a W hs ho hG hd hne K' hK
                          have e58 : a.tmps[205]?.getD undef = .bool false := hd ⟨58, .data⟩ (by simp) rfl
                          have e69 : a.tmps[216]?.getD undef = .bool false := hd ⟨69, .data⟩ (by simp) rfl
                          clear hd ho hne
                          go_simp
                          exact hK _ _ rfl hG (fun j' v' _ hf => hf)
                      · intro l a W ho hG hF
                        have e70 := hF 70 (by omega)
                        replace e70 : a.tmps[217]?.getD undef = .bool false := e70
                        have hfr := ho.range 147 71 (by kernel_rfl) (Nat.le_of_ble_eq_true (by kernel_rfl))
                        show K1 a W
                        refine hK1 _ _ (Met.intro ?_)
                        refine hJ _ _ ?_
                        (repeat apply Exists.intro)
                        exact ⟨⟨e70, hG⟩, hfr⟩
                  case rest =>
                    as_aux_lemma =>
                      obtain ⟨rfl, hxr⟩ := hcut
                      go_wp2_with fail
                      go_roundw
                      case rel => exact ⟨k + 1, hj0.out, by go_num, hx1.out.trans hxr⟩
                      case measure => simp [intOf]; omega
              · obtain rfl : k = aw.length := by omega
                have hx1 := Lib.hid hxk
                clear hxk
                go_wp2_with fail
                go_meet
                exact hE3.out.trans hx1.out
          · have hkf : (kg == 0) = false := beq_eq_false_iff_ne.2 hk
            go_wp2_with fail
            go_meet
            exact Ext.refl _
      case rest =>
        as_aux_lemma =>
          have hE3 := hE2.trans hcut
          have hfa3 := Lib.hid (hcut.own hfa2.out)
          have hfb3 := Lib.hid (hcut.own hfb2.out)
          clear hE2 hfa2 hwa2 hfb2 hcut HG gA hdays hsides
          go_upto_region 27 with fail
          have nb0 : (wc.alloc (.cells #[.iface kx vx, .iface ky vy] 118)).cell? ⟨wc.heap.size, 0, none⟩ = some (.iface kx vx) := by rw [World.cell?_alloc_new]; rfl
          have nb1 : (wc.alloc (.cells #[.iface kx vx, .iface ky vy] 118)).cell? ⟨wc.heap.size, 1, none⟩ = some (.iface ky vy) := by rw [World.cell?_alloc_new]; rfl
          have hE4 := hE3.trans ((Ext.refl wc).alloc (.cells #[.iface kx vx, .iface ky vy] 118))
          have hfa4 := Lib.hid (((Ext.refl wc).alloc (.cells #[.iface kx vx, .iface ky vy] 118)).own hfa3.out)
          have hfb4 := Lib.hid (((Ext.refl wc).alloc (.cells #[.iface kx vx, .iface ky vy] 118)).own hfb3.out)
          clear hE3 hfa3 hfb3
          generalize wc.heap.size = bn at *
          generalize (wc.alloc (.cells #[.iface kx vx, .iface ky vy] 118)) = Xn at *
          have hbt : (Hid (be = 0) ∧ (be == 0) = true ∧ bf.length ≤ 60) ∨ ((be == 0) = false) := by
            rcases hbe with h | ⟨h, h2⟩
            · exact .inr (by rw [h]; decide)
            · exact .inl ⟨Lib.hid h, by rw [h]; rfl, h2⟩
          have hnt : (Hid (kn = 0) ∧ (kn == 0) = true) ∨ (kn == 0) = false := by
            by_cases h : kn = 0
            · exact .inl ⟨Lib.hid h, by rw [h]; rfl⟩
            · exact .inr (beq_eq_false_iff_ne.2 h)
          go_cut [229] from 222 to 229 (fun v wx => v = .bool ((kn == 0) && (be == 0)) ∧ Ext Xn wx)
          case first =>
            as_aux_lemma =>
              clear HA HN HM HS TM TS nA mA sA lA hfa4 hfb4 hbe
              (go_wp2_with fail; (with_reducible refine (TN _).mono ?_); rintro e w' ⟨rfl, hxn⟩)
              rcases hnt with ⟨_, t1⟩ | t1
              · rcases hbt with ⟨_, t2, _⟩ | t2
                all_goals
                  go_wp2_with fail
                  go_meet
                  exact ⟨by rw [t1, t2]; rfl, hxn⟩
              · clear hbt
                go_wp2_with fail
                go_meet
                exact ⟨by rw [t1]; rfl, hxn⟩
          case rest =>
            as_aux_lemma =>
              obtain ⟨rfl, hxn⟩ := hcut
              replace nb0 := hxn.cell nb0
              replace nb1 := hxn.cell nb1
              have hE5 := hE4.trans hxn
              have hfa5 := Lib.hid (hxn.own hfa4.out)
              have hfb5 := Lib.hid (hxn.own hfb4.out)
              clear hE4 hfa4 hfb4 TN hxn
              go_upto_if 229 with fail
              go_cut [] from 43 to 320 (fun wx => Ext wc wx)
              case first =>
                as_aux_lemma =>
                  clear HA HM HS TM TS mA sA lA
                  rcases hnt with ⟨n0, t1⟩ | t1
                  · rcases hbt with ⟨b0, t2, b60⟩ | t2
                    · obtain ⟨Wn, hcn⟩ := nA.out n0.out b0.out
                      rw [show ((kn == 0) && (be == 0)) = true by rw [t1, t2]; rfl]
                      (go_wp2_with fail; (with_reducible refine (HN _ hE5).mono ?_); rintro e wg ⟨u5, u6, rfl, hfg, hwg, hxg⟩)
                      rw [hcn] at hfg hwg ⊢
                      simp only [List.length_append] at hfg hwg ⊢
                      obtain ⟨G1, I1, rfl, hg1, hg2⟩ := own_form hfg
                      obtain ⟨G2, I2, rfl, hg3, hg4⟩ := own_form hwg
                      unfold maxLen at hg2 hg4
                      have HCp := kcopyF_calls _ af A1 C1 wg (hxg.own hfa5.out) (by omega)
                      clear hwg
                      (go_wp2_with fail; (with_reducible refine HCp.mono ?_); rintro e wt ⟨u7, rfl, hft, hxt⟩)
                      obtain ⟨T1, J1, rfl, ht1, ht2⟩ := own_form hft
                      unfold maxLen at ht2
                      have hrdb := Rd.of_own ((hxg.trans hxt).own hfb5.out)
                      have h63 : af.length + bf.length ≤ maxLen := by unfold maxLen; omega
                      have hby : (af.length + bf.length) * 32 ≤ 140737488355328 := by omega
                      go_wp2_with (at_builtin; refine wpList_appG elemFl (by rfl) _ _ rfl wg.heap.size (.slice T1 af.length J1) af.length (flCells af) rfl hft B1 bf.length D1 (flCells bf) rfl hrdb (flCells_one bf) h63 hby hxt.le ?_; intro v1 w1 hown1 hg1 hat1)
                      have hxa := hxt.grown hg1 (fun k hk => (hft.lt k hk).1)
                      rw [← flCells_app] at hown1
                      obtain ⟨A6, C6, rfl, h6, h7⟩ := own_form hown1
                      have HSm := ksameF_own _ (hxa.own hfg) hown1 (by omega)
                      have hxa0 := Lib.hid (hxg.trans hxa)
                      clear hown1 hg1 hat1 h63 hby hft hrdb HCp hxt hxg hxa hfg h7 hcn
                      (go_wp2_with fail; (with_reducible refine HSm.mono ?_); rintro e wk ⟨rfl, hxk⟩)
                      clear HSm
                      go_wp2_with fail
                      go_meet
                      exact hxa0.out.trans hxk
                    · rw [show ((kn == 0) && (be == 0)) = false by rw [t1, t2]; rfl]
                      go_wp2_with fail
                      go_meet
                      exact Ext.refl _
                  · rw [show ((kn == 0) && (be == 0)) = false by rw [t1]; rfl]
                    go_wp2_with fail
                    go_meet
                    exact Ext.refl _
              case rest =>
                as_aux_lemma =>
                  have hE6b := hE5.trans hcut
                  clear hE5 hfa5 hfb5 HN nA hcut nb0 nb1 hnt hbt hbe
                  (go_wp2_with fail; (with_reducible refine (TM _).mono ?_); rintro e wn ⟨rfl, hxn⟩)
                  have nb0 : wn.cell? ⟨wc.heap.size, 0, none⟩ = some (.int .i64 m) := hxn.cell (by rw [World.cell?_alloc_new]; rfl)
                  have nb1 : wn.cell? ⟨wc.heap.size, 1, none⟩ = some (.iface kx vx) := hxn.cell (by rw [World.cell?_alloc_new]; rfl)
                  have hE7 := hE6b.trans (show Ext wc wn from (by repeat' (first | (with_reducible exact Ext.refl _) | (with_reducible assumption) | (with_reducible refine Ext.alloc ?_ _) | (with_reducible refine Ext.drew ?_) | (with_reducible refine Ext.drewN ?_ _) | (with_reducible refine Ext.setCell ?_ (by first | exact Nat.le_refl _ | (simp; done) | (simp; omega) | omega) _) | (with_reducible refine Ext.trans ?_ (by assumption)))))
                  clear hE6b hxn TM
                  generalize wc.heap.size = bm at *
                  go_upto_if 256 with fail
                  go_cut [] from 43 to 320 (fun wx => Ext wn wx)
                  case first =>
                    as_aux_lemma =>
                      clear HS TS sA
                      by_cases hk : km = 0
                      · subst hk
                        have hmv := mA.out rfl
                        obtain ⟨D, hD⟩ : ∃ D, D = Max.max d m := ⟨_, rfl⟩
                        rw [← hD] at hmv
                        have hAD := HA D
                        have hln := lA.out D
                        (go_wp2_with fail; (with_reducible refine (HM _ hE7).mono ?_); rintro e wg ⟨u5, u6, rfl, hfg, hwg, hxg⟩)
                        rw [hmv] at hfg hwg ⊢
                        clear hmv HM HA mA lA
                        generalize cashOf F C ⟨#[116]⟩ o D = M at *
                        obtain ⟨Me, Mf, Mw⟩ := M
                        simp only at hfg hwg hln ⊢
                        obtain ⟨G1, I1, rfl, hg1, hg2⟩ := own_form hfg
                        obtain ⟨G2, I2, rfl, hg3, hg4⟩ := own_form hwg
                        unfold maxLen at hg2 hg4
                        have hmm : (Me != Me) = false := by simp
                        have hAD := hAD wg (hE7.trans hxg)
                        rcases max_sp d m D hD with ⟨hdm, rfl⟩ | ⟨hdm, rfl⟩
                        all_goals
                          clear hD
                          (go_wp2_with fail; (with_reducible refine hAD.mono ?_); rintro e wt ⟨u7, u8, rfl, hft, hwt, hxt⟩)
                          obtain ⟨T1, J1, rfl, ht1, ht2⟩ := own_form hft
                          obtain ⟨T2, J2, rfl, ht3, ht4⟩ := own_form hwt
                          simp only at hft hwt ht1 ht3 ⊢
                          unfold maxLen at ht2 ht4
                          have HS1 := ksameF_own _ (hxt.own hfg) hft (by omega)
                          have HS2 := fun W (hW : Ext wt W) => ksameW_own _ (hW.own (hxt.own hwg)) (hW.own hwt) (by omega)
                          have hx0 := Lib.hid (hxg.trans hxt)
                          clear hfg hwg hft hwt hxg hxt hAD
                          (go_wp2_with fail; (with_reducible refine HS1.mono ?_); rintro e wk ⟨rfl, hxk⟩)
                          (go_wp2_with fail; (with_reducible refine (HS2 _ hxk).mono ?_); rintro e wl ⟨rfl, hxl⟩)
                          clear HS1 HS2
                          go_wp2_with fail
                          go_meet
                          exact (hx0.out.trans hxk).trans hxl
                      · have hkf : (km == 0) = false := beq_eq_false_iff_ne.2 hk
                        go_wp2_with fail
                        go_meet
                        exact Ext.refl _
                  case rest =>
                    as_aux_lemma =>
                      have hE8b := hE7.trans hcut
                      clear hE7 HM HA mA lA hcut nb0 nb1
                      (go_wp2_with fail; (with_reducible refine (TS _).mono ?_); rintro e wo ⟨rfl, hxn⟩)
                      have nb0 : wo.cell? ⟨wc.heap.size, 0, none⟩ = some (.iface 52 (.agg #[.int .i64 0])) := hxn.cell (by rw [World.cell?_alloc_new]; rfl)
                      have nb1 : wo.cell? ⟨wc.heap.size, 1, none⟩ = some (.iface kx vx) := hxn.cell (by rw [World.cell?_alloc_new]; rfl)
                      have hE9 := hE8b.trans (show Ext wc wo from (by repeat' (first | (with_reducible exact Ext.refl _) | (with_reducible assumption) | (with_reducible refine Ext.alloc ?_ _) | (with_reducible refine Ext.drew ?_) | (with_reducible refine Ext.drewN ?_ _) | (with_reducible refine Ext.setCell ?_ (by first | exact Nat.le_refl _ | (simp; done) | (simp; omega) | omega) _) | (with_reducible refine Ext.trans ?_ (by assumption)))))
                      clear hE8b hxn TS
                      generalize wc.heap.size = bs at *
                      go_upto_if 298 with fail
                      go_cut [] from 43 to 320 (fun wx => Ext wo wx)
                      case first =>
                        as_aux_lemma =>
                          by_cases hk : ks = 0
                          · subst hk
                            have hsv := sA.out rfl
                            (go_wp2_with fail; (with_reducible refine (HS _ hE9).mono ?_); rintro e wg ⟨u5, u6, rfl, hfg, hwg, hxg⟩)
                            rw [hsv] at hfg hwg ⊢
                            obtain ⟨G1, I1, rfl, hg1, hg2⟩ := own_form hfg
                            obtain ⟨G2, I2, rfl, hg3, hg4⟩ := own_form hwg
                            simp only [List.length_nil] at *
                            clear hfg hwg HS
                            go_wp2_with fail
                            go_meet
                            exact hxg
                          · have hkf : (ks == 0) = false := beq_eq_false_iff_ne.2 hk
                            go_wp2_with fail
                            go_meet
                            exact Ext.refl _
                      case rest =>
                        as_aux_lemma =>
                          have hEz := Lib.hid (hE6.out.trans (hE9.trans hcut))
                          clear hE9 HS sA hcut nb0 nb1
                          (go_wp2_with fail; (with_reducible refine (wakes10_calls _).mono ?_); rintro e w' ⟨rfl, hxe⟩)
                          go_wp2
                          go_ret
                          exact ⟨rfl, hEz.out.trans hxe⟩

end Go.Proofs.Ytgjjngkmbplijaa
