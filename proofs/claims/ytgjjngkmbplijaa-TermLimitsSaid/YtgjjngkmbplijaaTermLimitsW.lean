/- The walk of the law TermLimits. -/
import Derived.Test.YtgjjngkmbplijaaTerm4
import Derived.Test.YtgjjngkmbplijaaValue
import Derived.Deep.RegionHeld3
namespace Go.Proofs.Ytgjjngkmbplijaa
open Go.RowKit
set_option linter.unusedSimpArgs false
set_option linter.unusedVariables false

def gives : Nat → Te
  | 0 => .one ⟨#[117, 115, 100]⟩
  | k + 1 => .give (gives k)
theorem gives_facts (k : Nat) : (gives k).wf ∧ (gives k).formed = true ∧ (gives k).nodes = k + 1 ∧ (gives k).depth = k + 1 ∧ (gives k).labels = [] ∧ ∃ t x, (gives k).val = .iface t x := by
  induction k with
  | zero => exact ⟨by show (⟨#[117, 115, 100]⟩ : ByteArray).size ≤ 1000; decide, by decide +kernel, rfl, rfl, rfl, _, _, rfl⟩
  | succ k ih =>
    obtain ⟨h1, h2, h3, h4, h5, _⟩ := ih
    exact ⟨h1, h2, by simp only [gives, Te.nodes, h3], by simp only [gives, Te.depth, h4], h5, _, _, rfl⟩
theorem gives_checked {k : Nat} (h : k ≤ 12) : (gives k).checked = if 12 ≤ k then 5 else 0 := by
  obtain ⟨h1, h2, h3, h4, h5, _⟩ := gives_facts k
  by_cases hk : 12 ≤ k
  · rw [Te.checked_lim h2 (by omega), if_pos hk]
  · rw [Te.checked_ok h2 (by omega) (by omega) (by rw [h5]; rfl), if_neg hk]
abbrev zV : Value := .iface 101 (.agg #[])
def limTab (k : Nat) (want : Int) (b : Nat) : List (Te × Int) :=
  [(gives k, want), (.one ⟨#[]⟩, 2), (.one ⟨#[85, 83, 68]⟩, 2), (.or ⟨#[]⟩ .zero .zero, 2), (.or ⟨#[97]⟩ .zero (.or ⟨#[97]⟩ .zero .zero), 4), (.or ⟨#[97]⟩ .zero (.or ⟨#[98]⟩ .zero .zero), 0),
   (.whn (-1) .zero, 2), (.whn 10001 .zero, 2), (.scale (.odd zV) .zero, 2), (.scale (.const 1) (.odd (.iface 52 (.agg #[.int .i64 1]))), 2), (.cond (.const 1) .zero (.odd .nilIface), 2), (.give (.odd .nilIface), 2),
   (.odd (.iface 111 (.pointer (some ⟨b, 0, none⟩))), 2)]
def tabT (l : List (Te × Int)) : List Value := l.flatMap fun x => [x.1.val, .int .i64 x.2]
theorem tabT_at {l : List (Te × Int)} {j : Nat} {x : Te × Int} (h : l[j]? = some x) : (tabT l)[j * 2]? = some x.1.val ∧ (tabT l)[j * 2 + 1]? = some (.int .i64 x.2) := by
  induction l generalizing j with
  | nil => simp at h
  | cons y r ih =>
    cases j with
    | zero => simp at h; subst h; exact ⟨rfl, rfl⟩
    | succ j =>
      simp only [List.getElem?_cons_succ] at h
      obtain ⟨h1, h2⟩ := ih h
      have e : ∀ k, (tabT (y :: r))[k + 2]? = (tabT r)[k]? := fun k => by simp [tabT]
      rw [show (j + 1) * 2 = j * 2 + 2 by omega, show j * 2 + 2 + 1 = (j * 2 + 1) + 2 by omega, e, e]
      exact ⟨h1, h2⟩
theorem Rd.atT {w : World} {ad : Addr} {n : Nat} {l : List (Te × Int)} (h : Rd w 2 (some ad) n (tabT l)) {j : Nat} {x : Te × Int} (hx : l[j]? = some x) :
    w.cell? (ad.add (j * 2)) = some x.1.val ∧ w.cell? (ad.add (j * 2 + 1)) = some (.int .i64 x.2) := by
  obtain ⟨h1, h2⟩ := tabT_at hx
  obtain ⟨a1, e1, c1⟩ := h.2 _ _ h1
  obtain ⟨a2, e2, c2⟩ := h.2 _ _ h2
  injection e1 with e1
  injection e2 with e2
  subst e1 e2
  exact ⟨c1, c2⟩
theorem lim_facts (k b : Nat) (hk : k ≤ 12) : ∀ x ∈ limTab k (if 12 ≤ k then 5 else 0) b, x.1.wf ∧ x.1.nodes ≤ 60 ∧ x.1.checked = x.2 := by
  obtain ⟨h1, h2, h3, h4, h5, _⟩ := gives_facts k
  have s1 : (⟨#[]⟩ : ByteArray).size ≤ 1000 := by decide
  have s2 : (⟨#[85, 83, 68]⟩ : ByteArray).size ≤ 1000 := by decide
  have s3 : (⟨#[97]⟩ : ByteArray).size ≤ 1000 := by decide
  have s4 : (⟨#[98]⟩ : ByteArray).size ≤ 1000 := by decide
  intro x hx
  simp only [limTab, List.mem_cons, List.not_mem_nil, or_false] at hx
  rcases hx with rfl | rfl | rfl | rfl | rfl | rfl | rfl | rfl | rfl | rfl | rfl | rfl | rfl
  · exact ⟨h1, by simp only; omega, gives_checked hk⟩
  · exact ⟨s1, by decide, by decide +kernel⟩
  · exact ⟨s2, by decide, by decide +kernel⟩
  · exact ⟨⟨s1, trivial, trivial⟩, by decide, by decide +kernel⟩
  · exact ⟨⟨s3, trivial, s3, trivial, trivial⟩, by decide, by decide +kernel⟩
  · exact ⟨⟨s3, trivial, s4, trivial, trivial⟩, by decide, by decide +kernel⟩
  · exact ⟨⟨⟨by omega, by omega⟩, trivial⟩, by decide, by decide +kernel⟩
  · exact ⟨⟨⟨by omega, by omega⟩, trivial⟩, by decide, by decide +kernel⟩
  · exact ⟨⟨.inr ⟨_, _, rfl, by decide, by decide, by decide, by decide, by decide, by decide⟩, trivial⟩, by decide, by decide +kernel⟩
  · exact ⟨⟨⟨by omega, by omega⟩, .inr ⟨_, _, rfl, by decide, by decide, by decide, by decide, by decide, by decide, by decide, by decide⟩⟩, by decide, by decide +kernel⟩
  · exact ⟨⟨⟨by omega, by omega⟩, trivial, .inl rfl⟩, by decide, by decide +kernel⟩
  · exact ⟨.inl rfl, by decide, by decide +kernel⟩
  · exact ⟨.inr ⟨_, _, rfl, by decide, by decide, by decide, by decide, by decide, by decide, by decide, by decide⟩, by simp [Te.nodes], rfl⟩

set_option maxRecDepth 100000 in
set_option maxHeartbeats 6400000 in
theorem termLimits_walk (n day : Int) (w : World) (w0 : (Lit.int .i64 n).wf = true) (w1 : (Lit.int .i64 day).wf = true) :
    Calls Try.prog 14 #[.int .i64 n, .int .i64 day] w fun e w' => e = .returned (.bool true) ∧ Ext w w' := by
  have b1 := i64_of w0
  have b2 := i64_of w1
  have m1 := within_lo n 4 (by omega)
  have m2 := within_hi n 4 (by omega)
  clear w0 w1
  go_enter Try.func14, Try.ntmps14
  (go_wp2_with fail; (with_reducible refine (within_calls _ _ _ (by omega) (by omega) b1.1 b1.2).mono ?_); rintro e w' ⟨rfl, rfl⟩)
  obtain ⟨q, hq⟩ : ∃ q : Nat, n % 4 = q := ⟨(n % 4).toNat, by omega⟩
  rw [hq] at m1 m2 ⊢
  clear hq
  go_wp2_with fail
  go_loop [6, 5] (fun i t => ∃ k : Nat, k ≤ 9 + q ∧ i = .int .i64 (k + 1 : Nat) ∧ t = (gives k).val) (fun i _ => 14 - (intOf i).toNat)
  case atStart => exact ⟨0, by omega, rfl, rfl⟩
  case round =>
    obtain ⟨k, hk, rfl, rfl⟩ := hrel
    obtain ⟨f1, f2, f3, f4, f5, ty, x, hf⟩ := gives_facts k
    by_cases hlt : k < 9 + q
    · have hk1 : ((k + 1 : Nat) : Int) < 10 + (q : Int) := by omega
      have hgv := Lib.hid (show (gives (k + 1)).val = .iface 99 (.agg #[(gives k).val]) from rfl)
      rw [hf] at hgv ⊢
      clear f1 f2 f3 f4 f5 hf
      go_wp2_with fail
      go_round
      case rel => exact ⟨k + 1, by omega, by go_num, hgv.out.symm⟩
      case measure => simp [intOf]; omega
    · obtain rfl : k = 9 + q := by omega
      have hk1 : ¬ ((9 + q + 1 : Nat) : Int) < 10 + (q : Int) := by omega
      have HT := lim_facts (9 + q) w.heap.size (by omega)
      have hlen : (limTab (9 + q) (if 12 ≤ 9 + q then 5 else 0) w.heap.size).length = 13 := rfl
      have hgv := Lib.hid hf
      rw [hf]
      clear f1 f2 f3 f4 f5 hf
      have HT0 := Lib.hid HT
      clear HT
      have hwant : (12 < 10 + (q : Int) ∧ (if 12 ≤ 9 + q then 5 else 0 : Int) = 5) ∨ (10 + (q : Int) ≤ 12 ∧ (if 12 ≤ 9 + q then 5 else 0 : Int) = 0) := by
        by_cases h : 3 ≤ q
        · exact .inl ⟨by omega, by rw [if_pos (by omega)]⟩
        · exact .inr ⟨by omega, by rw [if_neg (by omega)]⟩
      rcases hwant with ⟨g1, g2⟩ | ⟨g1, g2⟩
      · rw [g2] at HT0 hlen
        clear g2
        have HW := fun w' => tcheck_calls (.whn day .zero) w' ⟨b2, trivial⟩ (by simp [Te.nodes])
        have hd : (0 ≤ day ∧ day ≤ 10000 ∧ (Te.whn day .zero).checked = 0) ∨ (day < 0 ∧ (Te.whn day .zero).checked = 2) ∨ (0 ≤ day ∧ decide (day ≤ 10000) = false ∧ (Te.whn day .zero).checked = 2) := by
          have hf : (Te.whn day .zero).formed = (dayB day && true) := rfl
          rcases Int.lt_or_le day 0 with h | h
          · exact .inr (.inl ⟨h, Te.checked_no (by rw [hf, bool_no (dayB_iff day) (by omega)]; rfl)⟩)
          · rcases Int.lt_or_le 10000 day with h' | h'
            · exact .inr (.inr ⟨h, by simp; omega, Te.checked_no (by rw [hf, bool_no (dayB_iff day) (by omega)]; rfl)⟩)
            · exact .inl ⟨h, h', Te.checked_ok (by rw [hf, (dayB_iff day).2 ⟨h, h'⟩]; rfl) (by simp [Te.nodes]) (by simp [Te.depth]) rfl⟩
        simp only [Te.val] at HW
        rcases hd with ⟨d1, d2, hc⟩ | ⟨d1, hc⟩ | ⟨d1, d2, hc⟩
        all_goals
          rw [hc] at HW
          clear hc
          go_wp2_with fail
          go_loopw [110] (fun i wr => ∃ j : Nat, j ≤ 13 ∧ i = .int .i64 j ∧ Ext w wr ∧ wr.heap[w.heap.size]? = some (.cells #[] 101 (0, 0)) ∧ Rd wr 2 (some ⟨w.heap.size + 1, 0, none⟩) 13 (tabT (limTab (9 + q) 5 w.heap.size))) (fun i _ => 13 - (intOf i).toNat)
          case atStart =>
            refine ⟨0, by omega, rfl, ((by repeat' (first | (with_reducible exact Ext.refl _) | (with_reducible assumption) | (with_reducible refine Ext.alloc ?_ _) | (with_reducible refine Ext.drew ?_) | (with_reducible refine Ext.drewN ?_ _) | (with_reducible refine Ext.setCell ?_ (by first | exact Nat.le_refl _ | (simp; done) | (simp; omega) | omega) _) | (with_reducible refine Ext.trans ?_ (by assumption))))), ?_, ?_⟩
            · rw [heap_old _ _ (by simp), heap_new]
            · refine Rd.newAt (by simp) ?_ rfl
              simp only [limTab, tabT, List.flatMap_cons, hgv.out]
              rfl
          case round =>
            obtain ⟨j, hj, rfl, hE, hz, hr⟩ := hrel
            by_cases hlt : j < 13
            · have h1 : (limTab (9 + q) 5 w.heap.size)[j]? = some (limTab (9 + q) 5 w.heap.size)[j] := List.getElem?_eq_getElem (by rw [hlen]; exact hlt)
              generalize (limTab (9 + q) 5 w.heap.size)[j] = x at h1
              obtain ⟨t, e⟩ := x
              obtain ⟨t1, t2, t3⟩ := HT0.out _ (List.mem_of_getElem? h1)
              obtain ⟨r1, r2⟩ := hr.atT h1
              simp only at t1 t2 t3 r1 r2
              have hr0 := Lib.hid hr
              have hz0 := Lib.hid hz
              have HC := fun w' => tcheck_calls t w' t1 (by omega)
              rw [t3] at HC
              have hform := Te.form t1
              generalize t.val = tv at *
              clear hr h1 t1 t2 t3 hz
              rw [Addr.add_lit] at r1 r2
              simp only [Nat.zero_add] at r1 r2
              have hnn : (e != e) = false := by simp
              rcases hform with rfl | ⟨ty2, x2, rfl⟩
              · go_wp2_with fail
                go_region_held3 (fun w' => w'.cell? ⟨wr.heap.size, 0, none⟩ = some .nilIface ∧ w'.cell? ⟨wr.heap.size, 1, none⟩ = some (.int .i64 e)) (first | go_keep | exact ⟨s0, s1⟩)
                  (first | (go_at_call 64; with_reducible refine (HC _).mono ?_; rintro e' w2 ⟨rfl, hx⟩; have s0 := hx.cell (p := ⟨wr.heap.size, 0, none⟩) (v := .nilIface) (by simp [go_sem]); have s1 := hx.cell (p := ⟨wr.heap.size, 1, none⟩) (v := .int .i64 e) (by simp [go_sem])) | fail)
                all_goals
                  go_wp2_with fail
                  go_roundw
                  case rel => exact ⟨j + 1, by omega, by go_num, ((by repeat' (first | (with_reducible exact Ext.refl _) | (with_reducible assumption) | (with_reducible refine Ext.alloc ?_ _) | (with_reducible refine Ext.drew ?_) | (with_reducible refine Ext.drewN ?_ _) | (with_reducible refine Ext.setCell ?_ (by first | exact Nat.le_refl _ | (simp; done) | (simp; omega) | omega) _) | (with_reducible refine Ext.trans ?_ (by assumption))))), Ext.obj ((by repeat' (first | (with_reducible exact Ext.refl _) | (with_reducible assumption) | (with_reducible refine Ext.alloc ?_ _) | (with_reducible refine Ext.drew ?_) | (with_reducible refine Ext.drewN ?_ _) | (with_reducible refine Ext.setCell ?_ (by first | exact Nat.le_refl _ | (simp; done) | (simp; omega) | omega) _) | (with_reducible refine Ext.trans ?_ (by assumption))))) hz0.out, hr0.out.ext ((by repeat' (first | (with_reducible exact Ext.refl _) | (with_reducible assumption) | (with_reducible refine Ext.alloc ?_ _) | (with_reducible refine Ext.drew ?_) | (with_reducible refine Ext.drewN ?_ _) | (with_reducible refine Ext.setCell ?_ (by first | exact Nat.le_refl _ | (simp; done) | (simp; omega) | omega) _) | (with_reducible refine Ext.trans ?_ (by assumption)))))⟩
                  case measure => simp [intOf]; omega
              · go_wp2_with fail
                go_region_held3 (fun w' => w'.cell? ⟨wr.heap.size, 0, none⟩ = some (.iface ty2 x2) ∧ w'.cell? ⟨wr.heap.size, 1, none⟩ = some (.int .i64 e)) (first | go_keep | exact ⟨s0, s1⟩)
                  (first | (go_at_call 64; with_reducible refine (HC _).mono ?_; rintro e' w2 ⟨rfl, hx⟩; have s0 := hx.cell (p := ⟨wr.heap.size, 0, none⟩) (v := (.iface ty2 x2)) (by simp [go_sem]); have s1 := hx.cell (p := ⟨wr.heap.size, 1, none⟩) (v := .int .i64 e) (by simp [go_sem])) | fail)
                all_goals
                  go_wp2_with fail
                  go_roundw
                  case rel => exact ⟨j + 1, by omega, by go_num, ((by repeat' (first | (with_reducible exact Ext.refl _) | (with_reducible assumption) | (with_reducible refine Ext.alloc ?_ _) | (with_reducible refine Ext.drew ?_) | (with_reducible refine Ext.drewN ?_ _) | (with_reducible refine Ext.setCell ?_ (by first | exact Nat.le_refl _ | (simp; done) | (simp; omega) | omega) _) | (with_reducible refine Ext.trans ?_ (by assumption))))), Ext.obj ((by repeat' (first | (with_reducible exact Ext.refl _) | (with_reducible assumption) | (with_reducible refine Ext.alloc ?_ _) | (with_reducible refine Ext.drew ?_) | (with_reducible refine Ext.drewN ?_ _) | (with_reducible refine Ext.setCell ?_ (by first | exact Nat.le_refl _ | (simp; done) | (simp; omega) | omega) _) | (with_reducible refine Ext.trans ?_ (by assumption))))) hz0.out, hr0.out.ext ((by repeat' (first | (with_reducible exact Ext.refl _) | (with_reducible assumption) | (with_reducible refine Ext.alloc ?_ _) | (with_reducible refine Ext.drew ?_) | (with_reducible refine Ext.drewN ?_ _) | (with_reducible refine Ext.setCell ?_ (by first | exact Nat.le_refl _ | (simp; done) | (simp; omega) | omega) _) | (with_reducible refine Ext.trans ?_ (by assumption)))))⟩
                  case measure => simp [intOf]; omega
            · obtain rfl : j = 13 := by omega
              have hzc := obj_cells hz
              (go_wp2_with fail; (with_reducible refine (HW _).mono ?_); rintro e w' ⟨rfl, hy⟩)
              go_wp2_with (go_at_call 65; (with_reducible refine (wakes05_calls _).mono ?_); rintro e w' ⟨rfl, hv⟩)
              go_ret
              exact ⟨rfl, (by repeat' (first | (with_reducible exact Ext.refl _) | (with_reducible assumption) | (with_reducible refine Ext.alloc ?_ _) | (with_reducible refine Ext.drew ?_) | (with_reducible refine Ext.drewN ?_ _) | (with_reducible refine Ext.setCell ?_ (by first | exact Nat.le_refl _ | (simp; done) | (simp; omega) | omega) _) | (with_reducible refine Ext.trans ?_ (by assumption))))⟩
      · rw [g2] at HT0 hlen
        clear g2
        have HW := fun w' => tcheck_calls (.whn day .zero) w' ⟨b2, trivial⟩ (by simp [Te.nodes])
        have hd : (0 ≤ day ∧ day ≤ 10000 ∧ (Te.whn day .zero).checked = 0) ∨ (day < 0 ∧ (Te.whn day .zero).checked = 2) ∨ (0 ≤ day ∧ decide (day ≤ 10000) = false ∧ (Te.whn day .zero).checked = 2) := by
          have hf : (Te.whn day .zero).formed = (dayB day && true) := rfl
          rcases Int.lt_or_le day 0 with h | h
          · exact .inr (.inl ⟨h, Te.checked_no (by rw [hf, bool_no (dayB_iff day) (by omega)]; rfl)⟩)
          · rcases Int.lt_or_le 10000 day with h' | h'
            · exact .inr (.inr ⟨h, by simp; omega, Te.checked_no (by rw [hf, bool_no (dayB_iff day) (by omega)]; rfl)⟩)
            · exact .inl ⟨h, h', Te.checked_ok (by rw [hf, (dayB_iff day).2 ⟨h, h'⟩]; rfl) (by simp [Te.nodes]) (by simp [Te.depth]) rfl⟩
        simp only [Te.val] at HW
        rcases hd with ⟨d1, d2, hc⟩ | ⟨d1, hc⟩ | ⟨d1, d2, hc⟩
        all_goals
          rw [hc] at HW
          clear hc
          go_wp2_with fail
          go_loopw [110] (fun i wr => ∃ j : Nat, j ≤ 13 ∧ i = .int .i64 j ∧ Ext w wr ∧ wr.heap[w.heap.size]? = some (.cells #[] 101 (0, 0)) ∧ Rd wr 2 (some ⟨w.heap.size + 1, 0, none⟩) 13 (tabT (limTab (9 + q) 0 w.heap.size))) (fun i _ => 13 - (intOf i).toNat)
          case atStart =>
            refine ⟨0, by omega, rfl, ((by repeat' (first | (with_reducible exact Ext.refl _) | (with_reducible assumption) | (with_reducible refine Ext.alloc ?_ _) | (with_reducible refine Ext.drew ?_) | (with_reducible refine Ext.drewN ?_ _) | (with_reducible refine Ext.setCell ?_ (by first | exact Nat.le_refl _ | (simp; done) | (simp; omega) | omega) _) | (with_reducible refine Ext.trans ?_ (by assumption))))), ?_, ?_⟩
            · rw [heap_old _ _ (by simp), heap_new]
            · refine Rd.newAt (by simp) ?_ rfl
              simp only [limTab, tabT, List.flatMap_cons, hgv.out]
              rfl
          case round =>
            obtain ⟨j, hj, rfl, hE, hz, hr⟩ := hrel
            by_cases hlt : j < 13
            · have h1 : (limTab (9 + q) 0 w.heap.size)[j]? = some (limTab (9 + q) 0 w.heap.size)[j] := List.getElem?_eq_getElem (by rw [hlen]; exact hlt)
              generalize (limTab (9 + q) 0 w.heap.size)[j] = x at h1
              obtain ⟨t, e⟩ := x
              obtain ⟨t1, t2, t3⟩ := HT0.out _ (List.mem_of_getElem? h1)
              obtain ⟨r1, r2⟩ := hr.atT h1
              simp only at t1 t2 t3 r1 r2
              have hr0 := Lib.hid hr
              have hz0 := Lib.hid hz
              have HC := fun w' => tcheck_calls t w' t1 (by omega)
              rw [t3] at HC
              have hform := Te.form t1
              generalize t.val = tv at *
              clear hr h1 t1 t2 t3 hz
              rw [Addr.add_lit] at r1 r2
              simp only [Nat.zero_add] at r1 r2
              have hnn : (e != e) = false := by simp
              rcases hform with rfl | ⟨ty2, x2, rfl⟩
              · go_wp2_with fail
                go_region_held3 (fun w' => w'.cell? ⟨wr.heap.size, 0, none⟩ = some .nilIface ∧ w'.cell? ⟨wr.heap.size, 1, none⟩ = some (.int .i64 e)) (first | go_keep | exact ⟨s0, s1⟩)
                  (first | (go_at_call 64; with_reducible refine (HC _).mono ?_; rintro e' w2 ⟨rfl, hx⟩; have s0 := hx.cell (p := ⟨wr.heap.size, 0, none⟩) (v := .nilIface) (by simp [go_sem]); have s1 := hx.cell (p := ⟨wr.heap.size, 1, none⟩) (v := .int .i64 e) (by simp [go_sem])) | fail)
                all_goals
                  go_wp2_with fail
                  go_roundw
                  case rel => exact ⟨j + 1, by omega, by go_num, ((by repeat' (first | (with_reducible exact Ext.refl _) | (with_reducible assumption) | (with_reducible refine Ext.alloc ?_ _) | (with_reducible refine Ext.drew ?_) | (with_reducible refine Ext.drewN ?_ _) | (with_reducible refine Ext.setCell ?_ (by first | exact Nat.le_refl _ | (simp; done) | (simp; omega) | omega) _) | (with_reducible refine Ext.trans ?_ (by assumption))))), Ext.obj ((by repeat' (first | (with_reducible exact Ext.refl _) | (with_reducible assumption) | (with_reducible refine Ext.alloc ?_ _) | (with_reducible refine Ext.drew ?_) | (with_reducible refine Ext.drewN ?_ _) | (with_reducible refine Ext.setCell ?_ (by first | exact Nat.le_refl _ | (simp; done) | (simp; omega) | omega) _) | (with_reducible refine Ext.trans ?_ (by assumption))))) hz0.out, hr0.out.ext ((by repeat' (first | (with_reducible exact Ext.refl _) | (with_reducible assumption) | (with_reducible refine Ext.alloc ?_ _) | (with_reducible refine Ext.drew ?_) | (with_reducible refine Ext.drewN ?_ _) | (with_reducible refine Ext.setCell ?_ (by first | exact Nat.le_refl _ | (simp; done) | (simp; omega) | omega) _) | (with_reducible refine Ext.trans ?_ (by assumption)))))⟩
                  case measure => simp [intOf]; omega
              · go_wp2_with fail
                go_region_held3 (fun w' => w'.cell? ⟨wr.heap.size, 0, none⟩ = some (.iface ty2 x2) ∧ w'.cell? ⟨wr.heap.size, 1, none⟩ = some (.int .i64 e)) (first | go_keep | exact ⟨s0, s1⟩)
                  (first | (go_at_call 64; with_reducible refine (HC _).mono ?_; rintro e' w2 ⟨rfl, hx⟩; have s0 := hx.cell (p := ⟨wr.heap.size, 0, none⟩) (v := (.iface ty2 x2)) (by simp [go_sem]); have s1 := hx.cell (p := ⟨wr.heap.size, 1, none⟩) (v := .int .i64 e) (by simp [go_sem])) | fail)
                all_goals
                  go_wp2_with fail
                  go_roundw
                  case rel => exact ⟨j + 1, by omega, by go_num, ((by repeat' (first | (with_reducible exact Ext.refl _) | (with_reducible assumption) | (with_reducible refine Ext.alloc ?_ _) | (with_reducible refine Ext.drew ?_) | (with_reducible refine Ext.drewN ?_ _) | (with_reducible refine Ext.setCell ?_ (by first | exact Nat.le_refl _ | (simp; done) | (simp; omega) | omega) _) | (with_reducible refine Ext.trans ?_ (by assumption))))), Ext.obj ((by repeat' (first | (with_reducible exact Ext.refl _) | (with_reducible assumption) | (with_reducible refine Ext.alloc ?_ _) | (with_reducible refine Ext.drew ?_) | (with_reducible refine Ext.drewN ?_ _) | (with_reducible refine Ext.setCell ?_ (by first | exact Nat.le_refl _ | (simp; done) | (simp; omega) | omega) _) | (with_reducible refine Ext.trans ?_ (by assumption))))) hz0.out, hr0.out.ext ((by repeat' (first | (with_reducible exact Ext.refl _) | (with_reducible assumption) | (with_reducible refine Ext.alloc ?_ _) | (with_reducible refine Ext.drew ?_) | (with_reducible refine Ext.drewN ?_ _) | (with_reducible refine Ext.setCell ?_ (by first | exact Nat.le_refl _ | (simp; done) | (simp; omega) | omega) _) | (with_reducible refine Ext.trans ?_ (by assumption)))))⟩
                  case measure => simp [intOf]; omega
            · obtain rfl : j = 13 := by omega
              have hzc := obj_cells hz
              (go_wp2_with fail; (with_reducible refine (HW _).mono ?_); rintro e w' ⟨rfl, hy⟩)
              go_wp2_with (go_at_call 65; (with_reducible refine (wakes05_calls _).mono ?_); rintro e w' ⟨rfl, hv⟩)
              go_ret
              exact ⟨rfl, (by repeat' (first | (with_reducible exact Ext.refl _) | (with_reducible assumption) | (with_reducible refine Ext.alloc ?_ _) | (with_reducible refine Ext.drew ?_) | (with_reducible refine Ext.drewN ?_ _) | (with_reducible refine Ext.setCell ?_ (by first | exact Nat.le_refl _ | (simp; done) | (simp; omega) | omega) _) | (with_reducible refine Ext.trans ?_ (by assumption))))⟩


end Go.Proofs.Ytgjjngkmbplijaa
