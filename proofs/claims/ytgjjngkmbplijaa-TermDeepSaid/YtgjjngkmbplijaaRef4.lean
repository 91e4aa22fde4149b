/- The document's trees in memory: may they be (ref04.Check). -/
import Derived.Test.YtgjjngkmbplijaaRef3
namespace Go.Proofs.Ytgjjngkmbplijaa
open Go.RowKit
set_option linter.unusedSimpArgs false
set_option linter.unusedVariables false

theorem Tr.check_no {t : Tr} {num : Bool} (h : t.form num = false) : t.check num = 2 := by unfold Tr.check; rw [h]; rfl
theorem Tr.check_lim {t : Tr} {num : Bool} (h : t.form num = true) (h2 : 60 < t.nodes ∨ 12 < t.depth) : t.check num = 5 := by unfold Tr.check; rw [if_pos h, if_pos h2]
theorem Tr.check_tw {t : Tr} {num : Bool} (h : t.form num = true) (h2 : t.nodes ≤ 60) (h3 : t.depth ≤ 12) (h4 : twice t.labels = true) : t.check num = 4 := by unfold Tr.check; rw [if_pos h, if_neg (by omega), if_pos h4]
theorem Tr.check_ok {t : Tr} {num : Bool} (h : t.form num = true) (h2 : t.nodes ≤ 60) (h3 : t.depth ≤ 12) (h4 : twice t.labels = false) : t.check num = 0 := by unfold Tr.check; rw [if_pos h, if_neg (by omega), if_neg (by rw [h4]; decide)]
theorem text_two (x s : ByteArray) : x = s ∨ ((x.toList == s.toList) = false ∧ (s == x) = false) := by
  by_cases h : x = s
  · exact .inl h
  · exact .inr ⟨by rw [bytes_beq]; exact beq_eq_false_iff_ne.2 h, beq_eq_false_iff_ne.2 (fun e => h e.symm)⟩
theorem any_at {l : List ByteArray} {p : ByteArray → Bool} {i k : Nat} {x : ByteArray} (hk : k < i) (h : l[k]? = some x) (hp : p x = true) : (l.take i).any p = true := by
  rw [List.any_eq_true]
  exact ⟨x, List.mem_of_getElem? (i := k) (by rw [List.getElem?_take, if_pos hk]; exact h), hp⟩

set_option maxRecDepth 100000 in
set_option maxHeartbeats 3200000 in
theorem rcheck_calls (h : HT) (q : Nat → Prop) (w : World) (num : Bool) (hin : h.In q w) (hsh : h.tr.short) (hn : h.tr.nodes ≤ 2 ^ 40) (hl : h.tr.labels.length ≤ 2 ^ 33) : Calls Try.prog 58 #[h.val, .bool num] w fun e w' => e = .returned (.int .i64 (h.tr.check num)) ∧ Ext w w' := by
  have H1 := fun W (hW : Ext w W) => rform_calls _ h q W num (Nat.lt_succ_self _) (hin.ext hW) hsh
  have H2 := fun W (hW : Ext w W) => rsize_calls _ h q W (Nat.lt_succ_self _) (hin.ext hW) hn
  have H3 := fun W (hW : Ext w W) => rlabels_calls _ h q W (Nat.lt_succ_self _) (hin.ext hW) hl
  have hdn := h.tr.depth_le
  have C1 := Lib.hid (fun (e : h.tr.form num = false) => Tr.check_no e)
  have C2 := Lib.hid (fun (e : h.tr.form num = true) h2 => Tr.check_lim (num := num) e h2)
  have C3 := Lib.hid (fun (e : h.tr.form num = true) h2 h3 h4 => Tr.check_tw (num := num) e h2 h3 h4)
  have C4 := Lib.hid (fun (e : h.tr.form num = true) h2 h3 h4 => Tr.check_ok (num := num) e h2 h3 h4)
  clear hin hsh
  unfold HT.val at *
  generalize h.kd = kd at *
  generalize h.s = ss at *
  generalize h.n = hnn at *
  generalize h.a = ha at *
  generalize h.c = hc at *
  generalize h.k = K at *
  generalize h.tr.check num = R at *
  generalize h.tr.nodes = nn at *
  generalize h.tr.depth = dd at *
  generalize h.tr.labels = L at *
  generalize h.tr.form num = fm at *
  have boxed : ∀ w5 : World, Ext (w.alloc (.cells #[.int .i64 kd, .string ss, .int .i64 hnn, .slice ha K.length hc] 76)) w5 → w5.cell? ⟨w.heap.size, 0, none⟩ = some (.int .i64 kd) ∧ w5.cell? ⟨w.heap.size, 1, none⟩ = some (.string ss) ∧ w5.cell? ⟨w.heap.size, 2, none⟩ = some (.int .i64 hnn) ∧ w5.cell? ⟨w.heap.size, 3, none⟩ = some (.slice ha K.length hc) := fun w5 hx =>
    ⟨hx.cell (by rw [World.cell?_alloc_new]; rfl), hx.cell (by rw [World.cell?_alloc_new]; rfl), hx.cell (by rw [World.cell?_alloc_new]; rfl), hx.cell (by rw [World.cell?_alloc_new]; rfl)⟩
  have boxed := Lib.hid boxed
  cases fm with
  | false =>
    have hR := Lib.hid (C1.out rfl)
    clear C1 C2 C3 C4 H2 H3
    go_enter Try.func58, Try.ntmps58
    (go_wp2_with fail; (with_reducible refine (H1 _ ((by repeat' (first | (with_reducible exact Ext.refl _) | (with_reducible assumption) | (with_reducible refine Ext.alloc ?_ _) | (with_reducible refine Ext.drew ?_) | (with_reducible refine Ext.drewN ?_ _) | (with_reducible refine Ext.setCell ?_ (by first | exact Nat.le_refl _ | (simp; done) | (simp; omega) | omega) _) | (with_reducible refine Ext.trans ?_ (by assumption)))))).mono ?_); rintro e w' ⟨rfl, hx⟩)
    go_wp2
    go_ret
    exact ⟨by rw [hR.out]; rfl, (by repeat' (first | (with_reducible exact Ext.refl _) | (with_reducible assumption) | (with_reducible refine Ext.alloc ?_ _) | (with_reducible refine Ext.drew ?_) | (with_reducible refine Ext.drewN ?_ _) | (with_reducible refine Ext.setCell ?_ (by first | exact Nat.le_refl _ | (simp; done) | (simp; omega) | omega) _) | (with_reducible refine Ext.trans ?_ (by assumption))))⟩
  | true =>
    go_enter Try.func58, Try.ntmps58
    (go_wp2_with fail; (with_reducible refine (H1 _ ((by repeat' (first | (with_reducible exact Ext.refl _) | (with_reducible assumption) | (with_reducible refine Ext.alloc ?_ _) | (with_reducible refine Ext.drew ?_) | (with_reducible refine Ext.drewN ?_ _) | (with_reducible refine Ext.setCell ?_ (by first | exact Nat.le_refl _ | (simp; done) | (simp; omega) | omega) _) | (with_reducible refine Ext.trans ?_ (by assumption)))))).mono ?_); rintro e w' ⟨rfl, hx⟩)
    obtain ⟨c0, c1, c2, c3⟩ := boxed.out _ hx
    (go_wp2_with fail; (with_reducible refine (H2 _ ((by repeat' (first | (with_reducible exact Ext.refl _) | (with_reducible assumption) | (with_reducible refine Ext.alloc ?_ _) | (with_reducible refine Ext.drew ?_) | (with_reducible refine Ext.drewN ?_ _) | (with_reducible refine Ext.setCell ?_ (by first | exact Nat.le_refl _ | (simp; done) | (simp; omega) | omega) _) | (with_reducible refine Ext.trans ?_ (by assumption)))))).mono ?_); rintro e w2 ⟨rfl, hx2⟩)
    have hxx := hx.trans hx2
    clear hx hx2 c0 c1 c2 c3 H1 H2
    by_cases h60 : nn ≤ 60
    case neg =>
      have hR := Lib.hid (C2.out trivial (.inl (by omega)))
      have h60' : (60 : Int) < (nn : Int) := by omega
      clear C1 C2 C3 C4 H3
      go_wp2
      go_ret
      exact ⟨by rw [hR.out]; rfl, (by repeat' (first | (with_reducible exact Ext.refl _) | (with_reducible assumption) | (with_reducible refine Ext.alloc ?_ _) | (with_reducible refine Ext.drew ?_) | (with_reducible refine Ext.drewN ?_ _) | (with_reducible refine Ext.setCell ?_ (by first | exact Nat.le_refl _ | (simp; done) | (simp; omega) | omega) _) | (with_reducible refine Ext.trans ?_ (by assumption))))⟩
    by_cases h12 : dd ≤ 12
    case neg =>
      have hR := Lib.hid (C2.out trivial (.inr (by omega)))
      have h60' : (nn : Int) ≤ 60 := by omega
      have h12' : (12 : Int) < (dd : Int) := by omega
      clear C1 C2 C3 C4 H3
      go_wp2
      go_ret
      exact ⟨by rw [hR.out]; rfl, (by repeat' (first | (with_reducible exact Ext.refl _) | (with_reducible assumption) | (with_reducible refine Ext.alloc ?_ _) | (with_reducible refine Ext.drew ?_) | (with_reducible refine Ext.drewN ?_ _) | (with_reducible refine Ext.setCell ?_ (by first | exact Nat.le_refl _ | (simp; done) | (simp; omega) | omega) _) | (with_reducible refine Ext.trans ?_ (by assumption))))⟩
    have h60' : (nn : Int) ≤ 60 := by omega
    have h12' : (dd : Int) ≤ 12 := by omega
    have C3 := Lib.hid (C3.out trivial h60 h12)
    have C4 := Lib.hid (C4.out trivial h60 h12)
    obtain ⟨c0, c1, c2, c3⟩ := boxed.out _ hxx
    (go_wp2_with fail; (with_reducible refine (H3 _ ((by repeat' (first | (with_reducible exact Ext.refl _) | (with_reducible assumption) | (with_reducible refine Ext.alloc ?_ _) | (with_reducible refine Ext.drew ?_) | (with_reducible refine Ext.drewN ?_ _) | (with_reducible refine Ext.setCell ?_ (by first | exact Nat.le_refl _ | (simp; done) | (simp; omega) | omega) _) | (with_reducible refine Ext.trans ?_ (by assumption)))))).mono ?_); rintro e w3 ⟨nv, rfl, hno, hx3⟩)
    obtain ⟨A, C, rfl, hn1, hn2⟩ := own_form hno
    unfold maxLen at hn2
    have hE := Lib.hid (show Ext w w3 from ((by repeat' (first | (with_reducible exact Ext.refl _) | (with_reducible assumption) | (with_reducible refine Ext.alloc ?_ _) | (with_reducible refine Ext.drew ?_) | (with_reducible refine Ext.drewN ?_ _) | (with_reducible refine Ext.setCell ?_ (by first | exact Nat.le_refl _ | (simp; done) | (simp; omega) | omega) _) | (with_reducible refine Ext.trans ?_ (by assumption))))))
    have hrd := Lib.hid (Rd.of_own hno)
    clear hno hxx hx3 c0 c1 c2 c3 H3 C1 C2 boxed
    go_wp2_with fail
    go_loopw [29] (fun i wr => ∃ j : Nat, j ≤ L.length ∧ i = .int .i64 j ∧ (∀ a s, a < j → L[a]? = some s → ((L.take a).any fun x => s == x) = false) ∧ Ext w wr ∧ Rd wr 1 A L.length (strVals L)) (fun i _ => L.length - (intOf i).toNat)
    case atStart => exact ⟨0, by omega, rfl, fun a s h => by omega, hE.out, hrd.out⟩
    case round =>
      obtain ⟨j, hj, rfl, hno, hx, hr⟩ := hrel
      by_cases hlt : j < L.length
      · obtain ⟨y, e2, hv2⟩ := strVals_at hlt
        have hj0 := Lib.hid (show j + 1 ≤ L.length from hlt)
        have hxr := Lib.hid (And.intro hx hr)
        have hno0 := Lib.hid hno
        clear hx hr hno
        go_wp2_with fail
        go_loopw [9] (fun i wr => ∃ q : Nat, q ≤ j ∧ i = .int .i64 q ∧ ((L.take q).any fun x => y == x) = false ∧ Ext w wr ∧ Rd wr 1 A L.length (strVals L)) (fun i _ => j - (intOf i).toNat)
        case atStart => exact ⟨0, by omega, rfl, rfl, hxr.out⟩
        case round =>
          obtain ⟨q, hq, rfl, hnq, hx, hr⟩ := hrel
          by_cases hlt2 : q < j
          · have hqn : q < L.length := by omega
            obtain ⟨x, e1, hv1⟩ := strVals_at hqn
            obtain ⟨ad1, u1, ea, hu1, hc1⟩ := hr.at1 hqn
            subst ea
            obtain ⟨ad2, u2, ea2, hu2, hc2⟩ := hr.at1 hlt
            injection ea2 with ea2
            subst ea2
            obtain rfl : Value.string x = u1 := by rw [hv1] at hu1; injection hu1
            obtain rfl : Value.string y = u2 := by rw [hv2] at hu2; injection hu2
            have hrx := Lib.hid (And.intro hx hr)
            have hq0 := Lib.hid (show q + 1 ≤ j from hlt2)
            have hi1 : (q : Int) < (L.length : Int) := by omega
            have hi2 : (j : Int) < (L.length : Int) := by omega
            have hi3 : (0 : Int) ≤ (q : Int) := by omega
            have hi4 : (0 : Int) ≤ (j : Int) := by omega
            have hs := any_take_succ (p := fun x => y == x) e1
            rw [hnq] at hs
            rcases text_two y x with rfl | ⟨t1, t2⟩
            · have hR := Lib.hid (C3.out (twice_hit e2 (any_at hlt2 e1 (by simp))))
              clear hx hr hv1 hu1 hv2 hu2 e1 hs hnq
              go_wp2_with fail
              go_quiet (fail)
              go_wp2
              go_ret
              exact ⟨by rw [hR.out]; rfl, hrx.out.1.drewN _⟩
            · have hs := Lib.hid (show ((L.take (q + 1)).any fun x => y == x) = false by rw [hs]; simp; intro e; subst e; simp at t2)
              clear hx hr hv1 hu1 hv2 hu2 e1 hnq t2
              go_wp2_with fail
              go_quiet (fail)
              go_wp2_with fail
              go_roundw
              case rel => exact ⟨q + 1, hq0.out, by go_num, hs.out, hrx.out.1.drewN _, hrx.out.2.ext ((Ext.refl _).drewN _)⟩
              case measure => simp [intOf]; omega
          · obtain rfl : q = j := by omega
            have hrx := Lib.hid (And.intro hx hr)
            have hnn := Lib.hid (show ∀ a s, a < q + 1 → L[a]? = some s → ((L.take a).any fun x => s == x) = false from fun a s ha hs => by
              by_cases haq : a < q
              · exact hno0.out a s haq hs
              · obtain rfl : a = q := by omega
                rw [e2] at hs
                injection hs with hs
                subst hs
                exact hnq)
            clear hx hr e2 hv2 hnq
            go_wp2_with fail
            go_roundw
            case rel => exact ⟨q + 1, hj0.out, by go_num, hnn.out, hrx.out⟩
            case measure => simp [intOf]; omega
      · obtain rfl : j = L.length := by omega
        have hR := Lib.hid (C4.out (twice_no (fun i s h => hno i s (List.getElem?_eq_some_iff.1 h).1 h)))
        have hx0 := Lib.hid hx
        clear hr hno hx
        go_wp2
        go_ret
        exact ⟨by rw [hR.out]; rfl, hx0.out⟩

end Go.Proofs.Ytgjjngkmbplijaa
