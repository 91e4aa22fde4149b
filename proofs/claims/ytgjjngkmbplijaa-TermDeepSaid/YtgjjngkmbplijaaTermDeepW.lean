/- The walk of the law TermDeep. -/
import Derived.Test.YtgjjngkmbplijaaRight
import Derived.Test.YtgjjngkmbplijaaPlayTermD
import Derived.Deep.CutRange
import Derived.Deep.RegionHeld3
import Derived.Test.YtgjjngkmbplijaaRegInv
namespace Go.Proofs.Ytgjjngkmbplijaa
open Go.RowKit
set_option linter.unusedSimpArgs false
set_option linter.unusedVariables false

theorem Te.checked_60 {t : Te} (h : t.checked = 0) : t.nodes ≤ 60 := by
  unfold Te.checked at h
  split at h
  · split at h
    · cases h
    · omega
  · cases h
def badT : Nat → Te
  | 0 => .odd .nilIface
  | 1 => .one ⟨#[85]⟩
  | 2 => .whn (-1) .zero
  | 3 => .scale (.odd .nilIface) .zero
  | 4 => .cond (.fix ⟨#[]⟩) .zero .zero
  | 5 => .or ⟨#[49]⟩ .zero .zero
  | _ => .give (.odd .nilIface)
/-- Of no form, not too great. -/
structure BadT (t : Te) (j : Nat) : Prop where
  wf : t.wf
  form : t.formed = false
  nodes : t.nodes ≤ 4 + 70 * j
theorem badT_ok (k : Nat) : BadT (badT k) 0 := by
  have s1 : (⟨#[85]⟩ : ByteArray).size ≤ 1000 := by decide
  have s2 : (⟨#[]⟩ : ByteArray).size ≤ 1000 := by decide
  have s3 : (⟨#[49]⟩ : ByteArray).size ≤ 1000 := by decide
  rcases k with _ | _ | _ | _ | _ | _ | k
  · exact ⟨.inl rfl, rfl, by decide⟩
  · exact ⟨s1, by decide +kernel, by decide⟩
  · exact ⟨⟨⟨by omega, by omega⟩, trivial⟩, by decide +kernel, by decide⟩
  · exact ⟨⟨.inl rfl, trivial⟩, by decide +kernel, by decide⟩
  · exact ⟨⟨s2, trivial, trivial⟩, by decide +kernel, by decide⟩
  · exact ⟨⟨s3, trivial, trivial⟩, by decide +kernel, by decide⟩
  · exact ⟨.inl rfl, rfl, by simp [badT, Te.nodes]⟩
def qOr : Te := .or ⟨#[113]⟩ .zero .zero
def qTwo : Te := .and qOr qOr
/-- Of its form, with a label that is there twice. -/
structure TwoT (t : Te) (j : Nat) : Prop where
  wf : t.wf
  form : t.formed = true
  nodes : t.nodes ≤ 7 + 2 * j
  depth : t.depth ≤ 3 + j
  lab : t.labels = [⟨#[113]⟩, ⟨#[113]⟩]
  cl : t.clean
theorem qTwo_ok : TwoT qTwo 0 := by
  have s3 : (⟨#[113]⟩ : ByteArray).size ≤ 1000 := by decide
  exact ⟨⟨⟨s3, trivial, trivial⟩, s3, trivial, trivial⟩, by decide +kernel, by decide, by decide, rfl, ⟨⟨trivial, trivial⟩, trivial, trivial⟩⟩
section
variable {t x : Te} {j : Nat}
theorem BadT.give (h : BadT t j) : BadT (.give t) (j + 1) := ⟨h.wf, h.form, by have := h.nodes; simp only [Te.nodes]; omega⟩
theorem BadT.and (h : BadT t j) (hx : x.wf) (hn : x.nodes ≤ 60) : BadT (.and x t) (j + 1) := ⟨⟨hx, h.wf⟩, by simp [Te.formed, h.form], by have := h.nodes; simp only [Te.nodes]; omega⟩
theorem BadT.whn (h : BadT t j) (d : Int) (hd : 0 ≤ d ∧ d ≤ 100) : BadT (.whn d t) (j + 1) := ⟨⟨⟨by omega, by omega⟩, h.wf⟩, by simp [Te.formed, h.form], by have := h.nodes; simp only [Te.nodes]; omega⟩
theorem BadT.checked (h : BadT t j) : t.checked = 2 := Te.checked_no h.form
theorem TwoT.give (h : TwoT t j) : TwoT (.give t) (j + 1) := ⟨h.wf, h.form, by have := h.nodes; simp only [Te.nodes]; omega, by have := h.depth; simp only [Te.depth]; omega, h.lab, h.cl⟩
theorem TwoT.and (h : TwoT t j) : TwoT (.and .zero t) (j + 1) := ⟨⟨trivial, h.wf⟩, by simp [Te.formed, h.form], by have := h.nodes; simp only [Te.nodes]; omega, by have := h.depth; simp only [Te.depth]; omega, by simp [Te.labels, h.lab], ⟨trivial, h.cl⟩⟩
theorem TwoT.whn (h : TwoT t j) (d : Int) (hd : 0 ≤ d ∧ d ≤ 100) : TwoT (.whn d t) (j + 1) := ⟨⟨⟨by omega, by omega⟩, h.wf⟩, by simp [Te.formed, h.form, (dayB_iff d).2 (show 0 ≤ d ∧ d ≤ 10000 by omega)], by have := h.nodes; simp only [Te.nodes]; omega, by have := h.depth; simp only [Te.depth]; omega, h.lab, h.cl⟩
theorem TwoT.checked (h : TwoT t j) (hj : j ≤ 4) : t.checked = 4 := Te.checked_tw h.form (by have := h.nodes; omega) (by have := h.depth; omega) (by rw [h.lab]; decide)
end
def longT : Nat → Te
  | 0 => qOr
  | k + 1 => .give (longT k)
theorem longT_ok (k : Nat) : (longT k).wf ∧ (longT k).formed = true ∧ (longT k).nodes = 3 + k ∧ (longT k).depth = 2 + k ∧ ∃ t x, (longT k).val = .iface t x := by
  induction k with
  | zero =>
    have s3 : (⟨#[113]⟩ : ByteArray).size ≤ 1000 := by decide
    exact ⟨⟨s3, trivial, trivial⟩, by decide +kernel, rfl, rfl, _, _, rfl⟩
  | succ k ih =>
    obtain ⟨h1, h2, h3, h4, _⟩ := ih
    exact ⟨h1, h2, by simp only [longT, Te.nodes, h3]; omega, by simp only [longT, Te.depth, h4]; omega, _, _, rfl⟩
theorem long_lim : (Te.and qTwo (longT 12)).checked = 5 := by
  obtain ⟨h1, h2, h3, h4, _⟩ := longT_ok 12
  refine Te.checked_lim ?_ (.inr ?_)
  · simp only [Te.formed, h2, qTwo_ok.form]; rfl
  · simp only [Te.depth, h4]; omega
theorem long_bad {t : Te} {j : Nat} (h : BadT t j) : (Te.and (longT 12) t).checked = 2 := Te.checked_no (by simp [Te.formed, h.form])
/-- What the slots of the literal hold once they are written. -/
def deepF (which : Int) (kk : Nat) (i : Nat) (W : World) (v : Value) : Prop :=
  if i = 26 then ∃ g, v = .slice (some ⟨g, 0, none⟩) 7 7 ∧ ∀ k, k < 7 → W.cell? ⟨g, k, none⟩ = some (badT k).val
  else if i = 29 then ∃ g, v = .pointer (some ⟨g, kk, none⟩) ∧ W.cell? ⟨g, kk, none⟩ = some (badT kk).val
  else v = ([.agg #[.string ⟨#[85]⟩], .iface 96 (.agg #[.string ⟨#[85]⟩]), .agg #[], .iface 101 (.agg #[]), .agg #[.int .i64 (-1), .iface 101 (.agg #[])], .iface 106 (.agg #[.int .i64 (-1), .iface 101 (.agg #[])]), .agg #[], .iface 101 (.agg #[]), .agg #[.nilIface, .iface 101 (.agg #[])], .iface 108 (.agg #[.nilIface, .iface 101 (.agg #[])]), .agg #[.string ⟨#[]⟩], .iface 60 (.agg #[.string ⟨#[]⟩]), .agg #[], .iface 101 (.agg #[]), .agg #[], .iface 101 (.agg #[]), .agg #[.iface 60 (.agg #[.string ⟨#[]⟩]), .iface 101 (.agg #[]), .iface 101 (.agg #[])], .iface 110 (.agg #[.iface 60 (.agg #[.string ⟨#[]⟩]), .iface 101 (.agg #[]), .iface 101 (.agg #[])]), .agg #[], .iface 101 (.agg #[]), .agg #[], .iface 101 (.agg #[]), .agg #[.string ⟨#[49]⟩, .iface 101 (.agg #[]), .iface 101 (.agg #[])], .iface 104 (.agg #[.string ⟨#[49]⟩, .iface 101 (.agg #[]), .iface 101 (.agg #[])]), .agg #[.nilIface], .iface 99 (.agg #[.nilIface]), undef, .int .i64 which, .int .i64 (kk : Int), undef, (badT kk).val] : List Value).getD i undef
theorem deepF_ext {which : Int} {kk j : Nat} {W W' : World} {v : Value} (hx : Ext W W') (h : deepF which kk j W v) : deepF which kk j W' v := by
  unfold deepF at *
  split
  · rename_i e
    rw [if_pos e] at h
    obtain ⟨g, e1, h1⟩ := h
    exact ⟨g, e1, fun k hk => hx.cell (h1 k hk)⟩
  · rename_i e
    rw [if_neg e] at h
    split
    · rename_i e2
      rw [if_pos e2] at h
      obtain ⟨g, e1, h1⟩ := h
      exact ⟨g, e1, hx.cell h1⟩
    · rename_i e2
      rw [if_neg e2] at h
      exact h
theorem mod3d (j : Nat) : (j % 3 = 0 ∧ (j : Int).tmod 3 = 0) ∨ (j % 3 = 1 ∧ (j : Int).tmod 3 = 1) ∨ (j % 3 = 2 ∧ (j : Int).tmod 3 = 2) := by
  have e : (j : Int).tmod 3 = ((j % 3 : Nat) : Int) := by rw [Int.tmod_eq_emod_of_nonneg (by omega)]; omega
  omega
theorem mod7 (n : Int) : ∃ k : Nat, n % 7 = k ∧ k < 7 := ⟨(n % 7).toNat, by omega, by omega⟩

set_option maxRecDepth 100000 in
set_option maxHeartbeats 12800000 in
theorem termDeep_walk (p : Pl) (n which : Int) (w : World) (hp : p.In (· < w.heap.size) w) (hn : (Lit.int .i64 n).wf = true) (hwh : (Lit.int .i64 which).wf = true) : Calls Try.prog 15 #[p.val, .int .i64 n, .int .i64 which] w fun e w' => e = .returned (.bool true) ∧ Ext w w' := by
  have hb1 := i64_of hn
  have hb2 := i64_of hwh
  obtain ⟨x, hx0, hxc⟩ := rightT_ok p
  have hxn := Te.checked_60 hxc
  have hxw := hx0.wf
  have P1 := fun W (hW : Ext w W) => right_tree p W ((hp.ext hW).weak (fun y hy => Nat.lt_of_lt_of_le hy hW.le))
  have P2 := fun (h : HT) (r : Nat → Prop) (W : World) (e : h.tr = rightT p) (hin : h.In r W) => pterm_at hx0.is hxw h r W e hin
  have HW5 := fun W => within_calls n 5 W (by omega) (by omega) hb1.1 hb1.2
  have HW7 := fun W => within_calls which 7 W (by omega) (by omega) hb2.1 hb2.2
  obtain ⟨nn, hnn, hn5⟩ : ∃ k : Nat, n % 5 = k ∧ k < 5 := ⟨(n % 5).toNat, by omega, by omega⟩
  obtain ⟨kk, hkk, hk7⟩ := mod7 which
  rw [hnn] at HW5
  rw [hkk] at HW7
  obtain ⟨kx, vx, ex⟩ := Te.form_cl hx0.clean
  simp only [ex] at P2
  have hXv := Lib.hid (And.intro ex (And.intro hxw hxn))
  clear hnn hkk hb1 hb2 hn hwh hp hx0 hxc ex hxw hxn
  generalize rightT p = T at *
  unfold Pl.val at *
  go_enter Try.func15, Try.ntmps15
  (go_wp2_with fail; (with_reducible refine (HW5 _).mono ?_); rintro e w' ⟨rfl, rfl⟩)
  go_upto_region 3 with fail
  have hX : Ext w ((w.alloc (.cells #[.slice p.a p.n p.c, .slice p.a2 p.n2 p.c2] 72)).alloc (.cells #[] 101)) := ((Ext.refl w).alloc _).alloc _
  have hz : ((w.alloc (.cells #[.slice p.a p.n p.c, .slice p.a2 p.n2 p.c2] 72)).alloc (.cells #[] 101)).heap[w.heap.size + 1]? = some (.cells #[] 101 (0, 0)) := by
    have := heap_new (w.alloc (.cells #[.slice p.a p.n p.c, .slice p.a2 p.n2 p.c2] 72)) (.cells #[] 101 (0, 0))
    simpa using this
  have b0 : ((w.alloc (.cells #[.slice p.a p.n p.c, .slice p.a2 p.n2 p.c2] 72)).alloc (.cells #[] 101)).cell? ⟨w.heap.size, 0, none⟩ = some (.slice p.a p.n p.c) := ((Ext.refl _).alloc _).cell (by rw [World.cell?_alloc_new]; rfl)
  have b1 : ((w.alloc (.cells #[.slice p.a p.n p.c, .slice p.a2 p.n2 p.c2] 72)).alloc (.cells #[] 101)).cell? ⟨w.heap.size, 1, none⟩ = some (.slice p.a2 p.n2 p.c2) := ((Ext.refl _).alloc _).cell (by rw [World.cell?_alloc_new]; rfl)
  have HX := Lib.hid (And.intro hX (And.intro hz (And.intro b0 b1)))
  clear hX hz b0 b1
  generalize ((w.alloc (.cells #[.slice p.a p.n p.c, .slice p.a2 p.n2 p.c2] 72)).alloc (.cells #[] 101)) = X at *
  go_cut [8] from 16 to 49 (fun v wx => v = (badT kk).val ∧ Ext X wx)
  case first =>
    clear P1 P2 HW5
    refine wp_region_slots 31 [0, 1, 2, 3, 4, 5, 6, 7, 8, 9, 10, 11, 12, 13, 14, 15, 16, 17, 18, 19, 20, 21, 22, 23, 24, 25, 26, 27, 28, 29, 30] _ [19, 20, 21, 22, 23, 24, 25, 26, 27, 28, 29, 30, 31, 32, 33, 34, 35, 36, 37, 38, 39, 40, 41, 42, 43, 44, 45, 46, 47, 48, 49] (deepF which kk) (fun _ W => Ext X W) (by kernel_rfl) rfl (by kernel_rfl) (by kernel_rfl) rfl rfl rfl (by decide) rfl ?_ ?_ ?_
    · exact (Ext.refl _).drew
    · refine slots_cons rfl ?_ (slots_cons rfl ?_ (slots_cons rfl ?_ (slots_cons rfl ?_ (slots_cons rfl ?_ (slots_cons rfl ?_ (slots_cons rfl ?_ (slots_cons rfl ?_ (slots_cons rfl ?_ (slots_cons rfl ?_ (slots_cons rfl ?_ (slots_cons rfl ?_ (slots_cons rfl ?_ (slots_cons rfl ?_ (slots_cons rfl ?_ (slots_cons rfl ?_ (slots_cons rfl ?_ (slots_cons rfl ?_ (slots_cons rfl ?_ (slots_cons rfl ?_ (slots_cons rfl ?_ (slots_cons rfl ?_ (slots_cons rfl ?_ (slots_cons rfl ?_ (slots_cons rfl ?_ (slots_cons rfl ?_ (slots_cons rfl ?_ (slots_cons rfl ?_ (slots_cons rfl ?_ (slots_cons rfl ?_ (slots_cons rfl ?_ slots_nil))))))))))))))))))))))))))))))
      · intro l a W hs ho hG hd hne K' hK
        clear hd ho hne
        go_simp
        exact hK _ _ rfl hG (fun j' v' _ hf => hf)
      · intro l a W hs ho hG hd hne K' hK
        have e0 : a.tmps[19]?.getD undef = .agg #[.string ⟨#[85]⟩] := hd ⟨0, .data⟩ (by simp) rfl
        clear hd ho hne
        go_simp
        exact hK _ _ rfl hG (fun j' v' _ hf => hf)
      · intro l a W hs ho hG hd hne K' hK
        have b7 : a.tmps[7]?.getD undef = .pointer (some ⟨w.heap.size + 1, 0, none⟩) := ho.ev 7 rfl
        clear hd ho hne
        go_simp
        exact hK _ _ rfl hG (fun j' v' _ hf => hf)
      · intro l a W hs ho hG hd hne K' hK
        have e2 : a.tmps[21]?.getD undef = .agg #[] := hd ⟨2, .data⟩ (by simp) rfl
        clear hd ho hne
        go_simp
        exact hK _ _ rfl hG (fun j' v' _ hf => hf)
      · intro l a W hs ho hG hd hne K' hK
        have e3 : a.tmps[22]?.getD undef = .iface 101 (.agg #[]) := hd ⟨3, .data⟩ (by simp) rfl
        clear hd ho hne
        go_simp
        exact hK _ _ rfl hG (fun j' v' _ hf => hf)
      · intro l a W hs ho hG hd hne K' hK
        have e4 : a.tmps[23]?.getD undef = .agg #[.int .i64 (-1), .iface 101 (.agg #[])] := hd ⟨4, .data⟩ (by simp) rfl
        clear hd ho hne
        go_simp
        exact hK _ _ rfl hG (fun j' v' _ hf => hf)
      · intro l a W hs ho hG hd hne K' hK
        have b7 : a.tmps[7]?.getD undef = .pointer (some ⟨w.heap.size + 1, 0, none⟩) := ho.ev 7 rfl
        clear hd ho hne
        go_simp
        exact hK _ _ rfl hG (fun j' v' _ hf => hf)
      · intro l a W hs ho hG hd hne K' hK
        have e6 : a.tmps[25]?.getD undef = .agg #[] := hd ⟨6, .data⟩ (by simp) rfl
        clear hd ho hne
        go_simp
        exact hK _ _ rfl hG (fun j' v' _ hf => hf)
      · intro l a W hs ho hG hd hne K' hK
        have e7 : a.tmps[26]?.getD undef = .iface 101 (.agg #[]) := hd ⟨7, .data⟩ (by simp) rfl
        clear hd ho hne
        go_simp
        exact hK _ _ rfl hG (fun j' v' _ hf => hf)
      · intro l a W hs ho hG hd hne K' hK
        have e8 : a.tmps[27]?.getD undef = .agg #[.nilIface, .iface 101 (.agg #[])] := hd ⟨8, .data⟩ (by simp) rfl
        clear hd ho hne
        go_simp
        exact hK _ _ rfl hG (fun j' v' _ hf => hf)
      · intro l a W hs ho hG hd hne K' hK
        clear hd ho hne
        go_simp
        exact hK _ _ rfl hG (fun j' v' _ hf => hf)
      · intro l a W hs ho hG hd hne K' hK
        have e10 : a.tmps[29]?.getD undef = .agg #[.string ⟨#[]⟩] := hd ⟨10, .data⟩ (by simp) rfl
        clear hd ho hne
        go_simp
        exact hK _ _ rfl hG (fun j' v' _ hf => hf)
      · intro l a W hs ho hG hd hne K' hK
        have b7 : a.tmps[7]?.getD undef = .pointer (some ⟨w.heap.size + 1, 0, none⟩) := ho.ev 7 rfl
        clear hd ho hne
        go_simp
        exact hK _ _ rfl hG (fun j' v' _ hf => hf)
      · intro l a W hs ho hG hd hne K' hK
        have e12 : a.tmps[31]?.getD undef = .agg #[] := hd ⟨12, .data⟩ (by simp) rfl
        clear hd ho hne
        go_simp
        exact hK _ _ rfl hG (fun j' v' _ hf => hf)
      · intro l a W hs ho hG hd hne K' hK
        have b7 : a.tmps[7]?.getD undef = .pointer (some ⟨w.heap.size + 1, 0, none⟩) := ho.ev 7 rfl
        clear hd ho hne
        go_simp
        exact hK _ _ rfl hG (fun j' v' _ hf => hf)
      · intro l a W hs ho hG hd hne K' hK
        have e14 : a.tmps[33]?.getD undef = .agg #[] := hd ⟨14, .data⟩ (by simp) rfl
        clear hd ho hne
        go_simp
        exact hK _ _ rfl hG (fun j' v' _ hf => hf)
      · intro l a W hs ho hG hd hne K' hK
        have e11 : a.tmps[30]?.getD undef = .iface 60 (.agg #[.string ⟨#[]⟩]) := hd ⟨11, .data⟩ (by simp) rfl
        have e13 : a.tmps[32]?.getD undef = .iface 101 (.agg #[]) := hd ⟨13, .data⟩ (by simp) rfl
        have e15 : a.tmps[34]?.getD undef = .iface 101 (.agg #[]) := hd ⟨15, .data⟩ (by simp) rfl
        clear hd ho hne
        go_simp
        exact hK _ _ rfl hG (fun j' v' _ hf => hf)
      · intro l a W hs ho hG hd hne K' hK
        have e16 : a.tmps[35]?.getD undef = .agg #[.iface 60 (.agg #[.string ⟨#[]⟩]), .iface 101 (.agg #[]), .iface 101 (.agg #[])] := hd ⟨16, .data⟩ (by simp) rfl
        clear hd ho hne
        go_simp
        exact hK _ _ rfl hG (fun j' v' _ hf => hf)
      · intro l a W hs ho hG hd hne K' hK
        have b7 : a.tmps[7]?.getD undef = .pointer (some ⟨w.heap.size + 1, 0, none⟩) := ho.ev 7 rfl
        clear hd ho hne
        go_simp
        exact hK _ _ rfl hG (fun j' v' _ hf => hf)
      · intro l a W hs ho hG hd hne K' hK
        have e18 : a.tmps[37]?.getD undef = .agg #[] := hd ⟨18, .data⟩ (by simp) rfl
        clear hd ho hne
        go_simp
        exact hK _ _ rfl hG (fun j' v' _ hf => hf)
      · intro l a W hs ho hG hd hne K' hK
        have b7 : a.tmps[7]?.getD undef = .pointer (some ⟨w.heap.size + 1, 0, none⟩) := ho.ev 7 rfl
        clear hd ho hne
        go_simp
        exact hK _ _ rfl hG (fun j' v' _ hf => hf)
      · intro l a W hs ho hG hd hne K' hK
        have e20 : a.tmps[39]?.getD undef = .agg #[] := hd ⟨20, .data⟩ (by simp) rfl
        clear hd ho hne
        go_simp
        exact hK _ _ rfl hG (fun j' v' _ hf => hf)
      · intro l a W hs ho hG hd hne K' hK
        have e19 : a.tmps[38]?.getD undef = .iface 101 (.agg #[]) := hd ⟨19, .data⟩ (by simp) rfl
        have e21 : a.tmps[40]?.getD undef = .iface 101 (.agg #[]) := hd ⟨21, .data⟩ (by simp) rfl
        clear hd ho hne
        go_simp
        exact hK _ _ rfl hG (fun j' v' _ hf => hf)
      · intro l a W hs ho hG hd hne K' hK
        have e22 : a.tmps[41]?.getD undef = .agg #[.string ⟨#[49]⟩, .iface 101 (.agg #[]), .iface 101 (.agg #[])] := hd ⟨22, .data⟩ (by simp) rfl
        clear hd ho hne
        go_simp
        exact hK _ _ rfl hG (fun j' v' _ hf => hf)
      · intro l a W hs ho hG hd hne K' hK
        clear hd ho hne
        go_simp
        exact hK _ _ rfl hG (fun j' v' _ hf => hf)
      · intro l a W hs ho hG hd hne K' hK
        have e24 : a.tmps[43]?.getD undef = .agg #[.nilIface] := hd ⟨24, .data⟩ (by simp) rfl
        clear hd ho hne
        go_simp
        exact hK _ _ rfl hG (fun j' v' _ hf => hf)
      · intro l a W hs ho hG hd hne K' hK
        have e1 : a.tmps[20]?.getD undef = .iface 96 (.agg #[.string ⟨#[85]⟩]) := hd ⟨1, .data⟩ (by simp) rfl
        have e5 : a.tmps[24]?.getD undef = .iface 106 (.agg #[.int .i64 (-1), .iface 101 (.agg #[])]) := hd ⟨5, .data⟩ (by simp) rfl
        have e9 : a.tmps[28]?.getD undef = .iface 108 (.agg #[.nilIface, .iface 101 (.agg #[])]) := hd ⟨9, .data⟩ (by simp) rfl
        have e17 : a.tmps[36]?.getD undef = .iface 110 (.agg #[.iface 60 (.agg #[.string ⟨#[]⟩]), .iface 101 (.agg #[]), .iface 101 (.agg #[])]) := hd ⟨17, .data⟩ (by simp) rfl
        have e23 : a.tmps[42]?.getD undef = .iface 104 (.agg #[.string ⟨#[49]⟩, .iface 101 (.agg #[]), .iface 101 (.agg #[])]) := hd ⟨23, .data⟩ (by simp) rfl
        have e25 : a.tmps[44]?.getD undef = .iface 99 (.agg #[.nilIface]) := hd ⟨25, .data⟩ (by simp) rfl
        clear hd ho hne
        go_simp
        refine hK _ _ ⟨W.heap.size, rfl, fun k hk => ?_⟩ (hG.alloc _) (fun j' v' _ hf => deepF_ext ((Ext.refl W).alloc _) hf)
        rw [World.cell?_alloc_new]
        rcases (by omega : k = 0 ∨ k = 1 ∨ k = 2 ∨ k = 3 ∨ k = 4 ∨ k = 5 ∨ k = 6) with rfl | rfl | rfl | rfl | rfl | rfl | rfl <;> rfl
      · intro l a W hs ho hG hd hne K' hK
        have b2 : a.tmps[2]?.getD undef = .int .i64 which := ho.ev 2 rfl
        clear hd ho hne
        go_simp
        exact hK _ _ rfl hG (fun j' v' _ hf => hf)
      · intro l a W hs ho hG hd hne K' hK
        have e27 : a.tmps[46]?.getD undef = .int .i64 which := hd ⟨27, .data⟩ (by simp) rfl
        clear hd ho hne
        go_simp
        go_at_call 34
        (with_reducible refine (HW7 W).mono ?_)
        rintro e W2 ⟨rfl, rfl⟩
        go_simp
        exact hK _ _ rfl hG (fun j' v' _ hf => hf)
      · intro l a W hs ho hG hd hne K' hK
        have d26 := hd ⟨26, .data⟩ (by simp) rfl
        obtain ⟨g, e26, hrow⟩ := d26
        replace e26 : a.tmps[45]?.getD undef = .slice (some ⟨g, 0, none⟩) 7 7 := e26
        have e28 : a.tmps[47]?.getD undef = .int .i64 (kk : Int) := hd ⟨28, .data⟩ (by simp) rfl
        have hk1 : (kk : Int) < 7 := by omega
        clear hd ho hne
        go_simp
        exact hK _ _ ⟨g, rfl, hrow kk hk7⟩ hG (fun j' v' _ hf => hf)
      · intro l a W hs ho hG hd hne K' hK
        have d29 := hd ⟨29, .data⟩ (by simp) rfl
        obtain ⟨g, e29, hrow⟩ := d29
        replace e29 : a.tmps[48]?.getD undef = .pointer (some ⟨g, kk, none⟩) := e29
        clear hd ho hne
        go_simp
        exact hK _ _ rfl hG (fun j' v' _ hf => hf)
    · intro l a W ho hG hall hF K' hK
      have e30 : a.tmps[49]?.getD undef = (badT kk).val := hF 30 (by omega)
      obtain ⟨fr, hfr⟩ : ∃ fr : Tmp → Value, a = ([19, 20, 21, 22, 23, 24, 25, 26, 27, 28, 29, 30, 31, 32, 33, 34, 35, 36, 37, 38, 39, 40, 41, 42, 43, 44, 45, 46, 47, 48, 49] : List Tmp).foldl (fun b d => b.put (some d) (fr d)) _ := ⟨_, ho.puts⟩
      have hfr0 := Lib.hid hfr
      clear hfr ho hF hall
      go_simp
      refine hK _ _ ?_
      rw [hfr0.out]
      simp only [List.foldl]
      clear hfr0 hK e30
      go_wp2_with fail
      go_simp
      go_meet
      exact ⟨rfl, hG⟩

  case rest =>
    obtain ⟨rfl, hxc⟩ := hcut
    have hbad := badT_ok kk
    generalize badT kk = bad at *
    have c0 := hxc.cell HX.out.2.2.1
    have c1 := hxc.cell HX.out.2.2.2
    have hEc := HX.out.1.trans hxc
    have hzc := Ext.obj hxc HX.out.2.1
    clear HX hxc HW7 HW5
    (go_wp2_with fail; (with_reducible refine (P1 _ hEc).mono ?_); rintro e w3 ⟨h3, rfl, ht3, hi3, hx3⟩)
    (go_wp2_with fail; (with_reducible refine (P2 _ _ _ ht3 hi3).mono ?_); rintro e w4 ⟨rfl, hx4⟩)
    have hE4 := Lib.hid (hEc.trans (hx3.trans hx4))
    have hz4 := Ext.obj (hx3.trans hx4) hzc
    clear P1 P2 ht3 hi3 hx3 hx4 c0 c1 hEc hzc
    go_wp2_with fail
    go_loopw [13, 11, 12] (fun i t u wr => ∃ (j : Nat) (T U : Te), j ≤ nn ∧ i = .int .i64 j ∧ t = T.val ∧ u = U.val ∧ BadT T j ∧ TwoT U j ∧ Ext w4 wr) (fun i _ _ _ => nn - (intOf i).toNat)
    case atStart => exact ⟨0, bad, qTwo, by omega, rfl, rfl, rfl, hbad, qTwo_ok, Ext.refl _⟩
    case round =>
      obtain ⟨j, T, U, hj, rfl, rfl, rfl, hT, hU, hx⟩ := hrel
      by_cases hlt : j < nn
      · have hj0 := Lib.hid (show j + 1 ≤ nn from hlt)
        have hji : (j : Int) < (nn : Int) := by omega
        obtain ⟨tu, xu, eu⟩ := Te.form_cl hU.cl
        have hdd : (0 : Int) ≤ (j : Int) ∧ (j : Int) ≤ 100 := by omega
        have hT0 := Lib.hid (And.intro hT (And.intro hU (And.intro hx hdd)))
        rcases Te.form hT.wf with et | ⟨tt, xt, et⟩
        all_goals
          have hev := Lib.hid (And.intro et eu)
          rw [et, eu]
          clear hT hU hx et eu
          rcases mod3d j with ⟨hm, hmt⟩ | ⟨hm, hmt⟩ | ⟨hm, hmt⟩
          · clear hm
            go_wp2_with fail
            go_roundw
            case rel => exact ⟨j + 1, .give T, .give U, hj0.out, by go_num, by simp only [Te.val, hev.out.1], by simp only [Te.val, hev.out.2], hT0.out.1.give, hT0.out.2.1.give, hT0.out.2.2.1⟩
            case measure => simp [intOf]; omega
          · clear hm
            go_wp2_with fail
            go_quiet (fail)
            go_wp2_with fail
            go_roundw
            case rel => exact ⟨j + 1, .and x T, .and .zero U, hj0.out, by go_num, by simp only [Te.val, hev.out.1, hXv.out.1], by simp only [Te.val, hev.out.2], hT0.out.1.and hXv.out.2.1 hXv.out.2.2, hT0.out.2.1.and, hT0.out.2.2.1.drewN _⟩
            case measure => simp [intOf]; omega
          · clear hm
            go_wp2_with fail
            go_roundw
            case rel => exact ⟨j + 1, .whn j T, .whn j U, hj0.out, by go_num, by simp only [Te.val, hev.out.1], by simp only [Te.val, hev.out.2], hT0.out.1.whn _ hT0.out.2.2.2, hT0.out.2.1.whn _ hT0.out.2.2.2, hT0.out.2.2.1⟩
            case measure => simp [intOf]; omega
      · obtain rfl : j = nn := by omega
        have H1 := fun W => tcheck_calls T W hT.wf (by have := hT.nodes; omega)
        have H2 := fun W => tcheck_calls U W hU.wf (by have := hU.nodes; omega)
        rw [hT.checked] at H1
        rw [hU.checked (by omega)] at H2
        have hx0 := Lib.hid (hE4.out.trans hx)
        have hzr := Ext.obj hx hz4
        clear hT hU hx hlt hE4 hz4
        go_wp2_with fail
        go_loopw [15, 14] (fun i t wq => ∃ j : Nat, j ≤ 12 ∧ i = .int .i64 j ∧ t = (longT j).val ∧ Ext wr wq) (fun i _ _ => 12 - (intOf i).toNat)
        case atStart => exact ⟨0, by omega, rfl, rfl, Ext.refl _⟩
        case round =>
          obtain ⟨m, hm, rfl, rfl, hxm⟩ := hrel
          obtain ⟨l1, l2, l3, l4, tl, xl, el⟩ := longT_ok m
          by_cases hlt : m < 12
          · have hj0 := Lib.hid (show m + 1 ≤ 12 from hlt)
            have hmi : (m : Int) < 12 := by omega
            have hev := Lib.hid (show (longT (m + 1)).val = .iface 99 (.agg #[(longT m).val]) from rfl)
            have hxm0 := Lib.hid hxm
            rw [el] at hev ⊢
            clear l1 l2 l3 l4 el hxm
            go_wp2_with fail
            go_roundw
            case rel => exact ⟨m + 1, hj0.out, by go_num, hev.out.symm, hxm0.out⟩
            case measure => simp [intOf]; omega
          · obtain rfl : m = 12 := by omega
            have H3 := fun W => tcheck_calls (.and qTwo (longT 12)) W ⟨qTwo_ok.wf, l1⟩ (by simp only [Te.nodes, l3]; decide)
            have H4 := fun W => tcheck_calls (.and (longT 12) bad) W ⟨l1, hbad.wf⟩ (by have := hbad.nodes; simp only [Te.nodes, l3]; omega)
            rw [long_lim] at H3
            rw [long_bad hbad] at H4
            have hxm0 := Lib.hid (hx0.out.trans hxm)
            have hfb := Te.form hbad.wf
            have hqv : qTwo.val = .iface 118 (.agg #[.iface 104 (.agg #[.string ⟨#[113]⟩, .iface 101 (.agg #[]), .iface 101 (.agg #[])]), .iface 104 (.agg #[.string ⟨#[113]⟩, .iface 101 (.agg #[]), .iface 101 (.agg #[])])]) := rfl
            have hv3 : (Te.and qTwo (longT 12)).val = .iface 118 (.agg #[qTwo.val, (longT 12).val]) := rfl
            have hv4 : (Te.and (longT 12) bad).val = .iface 118 (.agg #[(longT 12).val, bad.val]) := rfl
            rw [hv3, hqv, el] at H3
            rw [hv4, el] at H4
            rw [el]
            clear l1 l2 l3 l4 el hxm hx0 hv3 hv4 hqv hbad hzr
            generalize T.val = tv at *
            generalize U.val = uv at *
            rcases hfb with eb | ⟨tb, xb, eb⟩
            all_goals
              rw [eb] at H4 ⊢
              clear eb
              (go_wp2_with fail; (with_reducible refine (H1 _).mono ?_); rintro e w' ⟨rfl, hx1⟩)
              (go_wp2_with fail; (with_reducible refine (H2 _).mono ?_); rintro e w' ⟨rfl, hx2⟩)
              (go_wp2_with fail; (with_reducible refine (H3 _).mono ?_); rintro e w' ⟨rfl, hx3⟩)
              (go_wp2_with fail; (with_reducible refine (H4 _).mono ?_); rintro e w' ⟨rfl, hx4⟩)
              (go_wp2_with fail; (with_reducible refine (wakes05_calls _).mono ?_); rintro e w' ⟨rfl, hx5⟩)
              go_wp2
              go_ret
              exact ⟨rfl, hxm0.out.trans ((by repeat' (first | (with_reducible exact Ext.refl _) | (with_reducible assumption) | (with_reducible refine Ext.alloc ?_ _) | (with_reducible refine Ext.drew ?_) | (with_reducible refine Ext.drewN ?_ _) | (with_reducible refine Ext.setCell ?_ (by first | exact Nat.le_refl _ | (simp; done) | (simp; omega) | omega) _) | (with_reducible refine Ext.trans ?_ (by assumption)))))⟩

end Go.Proofs.Ytgjjngkmbplijaa
