/- The walk of the law ValueLaws. -/
import Derived.Test.YtgjjngkmbplijaaKn9
import Derived.Test.YtgjjngkmbplijaaVL1
import Derived.Test.YtgjjngkmbplijaaObsSameW
namespace Go.Proofs.Ytgjjngkmbplijaa
open Go.RowKit
set_option linter.unusedSimpArgs false
set_option linter.unusedVariables false

theorem own_fix {w0 w : World} {p f c : Nat} {F : FixL} {C : ChL} (s : ByteArray) (d v : Int) (h : Own w0 w p f c F C) :
    Calls Try.prog 35 #[.pointer (some ⟨p, 0, none⟩), .string s, .int .i64 d, .int .i64 v] w fun e w' => e = .returned (.int .i64 (fixRes F s d v)) ∧ Own w0 w' p f c (fixNew F s d v) C ∧ w.grownBy w' (some f) :=
  (fix_calls p f c F C s d v w h.wld).mono fun e w' ⟨he, hW, hg⟩ => ⟨he, h.step (.inl rfl) hW hg, hg⟩
theorem max_split (x y m : Int) (h : m = Max.max x y) : (x < y ∧ y = m) ∨ (y ≤ x ∧ x = m) := by omega
def blk1 : ByteArray := ⟨#[109, 111, 114, 101]⟩
/-- The number a in a world that knows more, in memory of the law's own. -/
theorem of_more {w0 w : World} {p' f' c' : Nat} {F : FixL} {C : ChL} {a : Ob} {d n : Int} (hwf : a.wf) (hn : a.nodes < 2 ^ 62) (h : a.ofV F d = ⟨n, true, 0⟩) (hO : Own w0 w p' f' c' (fixNew (fixNew F ⟨#[109, 111, 114, 101]⟩ d 3) ⟨#[108, 105, 98, 111, 114]⟩ d 3) C) :
    Calls Try.prog 62 #[a.val, .int .i64 d, .pointer (some ⟨p', 0, none⟩)] w fun e w' => RetKn3 w ⟨n, true, 0⟩ e w' := by
  have := vOf_calls p' f' c' _ C d a w hwf hn hO.wld
  rwa [ofV_more (F := F) (by
    obtain ⟨G1, e1⟩ := fixNew_more F ⟨#[109, 111, 114, 101]⟩ d 3
    obtain ⟨G2, e2⟩ := fixNew_more (fixNew F ⟨#[109, 111, 114, 101]⟩ d 3) ⟨#[108, 105, 98, 111, 114]⟩ d 3
    exact ⟨G1 ++ G2, by rw [e2, e1, List.append_assoc]⟩) h] at this

set_option maxRecDepth 100000 in
set_option maxHeartbeats 12800000 in
theorem valueLaws_walk (p q : Pl) (a3 : Option Addr) (n3 c3 : Nat) (l : List Int) (day : Int) (w : World) (hp : p.In (· < w.heap.size) w) (hq : q.In (· < w.heap.size) w) (hl : InInts w a3 n3 c3 l) (hd : (Lit.int .i64 day).wf = true) :
    Calls Try.prog 19 #[p.val, q.val, .slice a3 n3 c3, .int .i64 day] w fun e w' => e = .returned (.bool true) ∧ Ext w w' := by
  have hbd := i64_of hd
  have HW := fun W => within_calls day 9 W (by omega) (by omega) hbd.1 hbd.2
  generalize day % 9 = d at *
  obtain ⟨a, ha⟩ := obsT_ok p 4 0 16
  obtain ⟨b, hb⟩ := obsT_ok q 4 0 16
  have hwa := ha.wf
  have hwb := hb.wf
  have hna : a.nodes < 32 := ha.nodes
  have hnb : b.nodes < 32 := hb.nodes
  have P1 := fun W (hW : Ext w W) => number_calls p W ((hp.ext hW).weak (fun y hy => Nat.lt_of_lt_of_le hy hW.le))
  have P2 := fun (h : HT) (r : Nat → Prop) (W : World) (e : h.tr = (obsT p 4 0 16).1) (hin : h.In r W) => pobs_at ha.is ha.wf h r W e hin
  have Q1 := fun W (hW : Ext w W) => number_calls q W ((hq.ext hW).weak (fun y hy => Nat.lt_of_lt_of_le hy hW.le))
  have Q2 := fun (h : HT) (r : Nat → Prop) (W : World) (e : h.tr = (obsT q 4 0 16).1) (hin : h.In r W) => pobs_at hb.is hb.wf h r W e hin
  have HA0 := fun (F : FixL) (p f c : Nat) (C : ChL) W (hW : Wld W p f c F C) => vOf_calls p f c F C d a W hwa (by omega) hW
  have HB0 := fun (F : FixL) (p f c : Nat) (C : ChL) W (hW : Wld W p f c F C) => vOf_calls p f c F C d b W hwb (by omega) hW
  have HS0 := fun (F : FixL) (p f c : Nat) (C : ChL) W (hW : Wld W p f c F C) => vOf_calls p f c F C d (.add a b) W ⟨hwa, hwb⟩ (by simp only [Ob.nodes]; omega) hW
  have HN0 := fun (F : FixL) (p f c : Nat) (C : ChL) W (hW : Wld W p f c F C) => vOf_calls p f c F C d (.neg a) W hwa (by simp only [Ob.nodes]; omega) hW
  have HM0 := fun (F : FixL) (p f c : Nat) (C : ChL) W (hW : Wld W p f c F C) => vOf_calls p f c F C d (.max a b) W ⟨hwa, hwb⟩ (by simp only [Ob.nodes]; omega) hW
  have HD0 := fun (F : FixL) (p f c : Nat) (C : ChL) W (hW : Wld W p f c F C) => vneeds_calls p f c F C d a W hwa (by omega) hW
  have HC0 := fun (w0 W : World) (p f c : Nat) (F : FixL) (C : ChL) (n : Int) h hO => of_more (w0 := w0) (w := W) (p' := p) (f' := f) (c' := c) (F := F) (C := C) (a := a) (d := d) (n := n) hwa (by omega) h hO
  have hways := Lib.hid (fun F => sum_ways a b F d)
  have hcla := Lib.hid ha.clean
  obtain ⟨ka, xa, ea⟩ := Ob.form_clean ha.clean
  obtain ⟨kb, xb, eb⟩ := Ob.form_clean hb.clean
  simp only [Ob.val, ea, eb] at P2 Q2 HA0 HB0 HS0 HN0 HM0 HD0 HC0
  clear ea eb ha hb hp hq hd hbd hwa hwb hna hnb
  generalize (obsT p 4 0 16).1 = T1 at *
  generalize (obsT q 4 0 16).1 = T2 at *
  unfold Pl.val at *
  have hs2 : w.heap.size < w.heap.size + 1 + 1 := by omega
  have hs3 : ∀ w5 : World, w.heap.size + 1 < w5.heap.size → w.heap.size < w5.heap.size := fun _ h => by omega
  go_enter Try.func19, Try.ntmps19
  go_wp2_with fail
  go_region_held3 (fun W => W.cell? ⟨w.heap.size, 0, none⟩ = some (.slice p.a p.n p.c) ∧ W.cell? ⟨w.heap.size, 1, none⟩ = some (.slice p.a2 p.n2 p.c2) ∧ W.cell? ⟨w.heap.size + 1, 0, none⟩ = some (.slice q.a q.n q.c) ∧ W.cell? ⟨w.heap.size + 1, 1, none⟩ = some (.slice q.a2 q.n2 q.c2)) (go_keep)
    (first | (go_at_call 54; (with_reducible refine (P1 _ ((by repeat' (first | (with_reducible exact Ext.refl _) | (with_reducible assumption) | (with_reducible refine Ext.alloc ?_ _) | (with_reducible refine Ext.drew ?_) | (with_reducible refine Ext.drewN ?_ _) | (with_reducible refine Ext.setCell ?_ (by first | exact Nat.le_refl _ | (simp; done) | (simp; omega) | omega) _) | (with_reducible refine Ext.trans ?_ (by assumption)))))).mono ?_); rintro e w5 ⟨h5, rfl, ht5, hi5, hv5⟩; obtain ⟨hc5, hf5⟩ := hv5.cells; have hbl5 : w.heap.size + 1 < w5.heap.size := by { have := hv5.le; (try simp at this); omega }; have hbk5 : w.heap.size < w5.heap.size := (by omega)) | (go_at_call 54; (with_reducible refine (Q1 _ ((by repeat' (first | (with_reducible exact Ext.refl _) | (with_reducible assumption) | (with_reducible refine Ext.alloc ?_ _) | (with_reducible refine Ext.drew ?_) | (with_reducible refine Ext.drewN ?_ _) | (with_reducible refine Ext.setCell ?_ (by first | exact Nat.le_refl _ | (simp; done) | (simp; omega) | omega) _) | (with_reducible refine Ext.trans ?_ (by assumption)))))).mono ?_); rintro e w8 ⟨h8, rfl, ht8, hi8, hv8⟩; obtain ⟨hc8, hf8⟩ := hv8.cells; have hbl8 : w.heap.size + 1 < w8.heap.size := by { have := hv8.le; (try simp at this); omega }; have hbk8 : w.heap.size < w8.heap.size := (by omega)) | (go_at_call 53; (with_reducible refine (P2 _ _ _ (by assumption) (by assumption)).mono ?_); rintro e w6 ⟨rfl, hv6⟩; obtain ⟨hc6, hf6⟩ := hv6.cells; have hbl6 : w.heap.size + 1 < w6.heap.size := by { have := hv6.le; (try simp at this); omega }; have hbk6 : w.heap.size < w6.heap.size := (by omega)) | (go_at_call 53; (with_reducible refine (Q2 _ _ _ (by assumption) (by assumption)).mono ?_); rintro e w9 ⟨rfl, hv9⟩; obtain ⟨hc9, hf9⟩ := hv9.cells; have hbl9 : w.heap.size + 1 < w9.heap.size := by { have := hv9.le; (try simp at this); omega }; have hbk9 : w.heap.size < w9.heap.size := (by omega)))
  clear P1 P2 Q1 Q2
  have hE9 := Lib.hid (show Ext w w9 from (by repeat' (first | (with_reducible exact Ext.refl _) | (with_reducible assumption) | (with_reducible refine Ext.alloc ?_ _) | (with_reducible refine Ext.drew ?_) | (with_reducible refine Ext.drewN ?_ _) | (with_reducible refine Ext.setCell ?_ (by first | exact Nat.le_refl _ | (simp; done) | (simp; omega) | omega) _) | (with_reducible refine Ext.trans ?_ (by assumption)))))
  clear hs3 hs2 hc5 hf5 hc6 hf6 hc8 hf8 hc9 hf9 hi5 hi8 ht5 ht8 hv5 hv6 hv8 hv9
  (go_wp2_with fail; (with_reducible refine (new_own (Ext.refl w9)).mono ?_); rintro e w' ⟨P, f, c, rfl, hO, hx⟩)
  have hT0 := hO.two
  have hl9 : InInts w9 a3 n3 c3 l := ⟨hl.1.ext hE9.out, hl.2⟩
  clear hx hl
  (go_wp2_with fail; (with_reducible refine (known9_calls w9 _ P f c [] [] _ _ _ a3 n3 c3 l hT0 (by decide) hl9).mono ?_); rintro e w3 ⟨F, v1, v2, rfl, hT⟩)
  have hO := hT.a
  clear hT hT0 hl9
  (go_wp2_with fail; (with_reducible refine (HW _).mono ?_); rintro e w' ⟨rfl, rfl⟩)
  have HA := fun W (hW : Ext w3 W) => HA0 F P f c [] W (hO.wld.ext hW)
  have HB := fun W (hW : Ext w3 W) => HB0 F P f c [] W (hO.wld.ext hW)
  have HS := fun W (hW : Own w9 W P f c F []) => HS0 F P f c [] W hW.wld
  have HN := fun W (hW : Own w9 W P f c F []) => HN0 F P f c [] W hW.wld
  have HM := fun W (hW : Own w9 W P f c F []) => HM0 F P f c [] W hW.wld
  have HD := fun W (hW : Ext w3 W) => HD0 F P f c [] W (hO.wld.ext hW)
  have HC := fun W p f c n h hO => HC0 w9 W p f c F [] n h hO
  clear HA0 HB0 HS0 HN0 HM0 HD0 HC0 HW
  have hO0 := Lib.hid hO
  rcases hways.out F with hx | ⟨hx, hy⟩ | ⟨hx, hy, hg⟩ | ⟨hx, hy, hg⟩
  · rw [hx] at HA
    clear hO HS HN HM HD HC hx
    generalize b.ofV F d = k at *
    obtain ⟨yn, yi, ye⟩ := k
    (go_wp2_with fail; (with_reducible refine (HA _ ((by repeat' (first | (with_reducible exact Ext.refl _) | (with_reducible assumption) | (with_reducible refine Ext.alloc ?_ _) | (with_reducible refine Ext.drew ?_) | (with_reducible refine Ext.drewN ?_ _) | (with_reducible refine Ext.setCell ?_ (by first | exact Nat.le_refl _ | (simp; done) | (simp; omega) | omega) _) | (with_reducible refine Ext.trans ?_ (by assumption)))))).mono ?_); rintro e w' ⟨rfl, hx1⟩)
    (go_wp2_with fail; (with_reducible refine (HB _ ((by repeat' (first | (with_reducible exact Ext.refl _) | (with_reducible assumption) | (with_reducible refine Ext.alloc ?_ _) | (with_reducible refine Ext.drew ?_) | (with_reducible refine Ext.drewN ?_ _) | (with_reducible refine Ext.setCell ?_ (by first | exact Nat.le_refl _ | (simp; done) | (simp; omega) | omega) _) | (with_reducible refine Ext.trans ?_ (by assumption)))))).mono ?_); rintro e w' ⟨rfl, hx2⟩)
    (go_wp2_with fail; (with_reducible refine (wakes09_calls _).mono ?_); rintro e w' ⟨rfl, hx3⟩)
    go_wp2
    go_ret
    exact ⟨rfl, hE9.out.trans (hO0.out.ext.trans ((by repeat' (first | (with_reducible exact Ext.refl _) | (with_reducible assumption) | (with_reducible refine Ext.alloc ?_ _) | (with_reducible refine Ext.drew ?_) | (with_reducible refine Ext.drewN ?_ _) | (with_reducible refine Ext.setCell ?_ (by first | exact Nat.le_refl _ | (simp; done) | (simp; omega) | omega) _) | (with_reducible refine Ext.trans ?_ (by assumption))))))⟩
  · rw [hy] at HB
    rcases hx with ⟨xn, hx⟩ | hx | hx
    all_goals
      rw [hx] at HA
      clear hO HS HN HM HD HC hx hy
      (go_wp2_with fail; (with_reducible refine (HA _ ((by repeat' (first | (with_reducible exact Ext.refl _) | (with_reducible assumption) | (with_reducible refine Ext.alloc ?_ _) | (with_reducible refine Ext.drew ?_) | (with_reducible refine Ext.drewN ?_ _) | (with_reducible refine Ext.setCell ?_ (by first | exact Nat.le_refl _ | (simp; done) | (simp; omega) | omega) _) | (with_reducible refine Ext.trans ?_ (by assumption)))))).mono ?_); rintro e w' ⟨rfl, hx1⟩)
      (go_wp2_with fail; (with_reducible refine (HB _ ((by repeat' (first | (with_reducible exact Ext.refl _) | (with_reducible assumption) | (with_reducible refine Ext.alloc ?_ _) | (with_reducible refine Ext.drew ?_) | (with_reducible refine Ext.drewN ?_ _) | (with_reducible refine Ext.setCell ?_ (by first | exact Nat.le_refl _ | (simp; done) | (simp; omega) | omega) _) | (with_reducible refine Ext.trans ?_ (by assumption)))))).mono ?_); rintro e w' ⟨rfl, hx2⟩)
      (go_wp2_with fail; (with_reducible refine (wakes09_calls _).mono ?_); rintro e w' ⟨rfl, hx3⟩)
      go_wp2
      go_ret
      exact ⟨rfl, hE9.out.trans (hO0.out.ext.trans ((by repeat' (first | (with_reducible exact Ext.refl _) | (with_reducible assumption) | (with_reducible refine Ext.alloc ?_ _) | (with_reducible refine Ext.drew ?_) | (with_reducible refine Ext.drewN ?_ _) | (with_reducible refine Ext.setCell ?_ (by first | exact Nat.le_refl _ | (simp; done) | (simp; omega) | omega) _) | (with_reducible refine Ext.trans ?_ (by assumption))))))⟩
  · rw [hg] at HS
    clear HN HM hg
    rcases hx with ⟨xn, hx⟩ | hx | hx
    · have hneed := needs_known hcla.out hx
      have HCx := fun W p f c hO => HC W p f c xn hx hO
      rw [hx] at HA
      clear hx HC
      generalize a.needs F d = N at *
      rcases hy with ⟨yn, hy⟩ | hy | hy
      all_goals
        rw [hy] at HB
        clear hy
        (go_wp2_with fail; (with_reducible refine (HA _ ((by repeat' (first | (with_reducible exact Ext.refl _) | (with_reducible assumption) | (with_reducible refine Ext.alloc ?_ _) | (with_reducible refine Ext.drew ?_) | (with_reducible refine Ext.drewN ?_ _) | (with_reducible refine Ext.setCell ?_ (by first | exact Nat.le_refl _ | (simp; done) | (simp; omega) | omega) _) | (with_reducible refine Ext.trans ?_ (by assumption)))))).mono ?_); rintro e w' ⟨rfl, hx1⟩)
        (go_wp2_with fail; (with_reducible refine (HB _ ((by repeat' (first | (with_reducible exact Ext.refl _) | (with_reducible assumption) | (with_reducible refine Ext.alloc ?_ _) | (with_reducible refine Ext.drew ?_) | (with_reducible refine Ext.drewN ?_ _) | (with_reducible refine Ext.setCell ?_ (by first | exact Nat.le_refl _ | (simp; done) | (simp; omega) | omega) _) | (with_reducible refine Ext.trans ?_ (by assumption)))))).mono ?_); rintro e w' ⟨rfl, hx2⟩)
        (go_wp2_with fail; (with_reducible refine (HD _ ((by repeat' (first | (with_reducible exact Ext.refl _) | (with_reducible assumption) | (with_reducible refine Ext.alloc ?_ _) | (with_reducible refine Ext.drew ?_) | (with_reducible refine Ext.drewN ?_ _) | (with_reducible refine Ext.setCell ?_ (by first | exact Nat.le_refl _ | (simp; done) | (simp; omega) | omega) _) | (with_reducible refine Ext.trans ?_ (by assumption)))))).mono ?_); rintro e w' ⟨nv, rfl, hno, hx3⟩)
        obtain ⟨A5, C5, rfl, _, _⟩ := own_form hno
        clear hno
        have hO3 := hO.keep ((hx1.trans hx2).trans hx3)
        clear HA HB HD hx1 hx2 hx3
        (go_wp2_with fail; (with_reducible refine (clone_own hO3).mono ?_); rintro e w7 ⟨p', f', c', rfl, hK, hO7, g1, g2, g3, hx7⟩)
        have hap : f' ≠ P ∧ f' ≠ f ∧ f' ≠ c := by have := hO3.wld.lts; omega
        clear hO3 hx7 g1 g2 g3 hO
        (go_wp2_with fail; (with_reducible refine (own_fix _ _ _ hK).mono ?_); rintro e w6 ⟨rfl, hK6, hg6⟩)
        have hO6 := hO7.other hg6 hap hK.f0
        clear hK hO7 hg6
        (go_wp2_with fail; (with_reducible refine (own_fix _ _ _ hK6).mono ?_); rintro e w4 ⟨rfl, hK4, hg4⟩)
        have hO4 := hO6.other hg4 hap hK6.f0
        clear hK6 hO6 hg4
        (go_wp2_with fail; (with_reducible refine (HCx _ _ _ _ hK4).mono ?_); rintro e w1 ⟨rfl, hx1⟩)
        have hO1 := hO4.keep hx1
        clear hK4 hO4 hx1
        (go_wp2_with fail; (with_reducible refine (HS _ hO1).mono ?_); rintro e w2 ⟨rfl, hx2⟩)
        have hOz := Lib.hid (hO1.ext.trans hx2)
        clear hO1 HS hx2
        (go_wp2_with fail; (with_reducible refine (wakes09_calls _).mono ?_); rintro e w' ⟨rfl, hx3⟩)
        go_wp2
        go_ret
        exact ⟨rfl, hE9.out.trans (hOz.out.trans ((by repeat' (first | (with_reducible exact Ext.refl _) | (with_reducible assumption) | (with_reducible refine Ext.alloc ?_ _) | (with_reducible refine Ext.drew ?_) | (with_reducible refine Ext.drewN ?_ _) | (with_reducible refine Ext.setCell ?_ (by first | exact Nat.le_refl _ | (simp; done) | (simp; omega) | omega) _) | (with_reducible refine Ext.trans ?_ (by assumption))))))⟩
    · have hneed := needs_unknown hcla.out hx
      rw [hx] at HA
      clear hx HC
      generalize a.needs F d = N at *
      rcases hy with ⟨yn, hy⟩ | hy | hy
      all_goals
        rw [hy] at HB
        clear hy
        (go_wp2_with fail; (with_reducible refine (HA _ ((by repeat' (first | (with_reducible exact Ext.refl _) | (with_reducible assumption) | (with_reducible refine Ext.alloc ?_ _) | (with_reducible refine Ext.drew ?_) | (with_reducible refine Ext.drewN ?_ _) | (with_reducible refine Ext.setCell ?_ (by first | exact Nat.le_refl _ | (simp; done) | (simp; omega) | omega) _) | (with_reducible refine Ext.trans ?_ (by assumption)))))).mono ?_); rintro e w' ⟨rfl, hx1⟩)
        (go_wp2_with fail; (with_reducible refine (HB _ ((by repeat' (first | (with_reducible exact Ext.refl _) | (with_reducible assumption) | (with_reducible refine Ext.alloc ?_ _) | (with_reducible refine Ext.drew ?_) | (with_reducible refine Ext.drewN ?_ _) | (with_reducible refine Ext.setCell ?_ (by first | exact Nat.le_refl _ | (simp; done) | (simp; omega) | omega) _) | (with_reducible refine Ext.trans ?_ (by assumption)))))).mono ?_); rintro e w' ⟨rfl, hx2⟩)
        (go_wp2_with fail; (with_reducible refine (HD _ ((by repeat' (first | (with_reducible exact Ext.refl _) | (with_reducible assumption) | (with_reducible refine Ext.alloc ?_ _) | (with_reducible refine Ext.drew ?_) | (with_reducible refine Ext.drewN ?_ _) | (with_reducible refine Ext.setCell ?_ (by first | exact Nat.le_refl _ | (simp; done) | (simp; omega) | omega) _) | (with_reducible refine Ext.trans ?_ (by assumption)))))).mono ?_); rintro e w' ⟨nv, rfl, hno, hx3⟩)
        obtain ⟨A5, C5, rfl, _, _⟩ := own_form hno
        clear hno
        have hO3 := hO.keep ((hx1.trans hx2).trans hx3)
        clear HA HB HD hx1 hx2 hx3 hO
        (go_wp2_with fail; (with_reducible refine (HS _ hO3).mono ?_); rintro e w2 ⟨rfl, hx2⟩)
        have hOz := Lib.hid (hO3.ext.trans hx2)
        clear hO3 HS hx2
        (go_wp2_with fail; (with_reducible refine (wakes09_calls _).mono ?_); rintro e w' ⟨rfl, hx3⟩)
        go_wp2
        go_ret
        exact ⟨rfl, hE9.out.trans (hOz.out.trans ((by repeat' (first | (with_reducible exact Ext.refl _) | (with_reducible assumption) | (with_reducible refine Ext.alloc ?_ _) | (with_reducible refine Ext.drew ?_) | (with_reducible refine Ext.drewN ?_ _) | (with_reducible refine Ext.setCell ?_ (by first | exact Nat.le_refl _ | (simp; done) | (simp; omega) | omega) _) | (with_reducible refine Ext.trans ?_ (by assumption))))))⟩
    · rw [hx] at HA
      clear hx HC HD
      rcases hy with ⟨yn, hy⟩ | hy | hy
      all_goals
        rw [hy] at HB
        clear hy
        (go_wp2_with fail; (with_reducible refine (HA _ ((by repeat' (first | (with_reducible exact Ext.refl _) | (with_reducible assumption) | (with_reducible refine Ext.alloc ?_ _) | (with_reducible refine Ext.drew ?_) | (with_reducible refine Ext.drewN ?_ _) | (with_reducible refine Ext.setCell ?_ (by first | exact Nat.le_refl _ | (simp; done) | (simp; omega) | omega) _) | (with_reducible refine Ext.trans ?_ (by assumption)))))).mono ?_); rintro e w' ⟨rfl, hx1⟩)
        (go_wp2_with fail; (with_reducible refine (HB _ ((by repeat' (first | (with_reducible exact Ext.refl _) | (with_reducible assumption) | (with_reducible refine Ext.alloc ?_ _) | (with_reducible refine Ext.drew ?_) | (with_reducible refine Ext.drewN ?_ _) | (with_reducible refine Ext.setCell ?_ (by first | exact Nat.le_refl _ | (simp; done) | (simp; omega) | omega) _) | (with_reducible refine Ext.trans ?_ (by assumption)))))).mono ?_); rintro e w' ⟨rfl, hx2⟩)
        have hO3 := hO.keep (hx1.trans hx2)
        clear HA HB hx1 hx2 hO
        (go_wp2_with fail; (with_reducible refine (HS _ hO3).mono ?_); rintro e w2 ⟨rfl, hx2⟩)
        have hOz := Lib.hid (hO3.ext.trans hx2)
        clear hO3 HS hx2
        (go_wp2_with fail; (with_reducible refine (wakes09_calls _).mono ?_); rintro e w' ⟨rfl, hx3⟩)
        go_wp2
        go_ret
        exact ⟨rfl, hE9.out.trans (hOz.out.trans ((by repeat' (first | (with_reducible exact Ext.refl _) | (with_reducible assumption) | (with_reducible refine Ext.alloc ?_ _) | (with_reducible refine Ext.drew ?_) | (with_reducible refine Ext.drewN ?_ _) | (with_reducible refine Ext.setCell ?_ (by first | exact Nat.le_refl _ | (simp; done) | (simp; omega) | omega) _) | (with_reducible refine Ext.trans ?_ (by assumption))))))⟩
  · rw [hg] at HS
    clear hg
    rcases hx with ⟨xn, hx⟩ | hx | hx
    · have hneed := needs_known hcla.out hx
      have HCx := fun W p f c hO => HC W p f c xn hx hO
      have HNx := neg_ways hx
      have HMx := fun yn (hy : b.ofV F d = ⟨yn, true, 0⟩) => max_ways (a := a) (b := b) hx hy
      rw [hx] at HA HS
      clear hx HC
      generalize a.needs F d = N at *
      rcases hy with ⟨yn, hy⟩ | hy | hy
      · have HMy := HMx yn hy
        rw [hy] at HB HS
        clear hy HMx
        rw [pairK_ok rfl rfl rfl rfl] at HS
        rcases hs : addS xn yn with ⟨s, can⟩
        simp only [hs] at HS
        cases can with
        | false =>
          rw [toldK_no] at HS
          clear HN HM HNx HMy
          (go_wp2_with fail; (with_reducible refine (HA _ ((by repeat' (first | (with_reducible exact Ext.refl _) | (with_reducible assumption) | (with_reducible refine Ext.alloc ?_ _) | (with_reducible refine Ext.drew ?_) | (with_reducible refine Ext.drewN ?_ _) | (with_reducible refine Ext.setCell ?_ (by first | exact Nat.le_refl _ | (simp; done) | (simp; omega) | omega) _) | (with_reducible refine Ext.trans ?_ (by assumption)))))).mono ?_); rintro e w' ⟨rfl, hx1⟩)
          (go_wp2_with fail; (with_reducible refine (HB _ ((by repeat' (first | (with_reducible exact Ext.refl _) | (with_reducible assumption) | (with_reducible refine Ext.alloc ?_ _) | (with_reducible refine Ext.drew ?_) | (with_reducible refine Ext.drewN ?_ _) | (with_reducible refine Ext.setCell ?_ (by first | exact Nat.le_refl _ | (simp; done) | (simp; omega) | omega) _) | (with_reducible refine Ext.trans ?_ (by assumption)))))).mono ?_); rintro e w' ⟨rfl, hx2⟩)
          (go_wp2_with fail; (with_reducible refine (HD _ ((by repeat' (first | (with_reducible exact Ext.refl _) | (with_reducible assumption) | (with_reducible refine Ext.alloc ?_ _) | (with_reducible refine Ext.drew ?_) | (with_reducible refine Ext.drewN ?_ _) | (with_reducible refine Ext.setCell ?_ (by first | exact Nat.le_refl _ | (simp; done) | (simp; omega) | omega) _) | (with_reducible refine Ext.trans ?_ (by assumption)))))).mono ?_); rintro e w' ⟨nv, rfl, hno, hx3⟩)
          obtain ⟨A5, C5, rfl, _, _⟩ := own_form hno
          clear hno
          have hO3 := hO.keep ((hx1.trans hx2).trans hx3)
          clear HA HB HD hx1 hx2 hx3
          (go_wp2_with fail; (with_reducible refine (clone_own hO3).mono ?_); rintro e w7 ⟨p', f', c', rfl, hK, hO7, g1, g2, g3, hx7⟩)
          have hap : f' ≠ P ∧ f' ≠ f ∧ f' ≠ c := by have := hO3.wld.lts; omega
          clear hO3 hx7 g1 g2 g3 hO
          (go_wp2_with fail; (with_reducible refine (own_fix _ _ _ hK).mono ?_); rintro e w6 ⟨rfl, hK6, hg6⟩)
          have hO6 := hO7.other hg6 hap hK.f0
          clear hK hO7 hg6
          (go_wp2_with fail; (with_reducible refine (own_fix _ _ _ hK6).mono ?_); rintro e w4 ⟨rfl, hK4, hg4⟩)
          have hO4 := hO6.other hg4 hap hK6.f0
          clear hK6 hO6 hg4
          (go_wp2_with fail; (with_reducible refine (HCx _ _ _ _ hK4).mono ?_); rintro e w1 ⟨rfl, hx1⟩)
          have hO1 := hO4.keep hx1
          clear hK4 hO4 hx1 HCx
          (go_wp2_with fail; (with_reducible refine (HS _ hO1).mono ?_); rintro e w2 ⟨rfl, hx2⟩)
          have hO2 := hO1.keep hx2
          clear hO1 HS hx2
          (go_wp2_with fail; (with_reducible refine (add_calls _ _ _).mono ?_); rintro e w5 ⟨rfl, rfl⟩)
          rw [hs]
          unfold retIB
          have hOz := Lib.hid hO2.ext
          clear hO2
          (go_wp2_with fail; (with_reducible refine (wakes09_calls _).mono ?_); rintro e w' ⟨rfl, hx3⟩)
          go_wp2
          go_ret
          exact ⟨rfl, hE9.out.trans (hOz.out.trans ((by repeat' (first | (with_reducible exact Ext.refl _) | (with_reducible assumption) | (with_reducible refine Ext.alloc ?_ _) | (with_reducible refine Ext.drew ?_) | (with_reducible refine Ext.drewN ?_ _) | (with_reducible refine Ext.setCell ?_ (by first | exact Nat.le_refl _ | (simp; done) | (simp; omega) | omega) _) | (with_reducible refine Ext.trans ?_ (by assumption))))))⟩
        | true =>
          rw [toldK_yes] at HS
          have hmx := max_split xn yn _ rfl
          generalize Max.max xn yn = mx at *
          have hbn : Vd xn = true ∧ Vd yn = true := by
            unfold addS at hs
            split at hs
            · rename_i h; exact ⟨h.1, h.2.1⟩
            · cases hs
          have hxb := (Vd_iff xn).1 hbn.1
          have hyb := (Vd_iff yn).1 hbn.2
          clear hbn
          (go_wp2_with fail; (with_reducible refine (HA _ ((by repeat' (first | (with_reducible exact Ext.refl _) | (with_reducible assumption) | (with_reducible refine Ext.alloc ?_ _) | (with_reducible refine Ext.drew ?_) | (with_reducible refine Ext.drewN ?_ _) | (with_reducible refine Ext.setCell ?_ (by first | exact Nat.le_refl _ | (simp; done) | (simp; omega) | omega) _) | (with_reducible refine Ext.trans ?_ (by assumption)))))).mono ?_); rintro e w' ⟨rfl, hx1⟩)
          (go_wp2_with fail; (with_reducible refine (HB _ ((by repeat' (first | (with_reducible exact Ext.refl _) | (with_reducible assumption) | (with_reducible refine Ext.alloc ?_ _) | (with_reducible refine Ext.drew ?_) | (with_reducible refine Ext.drewN ?_ _) | (with_reducible refine Ext.setCell ?_ (by first | exact Nat.le_refl _ | (simp; done) | (simp; omega) | omega) _) | (with_reducible refine Ext.trans ?_ (by assumption)))))).mono ?_); rintro e w' ⟨rfl, hx2⟩)
          (go_wp2_with fail; (with_reducible refine (HD _ ((by repeat' (first | (with_reducible exact Ext.refl _) | (with_reducible assumption) | (with_reducible refine Ext.alloc ?_ _) | (with_reducible refine Ext.drew ?_) | (with_reducible refine Ext.drewN ?_ _) | (with_reducible refine Ext.setCell ?_ (by first | exact Nat.le_refl _ | (simp; done) | (simp; omega) | omega) _) | (with_reducible refine Ext.trans ?_ (by assumption)))))).mono ?_); rintro e w' ⟨nv, rfl, hno, hx3⟩)
          obtain ⟨A5, C5, rfl, _, _⟩ := own_form hno
          clear hno
          have hO3 := hO.keep ((hx1.trans hx2).trans hx3)
          clear HA HB HD hx1 hx2 hx3
          (go_wp2_with fail; (with_reducible refine (clone_own hO3).mono ?_); rintro e w7 ⟨p', f', c', rfl, hK, hO7, g1, g2, g3, hx7⟩)
          have hap : f' ≠ P ∧ f' ≠ f ∧ f' ≠ c := by have := hO3.wld.lts; omega
          clear hO3 hx7 g1 g2 g3 hO
          (go_wp2_with fail; (with_reducible refine (own_fix _ _ _ hK).mono ?_); rintro e w6 ⟨rfl, hK6, hg6⟩)
          have hO6 := hO7.other hg6 hap hK.f0
          clear hK hO7 hg6
          (go_wp2_with fail; (with_reducible refine (own_fix _ _ _ hK6).mono ?_); rintro e w4 ⟨rfl, hK4, hg4⟩)
          have hO4 := hO6.other hg4 hap hK6.f0
          clear hK6 hO6 hg4
          (go_wp2_with fail; (with_reducible refine (HCx _ _ _ _ hK4).mono ?_); rintro e w1 ⟨rfl, hx1⟩)
          have hO1 := hO4.keep hx1
          clear hK4 hO4 hx1 HCx
          (go_wp2_with fail; (with_reducible refine (HS _ hO1).mono ?_); rintro e w2 ⟨rfl, hx2⟩)
          have hO2 := hO1.keep hx2
          clear hO1 HS hx2
          (go_wp2_with fail; (with_reducible refine (add_calls _ _ _).mono ?_); rintro e w5 ⟨rfl, rfl⟩)
          rw [hs]
          unfold retIB
          clear hs
          rcases HNx with h | h | h <;> rcases HMy with h' | h'
          all_goals
            rw [h] at HN
            rw [h'] at HM
            clear h h'
            (go_wp2_with fail; (with_reducible refine (HN _ hO2).mono ?_); rintro e w6 ⟨rfl, hx6⟩)
            have hO6 := hO2.keep hx6
            clear hO2 hx6
            (go_wp2_with fail; (with_reducible refine (HM _ hO6).mono ?_); rintro e w7 ⟨rfl, hx7⟩)
            have hO7 := hO6.keep hx7
            clear hO6 hx7
            (go_wp2_with fail; (with_reducible refine (HN _ hO7).mono ?_); rintro e w8 ⟨rfl, hx8⟩)
            have hO8 := hO7.keep hx8
            clear hO7 hx8
            (go_wp2_with fail; (with_reducible refine (HM _ hO8).mono ?_); rintro e wa ⟨rfl, hxa⟩)
            have hO2 := hO8.keep hxa
            clear hO8 hxa HN HM
            rcases hmx with ⟨hmx, rfl⟩ | ⟨hmx, rfl⟩
            all_goals
              have hOz := Lib.hid hO2.ext
              clear hO2
              (go_wp2_with fail; (with_reducible refine (wakes09_calls _).mono ?_); rintro e w' ⟨rfl, hx3⟩)
              go_wp2
              go_ret
              exact ⟨rfl, hE9.out.trans (hOz.out.trans ((by repeat' (first | (with_reducible exact Ext.refl _) | (with_reducible assumption) | (with_reducible refine Ext.alloc ?_ _) | (with_reducible refine Ext.drew ?_) | (with_reducible refine Ext.drewN ?_ _) | (with_reducible refine Ext.setCell ?_ (by first | exact Nat.le_refl _ | (simp; done) | (simp; omega) | omega) _) | (with_reducible refine Ext.trans ?_ (by assumption))))))⟩
      · have hg2 : pairK addS ⟨xn, true, 0⟩ (b.ofV F d) = ⟨0, false, 0⟩ := by rw [hy]; rfl
        rw [hg2] at HS
        rw [hy] at HB
        clear hy hg2 HMx HNx HN HM
        (go_wp2_with fail; (with_reducible refine (HA _ ((by repeat' (first | (with_reducible exact Ext.refl _) | (with_reducible assumption) | (with_reducible refine Ext.alloc ?_ _) | (with_reducible refine Ext.drew ?_) | (with_reducible refine Ext.drewN ?_ _) | (with_reducible refine Ext.setCell ?_ (by first | exact Nat.le_refl _ | (simp; done) | (simp; omega) | omega) _) | (with_reducible refine Ext.trans ?_ (by assumption)))))).mono ?_); rintro e w' ⟨rfl, hx1⟩)
        (go_wp2_with fail; (with_reducible refine (HB _ ((by repeat' (first | (with_reducible exact Ext.refl _) | (with_reducible assumption) | (with_reducible refine Ext.alloc ?_ _) | (with_reducible refine Ext.drew ?_) | (with_reducible refine Ext.drewN ?_ _) | (with_reducible refine Ext.setCell ?_ (by first | exact Nat.le_refl _ | (simp; done) | (simp; omega) | omega) _) | (with_reducible refine Ext.trans ?_ (by assumption)))))).mono ?_); rintro e w' ⟨rfl, hx2⟩)
        (go_wp2_with fail; (with_reducible refine (HD _ ((by repeat' (first | (with_reducible exact Ext.refl _) | (with_reducible assumption) | (with_reducible refine Ext.alloc ?_ _) | (with_reducible refine Ext.drew ?_) | (with_reducible refine Ext.drewN ?_ _) | (with_reducible refine Ext.setCell ?_ (by first | exact Nat.le_refl _ | (simp; done) | (simp; omega) | omega) _) | (with_reducible refine Ext.trans ?_ (by assumption)))))).mono ?_); rintro e w' ⟨nv, rfl, hno, hx3⟩)
        obtain ⟨A5, C5, rfl, _, _⟩ := own_form hno
        clear hno
        have hO3 := hO.keep ((hx1.trans hx2).trans hx3)
        clear HA HB HD hx1 hx2 hx3
        (go_wp2_with fail; (with_reducible refine (clone_own hO3).mono ?_); rintro e w7 ⟨p', f', c', rfl, hK, hO7, g1, g2, g3, hx7⟩)
        have hap : f' ≠ P ∧ f' ≠ f ∧ f' ≠ c := by have := hO3.wld.lts; omega
        clear hO3 hx7 g1 g2 g3 hO
        (go_wp2_with fail; (with_reducible refine (own_fix _ _ _ hK).mono ?_); rintro e w6 ⟨rfl, hK6, hg6⟩)
        have hO6 := hO7.other hg6 hap hK.f0
        clear hK hO7 hg6
        (go_wp2_with fail; (with_reducible refine (own_fix _ _ _ hK6).mono ?_); rintro e w4 ⟨rfl, hK4, hg4⟩)
        have hO4 := hO6.other hg4 hap hK6.f0
        clear hK6 hO6 hg4
        (go_wp2_with fail; (with_reducible refine (HCx _ _ _ _ hK4).mono ?_); rintro e w1 ⟨rfl, hx1⟩)
        have hO1 := hO4.keep hx1
        clear hK4 hO4 hx1 HCx
        (go_wp2_with fail; (with_reducible refine (HS _ hO1).mono ?_); rintro e w2 ⟨rfl, hx2⟩)
        have hO2 := hO1.keep hx2
        clear hO1 HS hx2
        (go_wp2_with fail; (with_reducible refine (add_calls _ _ _).mono ?_); rintro e w5 ⟨rfl, rfl⟩)
        unfold retIB
        have hOz := Lib.hid hO2.ext
        clear hO2
        (go_wp2_with fail; (with_reducible refine (wakes09_calls _).mono ?_); rintro e w' ⟨rfl, hx3⟩)
        go_wp2
        go_ret
        exact ⟨rfl, hE9.out.trans (hOz.out.trans ((by repeat' (first | (with_reducible exact Ext.refl _) | (with_reducible assumption) | (with_reducible refine Ext.alloc ?_ _) | (with_reducible refine Ext.drew ?_) | (with_reducible refine Ext.drewN ?_ _) | (with_reducible refine Ext.setCell ?_ (by first | exact Nat.le_refl _ | (simp; done) | (simp; omega) | omega) _) | (with_reducible refine Ext.trans ?_ (by assumption))))))⟩
      · have hg2 : pairK addS ⟨xn, true, 0⟩ (b.ofV F d) = ⟨0, false, 6⟩ := by rw [hy]; rfl
        rw [hg2] at HS
        rw [hy] at HB
        clear hy hg2 HMx HNx HN HM
        (go_wp2_with fail; (with_reducible refine (HA _ ((by repeat' (first | (with_reducible exact Ext.refl _) | (with_reducible assumption) | (with_reducible refine Ext.alloc ?_ _) | (with_reducible refine Ext.drew ?_) | (with_reducible refine Ext.drewN ?_ _) | (with_reducible refine Ext.setCell ?_ (by first | exact Nat.le_refl _ | (simp; done) | (simp; omega) | omega) _) | (with_reducible refine Ext.trans ?_ (by assumption)))))).mono ?_); rintro e w' ⟨rfl, hx1⟩)
        (go_wp2_with fail; (with_reducible refine (HB _ ((by repeat' (first | (with_reducible exact Ext.refl _) | (with_reducible assumption) | (with_reducible refine Ext.alloc ?_ _) | (with_reducible refine Ext.drew ?_) | (with_reducible refine Ext.drewN ?_ _) | (with_reducible refine Ext.setCell ?_ (by first | exact Nat.le_refl _ | (simp; done) | (simp; omega) | omega) _) | (with_reducible refine Ext.trans ?_ (by assumption)))))).mono ?_); rintro e w' ⟨rfl, hx2⟩)
        (go_wp2_with fail; (with_reducible refine (HD _ ((by repeat' (first | (with_reducible exact Ext.refl _) | (with_reducible assumption) | (with_reducible refine Ext.alloc ?_ _) | (with_reducible refine Ext.drew ?_) | (with_reducible refine Ext.drewN ?_ _) | (with_reducible refine Ext.setCell ?_ (by first | exact Nat.le_refl _ | (simp; done) | (simp; omega) | omega) _) | (with_reducible refine Ext.trans ?_ (by assumption)))))).mono ?_); rintro e w' ⟨nv, rfl, hno, hx3⟩)
        obtain ⟨A5, C5, rfl, _, _⟩ := own_form hno
        clear hno
        have hO3 := hO.keep ((hx1.trans hx2).trans hx3)
        clear HA HB HD hx1 hx2 hx3
        (go_wp2_with fail; (with_reducible refine (clone_own hO3).mono ?_); rintro e w7 ⟨p', f', c', rfl, hK, hO7, g1, g2, g3, hx7⟩)
        have hap : f' ≠ P ∧ f' ≠ f ∧ f' ≠ c := by have := hO3.wld.lts; omega
        clear hO3 hx7 g1 g2 g3 hO
        (go_wp2_with fail; (with_reducible refine (own_fix _ _ _ hK).mono ?_); rintro e w6 ⟨rfl, hK6, hg6⟩)
        have hO6 := hO7.other hg6 hap hK.f0
        clear hK hO7 hg6
        (go_wp2_with fail; (with_reducible refine (own_fix _ _ _ hK6).mono ?_); rintro e w4 ⟨rfl, hK4, hg4⟩)
        have hO4 := hO6.other hg4 hap hK6.f0
        clear hK6 hO6 hg4
        (go_wp2_with fail; (with_reducible refine (HCx _ _ _ _ hK4).mono ?_); rintro e w1 ⟨rfl, hx1⟩)
        have hO1 := hO4.keep hx1
        clear hK4 hO4 hx1 HCx
        (go_wp2_with fail; (with_reducible refine (HS _ hO1).mono ?_); rintro e w2 ⟨rfl, hx2⟩)
        have hO2 := hO1.keep hx2
        clear hO1 HS hx2
        (go_wp2_with fail; (with_reducible refine (add_calls _ _ _).mono ?_); rintro e w5 ⟨rfl, rfl⟩)
        unfold retIB
        have hOz := Lib.hid hO2.ext
        clear hO2
        (go_wp2_with fail; (with_reducible refine (wakes09_calls _).mono ?_); rintro e w' ⟨rfl, hx3⟩)
        go_wp2
        go_ret
        exact ⟨rfl, hE9.out.trans (hOz.out.trans ((by repeat' (first | (with_reducible exact Ext.refl _) | (with_reducible assumption) | (with_reducible refine Ext.alloc ?_ _) | (with_reducible refine Ext.drew ?_) | (with_reducible refine Ext.drewN ?_ _) | (with_reducible refine Ext.setCell ?_ (by first | exact Nat.le_refl _ | (simp; done) | (simp; omega) | omega) _) | (with_reducible refine Ext.trans ?_ (by assumption))))))⟩
    · have hneed := needs_unknown hcla.out hx
      rw [hx] at HA HS
      clear hx HC HN HM
      generalize a.needs F d = N at *
      rcases hy with ⟨yn, hy⟩ | hy | hy
      · rw [hy] at HB HS
        clear hy
        have hg2 : pairK addS ⟨0, false, 0⟩ ⟨yn, true, 0⟩ = ⟨0, false, 0⟩ := rfl
        rw [hg2] at HS
        clear hg2
        (go_wp2_with fail; (with_reducible refine (HA _ ((by repeat' (first | (with_reducible exact Ext.refl _) | (with_reducible assumption) | (with_reducible refine Ext.alloc ?_ _) | (with_reducible refine Ext.drew ?_) | (with_reducible refine Ext.drewN ?_ _) | (with_reducible refine Ext.setCell ?_ (by first | exact Nat.le_refl _ | (simp; done) | (simp; omega) | omega) _) | (with_reducible refine Ext.trans ?_ (by assumption)))))).mono ?_); rintro e w' ⟨rfl, hx1⟩)
        (go_wp2_with fail; (with_reducible refine (HB _ ((by repeat' (first | (with_reducible exact Ext.refl _) | (with_reducible assumption) | (with_reducible refine Ext.alloc ?_ _) | (with_reducible refine Ext.drew ?_) | (with_reducible refine Ext.drewN ?_ _) | (with_reducible refine Ext.setCell ?_ (by first | exact Nat.le_refl _ | (simp; done) | (simp; omega) | omega) _) | (with_reducible refine Ext.trans ?_ (by assumption)))))).mono ?_); rintro e w' ⟨rfl, hx2⟩)
        (go_wp2_with fail; (with_reducible refine (HD _ ((by repeat' (first | (with_reducible exact Ext.refl _) | (with_reducible assumption) | (with_reducible refine Ext.alloc ?_ _) | (with_reducible refine Ext.drew ?_) | (with_reducible refine Ext.drewN ?_ _) | (with_reducible refine Ext.setCell ?_ (by first | exact Nat.le_refl _ | (simp; done) | (simp; omega) | omega) _) | (with_reducible refine Ext.trans ?_ (by assumption)))))).mono ?_); rintro e w' ⟨nv, rfl, hno, hx3⟩)
        have hO1 := hO.keep ((hx1.trans hx2).trans hx3)
        obtain ⟨A5, C5, rfl, _, _⟩ := own_form hno
        clear hno HA HB HD hx1 hx2 hx3 hO
        (go_wp2_with fail; (with_reducible refine (HS _ hO1).mono ?_); rintro e w2 ⟨rfl, hx2⟩)
        have hO2 := hO1.keep hx2
        clear hO1 HS hx2
        (go_wp2_with fail; (with_reducible refine (add_calls _ _ _).mono ?_); rintro e w5 ⟨rfl, rfl⟩)
        unfold retIB
        have hOz := Lib.hid hO2.ext
        clear hO2
        (go_wp2_with fail; (with_reducible refine (wakes09_calls _).mono ?_); rintro e w' ⟨rfl, hx3⟩)
        go_wp2
        go_ret
        exact ⟨rfl, hE9.out.trans (hOz.out.trans ((by repeat' (first | (with_reducible exact Ext.refl _) | (with_reducible assumption) | (with_reducible refine Ext.alloc ?_ _) | (with_reducible refine Ext.drew ?_) | (with_reducible refine Ext.drewN ?_ _) | (with_reducible refine Ext.setCell ?_ (by first | exact Nat.le_refl _ | (simp; done) | (simp; omega) | omega) _) | (with_reducible refine Ext.trans ?_ (by assumption))))))⟩
      · rw [hy] at HB HS
        clear hy
        have hg2 : pairK addS ⟨0, false, 0⟩ ⟨0, false, 0⟩ = ⟨0, false, 0⟩ := rfl
        rw [hg2] at HS
        clear hg2
        (go_wp2_with fail; (with_reducible refine (HA _ ((by repeat' (first | (with_reducible exact Ext.refl _) | (with_reducible assumption) | (with_reducible refine Ext.alloc ?_ _) | (with_reducible refine Ext.drew ?_) | (with_reducible refine Ext.drewN ?_ _) | (with_reducible refine Ext.setCell ?_ (by first | exact Nat.le_refl _ | (simp; done) | (simp; omega) | omega) _) | (with_reducible refine Ext.trans ?_ (by assumption)))))).mono ?_); rintro e w' ⟨rfl, hx1⟩)
        (go_wp2_with fail; (with_reducible refine (HB _ ((by repeat' (first | (with_reducible exact Ext.refl _) | (with_reducible assumption) | (with_reducible refine Ext.alloc ?_ _) | (with_reducible refine Ext.drew ?_) | (with_reducible refine Ext.drewN ?_ _) | (with_reducible refine Ext.setCell ?_ (by first | exact Nat.le_refl _ | (simp; done) | (simp; omega) | omega) _) | (with_reducible refine Ext.trans ?_ (by assumption)))))).mono ?_); rintro e w' ⟨rfl, hx2⟩)
        (go_wp2_with fail; (with_reducible refine (HD _ ((by repeat' (first | (with_reducible exact Ext.refl _) | (with_reducible assumption) | (with_reducible refine Ext.alloc ?_ _) | (with_reducible refine Ext.drew ?_) | (with_reducible refine Ext.drewN ?_ _) | (with_reducible refine Ext.setCell ?_ (by first | exact Nat.le_refl _ | (simp; done) | (simp; omega) | omega) _) | (with_reducible refine Ext.trans ?_ (by assumption)))))).mono ?_); rintro e w' ⟨nv, rfl, hno, hx3⟩)
        have hO1 := hO.keep ((hx1.trans hx2).trans hx3)
        obtain ⟨A5, C5, rfl, _, _⟩ := own_form hno
        clear hno HA HB HD hx1 hx2 hx3 hO
        (go_wp2_with fail; (with_reducible refine (HS _ hO1).mono ?_); rintro e w2 ⟨rfl, hx2⟩)
        have hO2 := hO1.keep hx2
        clear hO1 HS hx2
        (go_wp2_with fail; (with_reducible refine (add_calls _ _ _).mono ?_); rintro e w5 ⟨rfl, rfl⟩)
        unfold retIB
        have hOz := Lib.hid hO2.ext
        clear hO2
        (go_wp2_with fail; (with_reducible refine (wakes09_calls _).mono ?_); rintro e w' ⟨rfl, hx3⟩)
        go_wp2
        go_ret
        exact ⟨rfl, hE9.out.trans (hOz.out.trans ((by repeat' (first | (with_reducible exact Ext.refl _) | (with_reducible assumption) | (with_reducible refine Ext.alloc ?_ _) | (with_reducible refine Ext.drew ?_) | (with_reducible refine Ext.drewN ?_ _) | (with_reducible refine Ext.setCell ?_ (by first | exact Nat.le_refl _ | (simp; done) | (simp; omega) | omega) _) | (with_reducible refine Ext.trans ?_ (by assumption))))))⟩
      · rw [hy] at HB HS
        clear hy
        have hg2 : pairK addS ⟨0, false, 0⟩ ⟨0, false, 6⟩ = ⟨0, false, 6⟩ := rfl
        rw [hg2] at HS
        clear hg2
        (go_wp2_with fail; (with_reducible refine (HA _ ((by repeat' (first | (with_reducible exact Ext.refl _) | (with_reducible assumption) | (with_reducible refine Ext.alloc ?_ _) | (with_reducible refine Ext.drew ?_) | (with_reducible refine Ext.drewN ?_ _) | (with_reducible refine Ext.setCell ?_ (by first | exact Nat.le_refl _ | (simp; done) | (simp; omega) | omega) _) | (with_reducible refine Ext.trans ?_ (by assumption)))))).mono ?_); rintro e w' ⟨rfl, hx1⟩)
        (go_wp2_with fail; (with_reducible refine (HB _ ((by repeat' (first | (with_reducible exact Ext.refl _) | (with_reducible assumption) | (with_reducible refine Ext.alloc ?_ _) | (with_reducible refine Ext.drew ?_) | (with_reducible refine Ext.drewN ?_ _) | (with_reducible refine Ext.setCell ?_ (by first | exact Nat.le_refl _ | (simp; done) | (simp; omega) | omega) _) | (with_reducible refine Ext.trans ?_ (by assumption)))))).mono ?_); rintro e w' ⟨rfl, hx2⟩)
        (go_wp2_with fail; (with_reducible refine (HD _ ((by repeat' (first | (with_reducible exact Ext.refl _) | (with_reducible assumption) | (with_reducible refine Ext.alloc ?_ _) | (with_reducible refine Ext.drew ?_) | (with_reducible refine Ext.drewN ?_ _) | (with_reducible refine Ext.setCell ?_ (by first | exact Nat.le_refl _ | (simp; done) | (simp; omega) | omega) _) | (with_reducible refine Ext.trans ?_ (by assumption)))))).mono ?_); rintro e w' ⟨nv, rfl, hno, hx3⟩)
        have hO1 := hO.keep ((hx1.trans hx2).trans hx3)
        obtain ⟨A5, C5, rfl, _, _⟩ := own_form hno
        clear hno HA HB HD hx1 hx2 hx3 hO
        (go_wp2_with fail; (with_reducible refine (HS _ hO1).mono ?_); rintro e w2 ⟨rfl, hx2⟩)
        have hO2 := hO1.keep hx2
        clear hO1 HS hx2
        (go_wp2_with fail; (with_reducible refine (add_calls _ _ _).mono ?_); rintro e w5 ⟨rfl, rfl⟩)
        unfold retIB
        have hOz := Lib.hid hO2.ext
        clear hO2
        (go_wp2_with fail; (with_reducible refine (wakes09_calls _).mono ?_); rintro e w' ⟨rfl, hx3⟩)
        go_wp2
        go_ret
        exact ⟨rfl, hE9.out.trans (hOz.out.trans ((by repeat' (first | (with_reducible exact Ext.refl _) | (with_reducible assumption) | (with_reducible refine Ext.alloc ?_ _) | (with_reducible refine Ext.drew ?_) | (with_reducible refine Ext.drewN ?_ _) | (with_reducible refine Ext.setCell ?_ (by first | exact Nat.le_refl _ | (simp; done) | (simp; omega) | omega) _) | (with_reducible refine Ext.trans ?_ (by assumption))))))⟩
    · rw [hx] at HA HS
      clear hx HC HN HM HD
      rcases hy with ⟨yn, hy⟩ | hy | hy
      · rw [hy] at HB HS
        clear hy
        have hg2 : pairK addS ⟨0, false, 6⟩ ⟨yn, true, 0⟩ = ⟨0, false, 6⟩ := rfl
        rw [hg2] at HS
        clear hg2
        (go_wp2_with fail; (with_reducible refine (HA _ ((by repeat' (first | (with_reducible exact Ext.refl _) | (with_reducible assumption) | (with_reducible refine Ext.alloc ?_ _) | (with_reducible refine Ext.drew ?_) | (with_reducible refine Ext.drewN ?_ _) | (with_reducible refine Ext.setCell ?_ (by first | exact Nat.le_refl _ | (simp; done) | (simp; omega) | omega) _) | (with_reducible refine Ext.trans ?_ (by assumption)))))).mono ?_); rintro e w' ⟨rfl, hx1⟩)
        (go_wp2_with fail; (with_reducible refine (HB _ ((by repeat' (first | (with_reducible exact Ext.refl _) | (with_reducible assumption) | (with_reducible refine Ext.alloc ?_ _) | (with_reducible refine Ext.drew ?_) | (with_reducible refine Ext.drewN ?_ _) | (with_reducible refine Ext.setCell ?_ (by first | exact Nat.le_refl _ | (simp; done) | (simp; omega) | omega) _) | (with_reducible refine Ext.trans ?_ (by assumption)))))).mono ?_); rintro e w' ⟨rfl, hx2⟩)
        have hO1 := hO.keep (hx1.trans hx2)
        clear HA HB hx1 hx2 hO
        (go_wp2_with fail; (with_reducible refine (HS _ hO1).mono ?_); rintro e w2 ⟨rfl, hx2⟩)
        have hO2 := hO1.keep hx2
        clear hO1 HS hx2
        (go_wp2_with fail; (with_reducible refine (add_calls _ _ _).mono ?_); rintro e w5 ⟨rfl, rfl⟩)
        unfold retIB
        have hOz := Lib.hid hO2.ext
        clear hO2
        (go_wp2_with fail; (with_reducible refine (wakes09_calls _).mono ?_); rintro e w' ⟨rfl, hx3⟩)
        go_wp2
        go_ret
        exact ⟨rfl, hE9.out.trans (hOz.out.trans ((by repeat' (first | (with_reducible exact Ext.refl _) | (with_reducible assumption) | (with_reducible refine Ext.alloc ?_ _) | (with_reducible refine Ext.drew ?_) | (with_reducible refine Ext.drewN ?_ _) | (with_reducible refine Ext.setCell ?_ (by first | exact Nat.le_refl _ | (simp; done) | (simp; omega) | omega) _) | (with_reducible refine Ext.trans ?_ (by assumption))))))⟩
      · rw [hy] at HB HS
        clear hy
        have hg2 : pairK addS ⟨0, false, 6⟩ ⟨0, false, 0⟩ = ⟨0, false, 6⟩ := rfl
        rw [hg2] at HS
        clear hg2
        (go_wp2_with fail; (with_reducible refine (HA _ ((by repeat' (first | (with_reducible exact Ext.refl _) | (with_reducible assumption) | (with_reducible refine Ext.alloc ?_ _) | (with_reducible refine Ext.drew ?_) | (with_reducible refine Ext.drewN ?_ _) | (with_reducible refine Ext.setCell ?_ (by first | exact Nat.le_refl _ | (simp; done) | (simp; omega) | omega) _) | (with_reducible refine Ext.trans ?_ (by assumption)))))).mono ?_); rintro e w' ⟨rfl, hx1⟩)
        (go_wp2_with fail; (with_reducible refine (HB _ ((by repeat' (first | (with_reducible exact Ext.refl _) | (with_reducible assumption) | (with_reducible refine Ext.alloc ?_ _) | (with_reducible refine Ext.drew ?_) | (with_reducible refine Ext.drewN ?_ _) | (with_reducible refine Ext.setCell ?_ (by first | exact Nat.le_refl _ | (simp; done) | (simp; omega) | omega) _) | (with_reducible refine Ext.trans ?_ (by assumption)))))).mono ?_); rintro e w' ⟨rfl, hx2⟩)
        have hO1 := hO.keep (hx1.trans hx2)
        clear HA HB hx1 hx2 hO
        (go_wp2_with fail; (with_reducible refine (HS _ hO1).mono ?_); rintro e w2 ⟨rfl, hx2⟩)
        have hO2 := hO1.keep hx2
        clear hO1 HS hx2
        (go_wp2_with fail; (with_reducible refine (add_calls _ _ _).mono ?_); rintro e w5 ⟨rfl, rfl⟩)
        unfold retIB
        have hOz := Lib.hid hO2.ext
        clear hO2
        (go_wp2_with fail; (with_reducible refine (wakes09_calls _).mono ?_); rintro e w' ⟨rfl, hx3⟩)
        go_wp2
        go_ret
        exact ⟨rfl, hE9.out.trans (hOz.out.trans ((by repeat' (first | (with_reducible exact Ext.refl _) | (with_reducible assumption) | (with_reducible refine Ext.alloc ?_ _) | (with_reducible refine Ext.drew ?_) | (with_reducible refine Ext.drewN ?_ _) | (with_reducible refine Ext.setCell ?_ (by first | exact Nat.le_refl _ | (simp; done) | (simp; omega) | omega) _) | (with_reducible refine Ext.trans ?_ (by assumption))))))⟩
      · rw [hy] at HB HS
        clear hy
        have hg2 : pairK addS ⟨0, false, 6⟩ ⟨0, false, 6⟩ = ⟨0, false, 6⟩ := rfl
        rw [hg2] at HS
        clear hg2
        (go_wp2_with fail; (with_reducible refine (HA _ ((by repeat' (first | (with_reducible exact Ext.refl _) | (with_reducible assumption) | (with_reducible refine Ext.alloc ?_ _) | (with_reducible refine Ext.drew ?_) | (with_reducible refine Ext.drewN ?_ _) | (with_reducible refine Ext.setCell ?_ (by first | exact Nat.le_refl _ | (simp; done) | (simp; omega) | omega) _) | (with_reducible refine Ext.trans ?_ (by assumption)))))).mono ?_); rintro e w' ⟨rfl, hx1⟩)
        (go_wp2_with fail; (with_reducible refine (HB _ ((by repeat' (first | (with_reducible exact Ext.refl _) | (with_reducible assumption) | (with_reducible refine Ext.alloc ?_ _) | (with_reducible refine Ext.drew ?_) | (with_reducible refine Ext.drewN ?_ _) | (with_reducible refine Ext.setCell ?_ (by first | exact Nat.le_refl _ | (simp; done) | (simp; omega) | omega) _) | (with_reducible refine Ext.trans ?_ (by assumption)))))).mono ?_); rintro e w' ⟨rfl, hx2⟩)
        have hO1 := hO.keep (hx1.trans hx2)
        clear HA HB hx1 hx2 hO
        (go_wp2_with fail; (with_reducible refine (HS _ hO1).mono ?_); rintro e w2 ⟨rfl, hx2⟩)
        have hO2 := hO1.keep hx2
        clear hO1 HS hx2
        (go_wp2_with fail; (with_reducible refine (add_calls _ _ _).mono ?_); rintro e w5 ⟨rfl, rfl⟩)
        unfold retIB
        have hOz := Lib.hid hO2.ext
        clear hO2
        (go_wp2_with fail; (with_reducible refine (wakes09_calls _).mono ?_); rintro e w' ⟨rfl, hx3⟩)
        go_wp2
        go_ret
        exact ⟨rfl, hE9.out.trans (hOz.out.trans ((by repeat' (first | (with_reducible exact Ext.refl _) | (with_reducible assumption) | (with_reducible refine Ext.alloc ?_ _) | (with_reducible refine Ext.drew ?_) | (with_reducible refine Ext.drewN ?_ _) | (with_reducible refine Ext.setCell ?_ (by first | exact Nat.le_refl _ | (simp; done) | (simp; omega) | omega) _) | (with_reducible refine Ext.trans ?_ (by assumption))))))⟩

end Go.Proofs.Ytgjjngkmbplijaa
