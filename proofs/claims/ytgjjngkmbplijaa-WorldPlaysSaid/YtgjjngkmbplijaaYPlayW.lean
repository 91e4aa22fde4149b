/- Package handfastlaw08: an act's name and day, an act played in both worlds. Printed by wip/src/mkplayw.py. -/
import Derived.Test.YtgjjngkmbplijaaYActs
import Derived.Test.YtgjjngkmbplijaaZRw
import Derived.Test.YtgjjngkmbplijaaYLaw04
import Derived.Test.YtgjjngkmbplijaaZMk
import Derived.Deep.CutRange

namespace Go.Proofs.Ytgjjngkmbplijaa
open Go.RowKit
set_option linter.unusedSimpArgs false
set_option linter.unusedVariables false

def Ac.nm (x : Ac) (n : Int) : ByteArray := if n.tmod 17 = 16 then x.w.extract 0 (min x.w.size 16) else nameB ⟨#[110]⟩ n 4
def Ac.dayV (x : Ac) : Int := if x.day.tmod 13 = 12 then x.day else x.day % 5
theorem nameB_size (s : ByteArray) (n k : Int) : (nameB s n k).size = s.size + 1 := by
  unfold nameB
  rw [ByteArray.size_append]
  rfl
theorem Ac.nm_size (x : Ac) (n : Int) : (x.nm n).size ≤ 16 := by
  unfold Ac.nm
  split
  · simp; omega
  · rw [nameB_size]; decide
set_option maxRecDepth 100000 in
set_option maxHeartbeats 400000 in
theorem acname_calls (x : Ac) (n : Int) (w : World) (hx : x.ok) (h1 : -9223372036854775808 ≤ n) (h2 : n ≤ 9223372036854775807) :
    Calls Try.prog 43 #[x.val, .int .i64 n] w fun e w' => e = .returned (.string (x.nm n)) ∧ Ext w w' := by
  have HT := fun W => text_calls x.w 16 W hx.w (by omega)
  rw [show ((16 : Nat) : Int) = 16 from rfl] at HT
  have HN := fun W => kname_calls ⟨#[110]⟩ n 4 W (by decide) h1 h2 (by decide)
  unfold Ac.val
  by_cases h : n.tmod 17 = 16
  · have hR := Lib.hid (show x.nm n = x.w.extract 0 (min x.w.size 16) by unfold Ac.nm; rw [if_pos h])
    have hb : (n.tmod 17 == 16) = true := by simpa using h
    generalize x.nm n = z at *
    clear h hx HN h1 h2
    go_enter Try.func43, Try.ntmps43
    (go_wp2_with fail; (with_reducible refine (HT _).mono ?_); rintro e w' ⟨rfl, rfl⟩)
    go_wp2
    apply bodyPost_ret
    · exact results_tmp rfl _ _ _
    · rfl
    exact ⟨by rw [hR.out]; rfl, (by repeat' (first | (with_reducible exact Ext.refl _) | (with_reducible assumption) | (with_reducible refine Ext.alloc ?_ _) | (with_reducible refine Ext.drew ?_) | (with_reducible refine Ext.drewN ?_ _) | (with_reducible refine Ext.setCell ?_ (by first | exact Nat.le_refl _ | (simp; done) | (simp; omega) | omega) _) | (with_reducible refine Ext.trans ?_ (by assumption))))⟩
  · have hR := Lib.hid (show x.nm n = nameB ⟨#[110]⟩ n 4 by unfold Ac.nm; rw [if_neg h])
    have hb : (n.tmod 17 == 16) = false := by simpa using h
    generalize x.nm n = z at *
    generalize nameB ⟨#[110]⟩ n 4 = y at *
    clear h hx HT h1 h2
    go_enter Try.func43, Try.ntmps43
    (go_wp2_with fail; (with_reducible refine (HN _).mono ?_); rintro e w' ⟨rfl, hx4⟩)
    go_wp2
    apply bodyPost_ret
    · exact results_tmp rfl _ _ _
    · rfl
    exact ⟨by rw [hR.out]; rfl, (by repeat' (first | (with_reducible exact Ext.refl _) | (with_reducible assumption) | (with_reducible refine Ext.alloc ?_ _) | (with_reducible refine Ext.drew ?_) | (with_reducible refine Ext.drewN ?_ _) | (with_reducible refine Ext.setCell ?_ (by first | exact Nat.le_refl _ | (simp; done) | (simp; omega) | omega) _) | (with_reducible refine Ext.trans ?_ (by assumption))))⟩
set_option maxRecDepth 100000 in
set_option maxHeartbeats 400000 in
theorem acday_calls (x : Ac) (w : World) (hx : x.ok) :
    Calls Try.prog 94 #[x.val] w fun e w' => e = .returned (.int .i64 x.dayV) ∧ Ext w w' := by
  have hb := i64_of hx.day
  have HT := fun W => within_calls x.day 5 W (by omega) (by omega) hb.1 hb.2
  unfold Ac.val
  by_cases h : x.day.tmod 13 = 12
  · have hR := Lib.hid (show x.dayV = x.day by unfold Ac.dayV; rw [if_pos h])
    have hb : (x.day.tmod 13 == 12) = true := by simpa using h
    generalize x.dayV = z at *
    clear h hx HT
    go_enter Try.func94, Try.ntmps94
    go_wp2
    apply bodyPost_ret
    · exact results_tmp rfl _ _ _
    · rfl
    exact ⟨by rw [hR.out]; rfl, (by repeat' (first | (with_reducible exact Ext.refl _) | (with_reducible assumption) | (with_reducible refine Ext.alloc ?_ _) | (with_reducible refine Ext.drew ?_) | (with_reducible refine Ext.drewN ?_ _) | (with_reducible refine Ext.setCell ?_ (by first | exact Nat.le_refl _ | (simp; done) | (simp; omega) | omega) _) | (with_reducible refine Ext.trans ?_ (by assumption))))⟩
  · have hR := Lib.hid (show x.dayV = x.day % 5 by unfold Ac.dayV; rw [if_neg h])
    have hb : (x.day.tmod 13 == 12) = false := by simpa using h
    generalize x.dayV = z at *
    clear h hx
    go_enter Try.func94, Try.ntmps94
    (go_wp2_with fail; (with_reducible refine (HT _).mono ?_); rintro e w' ⟨rfl, rfl⟩)
    go_wp2
    apply bodyPost_ret
    · exact results_tmp rfl _ _ _
    · rfl
    exact ⟨by rw [hR.out]; rfl, (by repeat' (first | (with_reducible exact Ext.refl _) | (with_reducible assumption) | (with_reducible refine Ext.alloc ?_ _) | (with_reducible refine Ext.drew ?_) | (with_reducible refine Ext.drewN ?_ _) | (with_reducible refine Ext.setCell ?_ (by first | exact Nat.le_refl _ | (simp; done) | (simp; omega) | omega) _) | (with_reducible refine Ext.trans ?_ (by assumption))))⟩

/-- Two operations turn the world, the one x, the other y; none of the others does. -/
def GG (i j : Nat) (S : Bool → Bool → World → Prop) (l : Array Bool) (W : World) : Prop := S (l.getD i false) (l.getD j false) W
section
variable {i j m n : Nat} {S : Bool → Bool → World → Prop} {l : Array Bool} {W W2 : World} {y : Bool}
theorem getD_other {l : Array Bool} (h : m ≠ i) : (l.setIfInBounds m true).getD i false = l.getD i false := by
  rw [Bool.eq_iff_iff]
  exact ⟨fun e => Dn.set e h, Dn.keep⟩
theorem not_dn {l : Array Bool} {i : Nat} (h : ¬ Dn l i) : l.getD i false = false := by
  cases e : l.getD i false with
  | false => rfl
  | true => exact absurd e h
theorem GG.start (h : S false false W) : GG i j S (Array.replicate n false) W := by
  have e : ∀ k, (Array.replicate n false).getD k false = false := fun k => not_dn (dn_none n k)
  unfold GG
  rw [e, e]
  exact h
theorem GG.keep (h : GG i j S l W) (hi : m ≠ i) (hj : m ≠ j) : GG i j S (l.setIfInBounds m true) W := by
  unfold GG at *
  rw [getD_other hi, getD_other hj]
  exact h
theorem GG.imp (h : GG i j S l W) (hS : ∀ x y, S x y W → S x y W2) : GG i j S l W2 := hS _ _ h
theorem GG.at1 (h : GG i j S l W) (hn : ¬ Dn l i) : S false (l.getD j false) W := by
  unfold GG at h
  rwa [show l.getD i false = false from not_dn hn] at h
theorem GG.at2 (h : GG i j S l W) (hn : ¬ Dn l j) : S (l.getD i false) false W := by
  unfold GG at h
  rwa [show l.getD j false = false from not_dn hn] at h
theorem GG.go1 (hs : i < l.size) (hij : i ≠ j) (h : S true (l.getD j false) W) : GG i j S (l.setIfInBounds i true) W := by
  unfold GG
  rw [getD_other hij, show (l.setIfInBounds i true).getD i false = true from Dn.of_true hs]
  exact h
theorem GG.go2 (hs : j < l.size) (hij : j ≠ i) (h : S (l.getD i false) true W) : GG i j S (l.setIfInBounds j true) W := by
  unfold GG
  rw [getD_other hij, show (l.setIfInBounds j true).getD j false = true from Dn.of_true hs]
  exact h
theorem GG.fin (h : GG i j S l W) (h1 : Dn l i) (h2 : Dn l j) : S true true W := by
  unfold GG at h
  rwa [show l.getD i false = true from h1, show l.getD j false = true from h2] at h
end

/-- Both worlds, the code's turned (x), the document's turned (y); a block of another one's as it was. -/
def PlS (x y : Bool) (w0 W : World) (p f c q : Nat) (F F' : FixL) (C C' : ChL) (B : Nat) (o : Obj) : Prop :=
  ∃ v1 v2, Two w0 W p f c (if x = true then F' else F) (if x = true then C' else C) q v1 v2 (if y = true then F' else F) (if y = true then C' else C) ∧ v1.ownBlock ≠ some B ∧ v2.ownBlock ≠ some B ∧ W.heap[B]? = some o ∧ B ≠ p ∧ B ≠ f ∧ B ≠ c ∧ B ≠ q
section
variable {x y : Bool} {w0 W W2 : World} {p f c q : Nat} {F F' : FixL} {C C' : ChL} {B : Nat} {o : Obj}
theorem PlS.ext (h : PlS x y w0 W p f c q F F' C C' B o) (hx : Ext W W2) : PlS x y w0 W2 p f c q F F' C C' B o := by
  obtain ⟨v1, v2, hT, h1, h2, hb, h3⟩ := h
  exact ⟨v1, v2, hT.ext hx, h1, h2, by rw [hx.block (lt_of_obj hb)]; exact hb, h3⟩
theorem PlS.step {row : Nat} (hr : row = f ∨ row = c) (h : PlS false y w0 W p f c q F F' C C' B o) (hW : Wld W2 p f c F' C') (hg : W.grownBy W2 (some row)) : PlS true y w0 W2 p f c q F F' C C' B o := by
  obtain ⟨v1, v2, hT, h1, h2, hb, b1, b2, b3, b4⟩ := h
  refine ⟨v1, v2, hT.step hr hW hg, h1, h2, ?_, b1, b2, b3, b4⟩
  rw [hg.block B (lt_of_obj hb) (fun e => by injection e with e; rcases hr with rfl | rfl <;> contradiction)]
  exact hb
theorem PlS.moved (h : PlS x false w0 W p f c q F F' C C' B o) : ∃ v1 v2, Two w0 W p f c (if x = true then F' else F) (if x = true then C' else C) q v1 v2 F C ∧
    ∀ u1 u2 W2, RWld w0.heap.size W2 q u1 u2 F' C' → Moved W W2 q v1 v2 u1 u2 → PlS x true w0 W2 p f c q F F' C C' B o := by
  obtain ⟨v1, v2, hT, h1, h2, hb, b1, b2, b3, b4⟩ := h
  refine ⟨v1, v2, hT, fun u1 u2 W2 hR hM => ⟨u1, u2, hT.moved hR hM, ?_, ?_, ?_, b1, b2, b3, b4⟩⟩
  · rcases hM.r1 with e | ⟨g, e, hg⟩ <;> rw [e]
    · exact h1
    · have := lt_of_obj hb; intro e2; injection e2 with e2; omega
  · rcases hM.r2 with e | ⟨g, e, hg⟩ <;> rw [e]
    · exact h2
    · have := lt_of_obj hb; intro e2; injection e2 with e2; omega
  · rw [hM.block B (lt_of_obj hb) b4 h1 h2]; exact hb
theorem pl_fix (s : ByteArray) (d v : Int) (h : PlS false y w0 W p f c q F (fixNew F s d v) C C B o) :
    Calls Try.prog 35 #[.pointer (some ⟨p, 0, none⟩), .string s, .int .i64 d, .int .i64 v] W fun e W2 => e = .returned (.int .i64 (fixRes F s d v)) ∧ PlS true y w0 W2 p f c q F (fixNew F s d v) C C B o := by
  have hW : Wld W p f c F C := by obtain ⟨v1, v2, hT, _⟩ := h; exact hT.a.wld
  exact (fix_calls p f c F C s d v W hW).mono fun e W2 ⟨he, hW2, hg⟩ => ⟨he, h.step (.inl rfl) hW2 hg⟩
theorem pl_choose (s t : ByteArray) (k d : Int) (h : PlS false y w0 W p f c q F F C (chNew C s t k d) B o) :
    Calls Try.prog 36 #[.pointer (some ⟨p, 0, none⟩), .string s, .string t, .int .i64 k, .int .i64 d] W fun e W2 => e = .returned (.int .i64 (chRes C s t k d)) ∧ PlS true y w0 W2 p f c q F F C (chNew C s t k d) B o := by
  have hW : Wld W p f c F C := by obtain ⟨v1, v2, hT, _⟩ := h; have := hT.a.wld; simpa using this
  exact (choose_calls p f c F C s t k d W hW).mono fun e W2 ⟨he, hW2, hg⟩ => ⟨he, h.step (.inr rfl) hW2 hg⟩
theorem pl_rfix (s : ByteArray) (d v : Int) (h : PlS x false w0 W p f c q F (fixNew F s d v) C C B o) (hs : s.size ≤ 1000) (hl : F.length ≤ 1000) :
    Calls Try.prog 96 #[.pointer (some ⟨q, 0, none⟩), .string s, .int .i64 d, .int .i64 v] W fun e W2 => e = .returned (.int .i64 (fixRes F s d v)) ∧ PlS x true w0 W2 p f c q F (fixNew F s d v) C C B o :=
  let ⟨v1, v2, hT, hk⟩ := h.moved
  (rfix_calls _ W q v1 v2 F C s d v hT.b hT.a.ext.le hs hl).mono fun e W2 ⟨u1, u2, he, hR, hM⟩ => ⟨he, hk u1 u2 W2 hR hM⟩
theorem pl_rchoose (s t : ByteArray) (k d : Int) (h : PlS x false w0 W p f c q F F C (chNew C s t k d) B o) (hs : s.size ≤ 1000) (ht : t.size ≤ 1000) (hl : C.length ≤ 1000) :
    Calls Try.prog 95 #[.pointer (some ⟨q, 0, none⟩), .string s, .string t, .int .i64 k, .int .i64 d] W fun e W2 => e = .returned (.int .i64 (chRes C s t k d)) ∧ PlS x true w0 W2 p f c q F F C (chNew C s t k d) B o :=
  let ⟨v1, v2, hT, hk⟩ := h.moved
  (rchoose_calls _ W q v1 v2 F C s t k d hT.b hT.a.ext.le hs ht hl).mono fun e W2 ⟨u1, u2, he, hR, hM⟩ => ⟨he, hk u1 u2 W2 hR hM⟩
/-- At the beginning: a new block. -/
theorem Two.pls {v1 v2 : Value} (h : Two w0 W p f c F C q v1 v2 F C) (o : Obj) : PlS false false w0 (W.alloc o) p f c q F F' C C' W.heap.size o := by
  obtain ⟨l1, l2, l3⟩ := h.a.wld.lts
  have l4 := h.b.lt
  refine ⟨v1, v2, h.ext ((Ext.refl _).alloc _), fun e => ?_, fun e => ?_, heap_alloc_new _ _, by omega, by omega, by omega, by omega⟩
  · have := (h.b.fl.lt _ e).2; omega
  · have := (h.b.ch.lt _ e).2; omega
theorem PlS.cells {i j : Nat} {l : Array Bool} {ch : Bool} {aa ab ad av : Int} {aw : ByteArray} (h : GG i j (fun x y W => PlS x y w0 W p f c q F F' C C' B (.cells #[.bool ch, .int .i64 aa, .int .i64 ab, .int .i64 ad, .int .i64 av, .string aw] 47)) l W) :
    W.cell? ⟨B, 0, none⟩ = some (.bool ch) ∧ W.cell? ⟨B, 1, none⟩ = some (.int .i64 aa) ∧ W.cell? ⟨B, 2, none⟩ = some (.int .i64 ab) ∧ W.cell? ⟨B, 3, none⟩ = some (.int .i64 ad) ∧ W.cell? ⟨B, 4, none⟩ = some (.int .i64 av) ∧ W.cell? ⟨B, 5, none⟩ = some (.string aw) := by
  obtain ⟨v1, v2, hT, h1, h2, hb, h3⟩ := h
  obtain ⟨k, _, _⟩ := obj_cells hb
  exact ⟨k 0 _ rfl, k 1 _ rfl, k 2 _ rfl, k 3 _ rfl, k 4 _ rfl, k 5 _ rfl⟩
end
def acF (x : Ac) (F : FixL) : FixL := if x.ch = true then F else fixNew F (x.nm x.a) x.dayV x.v
def acC (x : Ac) (C : ChL) : ChL := if x.ch = true then chNew C (x.nm x.a) (x.nm x.b) (x.v % 3) x.dayV else C

set_option maxRecDepth 100000 in
set_option maxHeartbeats 3200000 in
theorem play_calls (x : Ac) (w0 w : World) (p f c q : Nat) (F : FixL) (C : ChL) (v1 v2 : Value) (h : Two w0 w p f c F C q v1 v2 F C) (hx : x.ok) (hF : F.length ≤ 900) (hC : C.length ≤ 900) :
    Calls Try.prog 42 #[.pointer (some ⟨p, 0, none⟩), .pointer (some ⟨q, 0, none⟩), x.val] w fun e w' => e = .returned (.bool true) ∧ ∃ u1 u2, Two w0 w' p f c (acF x F) (acC x C) q u1 u2 (acF x F) (acC x C) := by
  have ha := i64_of hx.a
  have hb := i64_of hx.b
  have hv := i64_of hx.v
  have NA := fun W => acname_calls x x.a W hx ha.1 ha.2
  have NB := fun W => acname_calls x x.b W hx hb.1 hb.2
  have ND := fun W => acday_calls x W hx
  have HW := fun W => within_calls x.v 3 W (by omega) (by omega) hv.1 hv.2
  have za := Nat.le_trans (x.nm_size x.a) (by omega : 16 ≤ 1000)
  have zb := Nat.le_trans (x.nm_size x.b) (by omega : 16 ≤ 1000)
  cases hch : x.ch with
  | true =>
    have eF : acF x F = F := by unfold acF; rw [if_pos hch]
    have eC : acC x C = chNew C (x.nm x.a) (x.nm x.b) (x.v % 3) x.dayV := by unfold acC; rw [if_pos hch]
    rw [eF, eC]
    have H1 := fun (W : World) (B : Nat) (o : Obj) (y : Bool) (hS : PlS false y w0 W p f c q F F C (chNew C (x.nm x.a) (x.nm x.b) (x.v % 3) x.dayV) B o) => pl_choose _ _ _ _ hS
    have H2 := fun (W : World) (B : Nat) (o : Obj) (y : Bool) (hS : PlS y false w0 W p f c q F F C (chNew C (x.nm x.a) (x.nm x.b) (x.v % 3) x.dayV) B o) => pl_rchoose _ _ _ _ hS za zb (by omega)
    have hT0 := fun (o : Obj) => h.pls (F' := F) (C' := chNew C (x.nm x.a) (x.nm x.b) (x.v % 3) x.dayV) o
    unfold Ac.val at *
    rw [hch] at NA NB ND ⊢
    clear eF eC h hx hF hC ha hb hv za zb hch
    generalize chNew C (x.nm x.a) (x.nm x.b) (x.v % 3) x.dayV = C' at *
    generalize chRes C (x.nm x.a) (x.nm x.b) (x.v % 3) x.dayV = r at *
    generalize x.nm x.a = sa at *
    generalize x.nm x.b = sb at *
    generalize x.dayV = dd at *
    generalize x.v % 3 = pk at *
    generalize x.a = aa at *
    generalize x.b = ab at *
    generalize x.day = ad at *
    generalize x.v = av at *
    generalize x.w = aw at *
    obtain ⟨F', rfl⟩ : ∃ F', F' = F := ⟨F, rfl⟩
    go_enter Try.func42, Try.ntmps42
    (go_wp2_with fail; (with_reducible refine (HW _).mono ?_); rintro e w' ⟨rfl, rfl⟩)
    go_upto_region 3 with fail
    replace hT0 := hT0 (.cells #[.bool true, .int .i64 aa, .int .i64 ab, .int .i64 ad, .int .i64 av, .string aw] 47)
    generalize hB : w.heap.size = B at *
    generalize w.alloc (.cells #[.bool true, .int .i64 aa, .int .i64 ab, .int .i64 ad, .int .i64 av, .string aw] 47) = X at *
    clear hB HW
    refine wp_region_slots 27 [0, 1, 2, 3, 4, 5, 6, 7, 8, 9, 10, 11, 12, 13, 14, 15, 16, 17, 18, 19, 20, 21, 22, 23, 24, 25, 26] _ [13, 14, 15, 16, 17, 18, 19, 20, 21, 22, 23, 24, 25, 26, 27, 28, 29, 30, 31, 32, 33, 34, 35, 36, 37, 38, 39] (fun i _ u => u = ([.pointer (some ⟨p, 0, none⟩), .agg #[.bool true, .int .i64 aa, .int .i64 ab, .int .i64 ad, .int .i64 av, .string aw], .pointer (some ⟨B, 1, none⟩), .int .i64 aa, .string sa, .agg #[.bool true, .int .i64 aa, .int .i64 ab, .int .i64 ad, .int .i64 av, .string aw], .pointer (some ⟨B, 2, none⟩), .int .i64 ab, .string sb, .int .i64 pk, .agg #[.bool true, .int .i64 aa, .int .i64 ab, .int .i64 ad, .int .i64 av, .string aw], .int .i64 dd, .int .i64 r, .pointer (some ⟨q, 0, none⟩), .agg #[.bool true, .int .i64 aa, .int .i64 ab, .int .i64 ad, .int .i64 av, .string aw], .pointer (some ⟨B, 1, none⟩), .int .i64 aa, .string sa, .agg #[.bool true, .int .i64 aa, .int .i64 ab, .int .i64 ad, .int .i64 av, .string aw], .pointer (some ⟨B, 2, none⟩), .int .i64 ab, .string sb, .int .i64 pk, .agg #[.bool true, .int .i64 aa, .int .i64 ab, .int .i64 ad, .int .i64 av, .string aw], .int .i64 dd, .int .i64 r, .bool true] : List Value).getD i undef) (GG 12 25 (fun x y W => PlS x y w0 W p f c q F' F' C C' B (.cells #[.bool true, .int .i64 aa, .int .i64 ab, .int .i64 ad, .int .i64 av, .string aw] 47))) (by kernel_rfl) rfl (by kernel_rfl) (by kernel_rfl) rfl rfl rfl (by decide +kernel) rfl ?_ ?_ ?_
    · exact GG.start (PlS.ext hT0 (Ext.refl _).drew)
    · refine slots_cons rfl ?_ (slots_cons rfl ?_ (slots_cons rfl ?_ (slots_cons rfl ?_ (slots_cons rfl ?_ (slots_cons rfl ?_ (slots_cons rfl ?_ (slots_cons rfl ?_ (slots_cons rfl ?_ (slots_cons rfl ?_ (slots_cons rfl ?_ (slots_cons rfl ?_ (slots_cons rfl ?_ (slots_cons rfl ?_ (slots_cons rfl ?_ (slots_cons rfl ?_ (slots_cons rfl ?_ (slots_cons rfl ?_ (slots_cons rfl ?_ (slots_cons rfl ?_ (slots_cons rfl ?_ (slots_cons rfl ?_ (slots_cons rfl ?_ (slots_cons rfl ?_ (slots_cons rfl ?_ (slots_cons rfl ?_ (slots_cons rfl ?_ slots_nil))))))))))))))))))))))))))
      · intro l a W hs ho hG hd hne K' hK
        have b0 : a.tmps[0]?.getD undef = .pointer (some ⟨p, 0, none⟩) := ho.ev 0 rfl
        clear hd ho hne
        go_simp
        exact hK _ _ (by first | rfl | simp) (hG.keep (by decide) (by decide)) (fun j' v' _ hf => hf)
      · intro l a W hs ho hG hd hne K' hK
        have b5 : a.tmps[5]?.getD undef = .pointer (some ⟨B, 0, none⟩) := ho.ev 5 rfl
        obtain ⟨z0, z1, z2, z3, z4, z5⟩ := PlS.cells hG
        clear hd ho hne
        go_simp
        exact hK _ _ (by first | rfl | simp) (hG.keep (by decide) (by decide)) (fun j' v' _ hf => hf)
      · intro l a W hs ho hG hd hne K' hK
        have b5 : a.tmps[5]?.getD undef = .pointer (some ⟨B, 0, none⟩) := ho.ev 5 rfl
        clear hd ho hne
        go_simp
        exact hK _ _ (by first | rfl | simp) (hG.keep (by decide) (by decide)) (fun j' v' _ hf => hf)
      · intro l a W hs ho hG hd hne K' hK
        have e2 : a.tmps[15]?.getD undef = .pointer (some ⟨B, 1, none⟩) := hd ⟨2, .data⟩ (by simp) rfl
        obtain ⟨z0, z1, z2, z3, z4, z5⟩ := PlS.cells hG
        clear hd ho hne
        go_simp
        exact hK _ _ (by first | rfl | simp) (hG.keep (by decide) (by decide)) (fun j' v' _ hf => hf)
      · intro l a W hs ho hG hd hne K' hK
        have e1 : a.tmps[14]?.getD undef = .agg #[.bool true, .int .i64 aa, .int .i64 ab, .int .i64 ad, .int .i64 av, .string aw] := hd ⟨1, .data⟩ (by simp) rfl
        have e3 : a.tmps[16]?.getD undef = .int .i64 aa := hd ⟨3, .data⟩ (by simp) rfl
        clear hd ho hne
        go_simp
        go_at_call 43
        (with_reducible refine (NA W).mono ?_)
        rintro e W2 ⟨rfl, hx4⟩
        go_simp
        exact hK _ _ (by first | rfl | simp) (GG.keep (hG.imp fun x y h => PlS.ext h hx4) (by decide) (by decide)) (fun j' v' _ hf => hf)
      · intro l a W hs ho hG hd hne K' hK
        have b5 : a.tmps[5]?.getD undef = .pointer (some ⟨B, 0, none⟩) := ho.ev 5 rfl
        obtain ⟨z0, z1, z2, z3, z4, z5⟩ := PlS.cells hG
        clear hd ho hne
        go_simp
        exact hK _ _ (by first | rfl | simp) (hG.keep (by decide) (by decide)) (fun j' v' _ hf => hf)
      · intro l a W hs ho hG hd hne K' hK
        have b5 : a.tmps[5]?.getD undef = .pointer (some ⟨B, 0, none⟩) := ho.ev 5 rfl
        clear hd ho hne
        go_simp
        exact hK _ _ (by first | rfl | simp) (hG.keep (by decide) (by decide)) (fun j' v' _ hf => hf)
      · intro l a W hs ho hG hd hne K' hK
        have e6 : a.tmps[19]?.getD undef = .pointer (some ⟨B, 2, none⟩) := hd ⟨6, .data⟩ (by simp) rfl
        obtain ⟨z0, z1, z2, z3, z4, z5⟩ := PlS.cells hG
        clear hd ho hne
        go_simp
        exact hK _ _ (by first | rfl | simp) (hG.keep (by decide) (by decide)) (fun j' v' _ hf => hf)
      · intro l a W hs ho hG hd hne K' hK
        have e5 : a.tmps[18]?.getD undef = .agg #[.bool true, .int .i64 aa, .int .i64 ab, .int .i64 ad, .int .i64 av, .string aw] := hd ⟨5, .data⟩ (by simp) rfl
        have e7 : a.tmps[20]?.getD undef = .int .i64 ab := hd ⟨7, .data⟩ (by simp) rfl
        clear hd ho hne
        go_simp
        go_at_call 43
        (with_reducible refine (NB W).mono ?_)
        rintro e W2 ⟨rfl, hx4⟩
        go_simp
        exact hK _ _ (by first | rfl | simp) (GG.keep (hG.imp fun x y h => PlS.ext h hx4) (by decide) (by decide)) (fun j' v' _ hf => hf)
      · intro l a W hs ho hG hd hne K' hK
        have b7 : a.tmps[7]?.getD undef = .int .i64 pk := ho.ev 7 rfl
        clear hd ho hne
        go_simp
        exact hK _ _ (by first | rfl | simp) (hG.keep (by decide) (by decide)) (fun j' v' _ hf => hf)
      · intro l a W hs ho hG hd hne K' hK
        have b5 : a.tmps[5]?.getD undef = .pointer (some ⟨B, 0, none⟩) := ho.ev 5 rfl
        obtain ⟨z0, z1, z2, z3, z4, z5⟩ := PlS.cells hG
        clear hd ho hne
        go_simp
        exact hK _ _ (by first | rfl | simp) (hG.keep (by decide) (by decide)) (fun j' v' _ hf => hf)
      · intro l a W hs ho hG hd hne K' hK
        have e10 : a.tmps[23]?.getD undef = .agg #[.bool true, .int .i64 aa, .int .i64 ab, .int .i64 ad, .int .i64 av, .string aw] := hd ⟨10, .data⟩ (by simp) rfl
        clear hd ho hne
        go_simp
        go_at_call 94
        (with_reducible refine (ND W).mono ?_)
        rintro e W2 ⟨rfl, hx4⟩
        go_simp
        exact hK _ _ (by first | rfl | simp) (GG.keep (hG.imp fun x y h => PlS.ext h hx4) (by decide) (by decide)) (fun j' v' _ hf => hf)
      · intro l a W hs ho hG hd hne K' hK
        have e0 : a.tmps[13]?.getD undef = .pointer (some ⟨p, 0, none⟩) := hd ⟨0, .data⟩ (by simp) rfl
        have e4 : a.tmps[17]?.getD undef = .string sa := hd ⟨4, .data⟩ (by simp) rfl
        have e8 : a.tmps[21]?.getD undef = .string sb := hd ⟨8, .data⟩ (by simp) rfl
        have e9 : a.tmps[22]?.getD undef = .int .i64 pk := hd ⟨9, .data⟩ (by simp) rfl
        have e11 : a.tmps[24]?.getD undef = .int .i64 dd := hd ⟨11, .data⟩ (by simp) rfl
        have hls : 12 < l.size := by rw [hs]; decide
        have hne2 := hne
        clear hd ho
        go_simp
        have hy := GG.at1 hG hne2
        go_at_call 36
        (with_reducible refine (H1 _ _ _ _ hy).mono ?_)
        rintro e W2 ⟨rfl, hT2⟩
        go_simp
        exact hK _ _ (by first | rfl | simp) (GG.go1 hls (by decide) hT2) (fun j' v' _ hf => hf)
      · intro l a W hs ho hG hd hne K' hK
        have b1 : a.tmps[1]?.getD undef = .pointer (some ⟨q, 0, none⟩) := ho.ev 1 rfl
        clear hd ho hne
        go_simp
        exact hK _ _ (by first | rfl | simp) (hG.keep (by decide) (by decide)) (fun j' v' _ hf => hf)
      · intro l a W hs ho hG hd hne K' hK
        have b5 : a.tmps[5]?.getD undef = .pointer (some ⟨B, 0, none⟩) := ho.ev 5 rfl
        obtain ⟨z0, z1, z2, z3, z4, z5⟩ := PlS.cells hG
        clear hd ho hne
        go_simp
        exact hK _ _ (by first | rfl | simp) (hG.keep (by decide) (by decide)) (fun j' v' _ hf => hf)
      · intro l a W hs ho hG hd hne K' hK
        have b5 : a.tmps[5]?.getD undef = .pointer (some ⟨B, 0, none⟩) := ho.ev 5 rfl
        clear hd ho hne
        go_simp
        exact hK _ _ (by first | rfl | simp) (hG.keep (by decide) (by decide)) (fun j' v' _ hf => hf)
      · intro l a W hs ho hG hd hne K' hK
        have e15 : a.tmps[28]?.getD undef = .pointer (some ⟨B, 1, none⟩) := hd ⟨15, .data⟩ (by simp) rfl
        obtain ⟨z0, z1, z2, z3, z4, z5⟩ := PlS.cells hG
        clear hd ho hne
        go_simp
        exact hK _ _ (by first | rfl | simp) (hG.keep (by decide) (by decide)) (fun j' v' _ hf => hf)
      · intro l a W hs ho hG hd hne K' hK
        have e14 : a.tmps[27]?.getD undef = .agg #[.bool true, .int .i64 aa, .int .i64 ab, .int .i64 ad, .int .i64 av, .string aw] := hd ⟨14, .data⟩ (by simp) rfl
        have e16 : a.tmps[29]?.getD undef = .int .i64 aa := hd ⟨16, .data⟩ (by simp) rfl
        clear hd ho hne
        go_simp
        go_at_call 43
        (with_reducible refine (NA W).mono ?_)
        rintro e W2 ⟨rfl, hx4⟩
        go_simp
        exact hK _ _ (by first | rfl | simp) (GG.keep (hG.imp fun x y h => PlS.ext h hx4) (by decide) (by decide)) (fun j' v' _ hf => hf)
      · intro l a W hs ho hG hd hne K' hK
        have b5 : a.tmps[5]?.getD undef = .pointer (some ⟨B, 0, none⟩) := ho.ev 5 rfl
        obtain ⟨z0, z1, z2, z3, z4, z5⟩ := PlS.cells hG
        clear hd ho hne
        go_simp
        exact hK _ _ (by first | rfl | simp) (hG.keep (by decide) (by decide)) (fun j' v' _ hf => hf)
      · intro l a W hs ho hG hd hne K' hK
        have b5 : a.tmps[5]?.getD undef = .pointer (some ⟨B, 0, none⟩) := ho.ev 5 rfl
        clear hd ho hne
        go_simp
        exact hK _ _ (by first | rfl | simp) (hG.keep (by decide) (by decide)) (fun j' v' _ hf => hf)
      · intro l a W hs ho hG hd hne K' hK
        have e19 : a.tmps[32]?.getD undef = .pointer (some ⟨B, 2, none⟩) := hd ⟨19, .data⟩ (by simp) rfl
        obtain ⟨z0, z1, z2, z3, z4, z5⟩ := PlS.cells hG
        clear hd ho hne
        go_simp
        exact hK _ _ (by first | rfl | simp) (hG.keep (by decide) (by decide)) (fun j' v' _ hf => hf)
      · intro l a W hs ho hG hd hne K' hK
        have e18 : a.tmps[31]?.getD undef = .agg #[.bool true, .int .i64 aa, .int .i64 ab, .int .i64 ad, .int .i64 av, .string aw] := hd ⟨18, .data⟩ (by simp) rfl
        have e20 : a.tmps[33]?.getD undef = .int .i64 ab := hd ⟨20, .data⟩ (by simp) rfl
        clear hd ho hne
        go_simp
        go_at_call 43
        (with_reducible refine (NB W).mono ?_)
        rintro e W2 ⟨rfl, hx4⟩
        go_simp
        exact hK _ _ (by first | rfl | simp) (GG.keep (hG.imp fun x y h => PlS.ext h hx4) (by decide) (by decide)) (fun j' v' _ hf => hf)
      · intro l a W hs ho hG hd hne K' hK
        have b7 : a.tmps[7]?.getD undef = .int .i64 pk := ho.ev 7 rfl
        clear hd ho hne
        go_simp
        exact hK _ _ (by first | rfl | simp) (hG.keep (by decide) (by decide)) (fun j' v' _ hf => hf)
      · intro l a W hs ho hG hd hne K' hK
        have b5 : a.tmps[5]?.getD undef = .pointer (some ⟨B, 0, none⟩) := ho.ev 5 rfl
        obtain ⟨z0, z1, z2, z3, z4, z5⟩ := PlS.cells hG
        clear hd ho hne
        go_simp
        exact hK _ _ (by first | rfl | simp) (hG.keep (by decide) (by decide)) (fun j' v' _ hf => hf)
      · intro l a W hs ho hG hd hne K' hK
        have e23 : a.tmps[36]?.getD undef = .agg #[.bool true, .int .i64 aa, .int .i64 ab, .int .i64 ad, .int .i64 av, .string aw] := hd ⟨23, .data⟩ (by simp) rfl
        clear hd ho hne
        go_simp
        go_at_call 94
        (with_reducible refine (ND W).mono ?_)
        rintro e W2 ⟨rfl, hx4⟩
        go_simp
        exact hK _ _ (by first | rfl | simp) (GG.keep (hG.imp fun x y h => PlS.ext h hx4) (by decide) (by decide)) (fun j' v' _ hf => hf)
      · intro l a W hs ho hG hd hne K' hK
        have e13 : a.tmps[26]?.getD undef = .pointer (some ⟨q, 0, none⟩) := hd ⟨13, .data⟩ (by simp) rfl
        have e17 : a.tmps[30]?.getD undef = .string sa := hd ⟨17, .data⟩ (by simp) rfl
        have e21 : a.tmps[34]?.getD undef = .string sb := hd ⟨21, .data⟩ (by simp) rfl
        have e22 : a.tmps[35]?.getD undef = .int .i64 pk := hd ⟨22, .data⟩ (by simp) rfl
        have e24 : a.tmps[37]?.getD undef = .int .i64 dd := hd ⟨24, .data⟩ (by simp) rfl
        have hls : 25 < l.size := by rw [hs]; decide
        have hne2 := hne
        clear hd ho
        go_simp
        have hy := GG.at2 hG hne2
        go_at_call 95
        (with_reducible refine (H2 _ _ _ _ hy).mono ?_)
        rintro e W2 ⟨rfl, hT2⟩
        go_simp
        exact hK _ _ (by first | rfl | simp) (GG.go2 hls (by decide) hT2) (fun j' v' _ hf => hf)
      · intro l a W hs ho hG hd hne K' hK
        have e12 : a.tmps[25]?.getD undef = .int .i64 r := hd ⟨12, .data⟩ (by simp) rfl
        have e25 : a.tmps[38]?.getD undef = .int .i64 r := hd ⟨25, .data⟩ (by simp) rfl
        clear hd ho hne
        go_simp
        exact hK _ _ (by first | rfl | simp) (hG.keep (by decide) (by decide)) (fun j' v' _ hf => hf)
    · intro l a W ho hG hall hF K' hK
      have e26 : a.tmps[39]?.getD undef = .bool true := hF 26 (by omega)
      have hsz : 6 < a.tmps.size := by rw [ho.size]; exact (by decide : 6 < 61)
      have hdf : a.defers = [] := ho.defers
      have hfin := GG.fin hG (hall 12 (by omega)) (hall 25 (by omega))
      clear ho hG hall hF
      go_simp
      refine hK _ _ ?_
      go_wp2
      refine bodyPost_ret (w := _) (a := _) (R := _) (results_tmp rfl _ _ _) (by first | exact hdf | rfl) ?_
      exact ⟨by simp [hsz], by obtain ⟨u1, u2, hT, _⟩ := hfin; exact ⟨u1, u2, hT⟩⟩
  | false =>
    have eF : acF x F = fixNew F (x.nm x.a) x.dayV x.v := by unfold acF; rw [if_neg (by rw [hch]; decide)]
    have eC : acC x C = C := by unfold acC; rw [if_neg (by rw [hch]; decide)]
    rw [eF, eC]
    have H1 := fun (W : World) (B : Nat) (o : Obj) (y : Bool) (hS : PlS false y w0 W p f c q F (fixNew F (x.nm x.a) x.dayV x.v) C C B o) => pl_fix _ _ _ hS
    have H2 := fun (W : World) (B : Nat) (o : Obj) (y : Bool) (hS : PlS y false w0 W p f c q F (fixNew F (x.nm x.a) x.dayV x.v) C C B o) => pl_rfix _ _ _ hS za (by omega)
    have hT0 := fun (o : Obj) => h.pls (F' := fixNew F (x.nm x.a) x.dayV x.v) (C' := C) o
    unfold Ac.val at *
    rw [hch] at NA NB ND ⊢
    clear eF eC h hx hF hC ha hb hv za zb hch HW
    generalize fixNew F (x.nm x.a) x.dayV x.v = F' at *
    generalize fixRes F (x.nm x.a) x.dayV x.v = r at *
    generalize x.nm x.a = sa at *
    generalize x.nm x.b = sb at *
    generalize x.dayV = dd at *
    generalize x.a = aa at *
    generalize x.b = ab at *
    generalize x.day = ad at *
    generalize x.v = av at *
    generalize x.w = aw at *
    obtain ⟨C', rfl⟩ : ∃ C', C' = C := ⟨C, rfl⟩
    go_enter Try.func42, Try.ntmps42
    go_upto_region 4 with fail
    replace hT0 := hT0 (.cells #[.bool false, .int .i64 aa, .int .i64 ab, .int .i64 ad, .int .i64 av, .string aw] 47)
    generalize hB : w.heap.size = B at *
    generalize w.alloc (.cells #[.bool false, .int .i64 aa, .int .i64 ab, .int .i64 ad, .int .i64 av, .string aw] 47) = X at *
    clear hB
    refine wp_region_slots 21 [0, 1, 2, 3, 4, 5, 6, 7, 8, 9, 10, 11, 12, 13, 14, 15, 16, 17, 18, 19, 20] _ [40, 41, 42, 43, 44, 45, 46, 47, 48, 49, 50, 51, 52, 53, 54, 55, 56, 57, 58, 59, 60] (fun i _ u => u = ([.pointer (some ⟨p, 0, none⟩), .agg #[.bool false, .int .i64 aa, .int .i64 ab, .int .i64 ad, .int .i64 av, .string aw], .pointer (some ⟨B, 1, none⟩), .int .i64 aa, .string sa, .agg #[.bool false, .int .i64 aa, .int .i64 ab, .int .i64 ad, .int .i64 av, .string aw], .int .i64 dd, .pointer (some ⟨B, 4, none⟩), .int .i64 av, .int .i64 r, .pointer (some ⟨q, 0, none⟩), .agg #[.bool false, .int .i64 aa, .int .i64 ab, .int .i64 ad, .int .i64 av, .string aw], .pointer (some ⟨B, 1, none⟩), .int .i64 aa, .string sa, .agg #[.bool false, .int .i64 aa, .int .i64 ab, .int .i64 ad, .int .i64 av, .string aw], .int .i64 dd, .pointer (some ⟨B, 4, none⟩), .int .i64 av, .int .i64 r, .bool true] : List Value).getD i undef) (GG 9 19 (fun x y W => PlS x y w0 W p f c q F F' C' C' B (.cells #[.bool false, .int .i64 aa, .int .i64 ab, .int .i64 ad, .int .i64 av, .string aw] 47))) (by kernel_rfl) rfl (by kernel_rfl) (by kernel_rfl) rfl rfl rfl (by decide +kernel) rfl ?_ ?_ ?_
    · exact GG.start (PlS.ext hT0 (Ext.refl _).drew)
    · refine slots_cons rfl ?_ (slots_cons rfl ?_ (slots_cons rfl ?_ (slots_cons rfl ?_ (slots_cons rfl ?_ (slots_cons rfl ?_ (slots_cons rfl ?_ (slots_cons rfl ?_ (slots_cons rfl ?_ (slots_cons rfl ?_ (slots_cons rfl ?_ (slots_cons rfl ?_ (slots_cons rfl ?_ (slots_cons rfl ?_ (slots_cons rfl ?_ (slots_cons rfl ?_ (slots_cons rfl ?_ (slots_cons rfl ?_ (slots_cons rfl ?_ (slots_cons rfl ?_ (slots_cons rfl ?_ slots_nil))))))))))))))))))))
      · intro l a W hs ho hG hd hne K' hK
        have b0 : a.tmps[0]?.getD undef = .pointer (some ⟨p, 0, none⟩) := ho.ev 0 rfl
        clear hd ho hne
        go_simp
        exact hK _ _ (by first | rfl | simp) (hG.keep (by decide) (by decide)) (fun j' v' _ hf => hf)
      · intro l a W hs ho hG hd hne K' hK
        have b5 : a.tmps[5]?.getD undef = .pointer (some ⟨B, 0, none⟩) := ho.ev 5 rfl
        obtain ⟨z0, z1, z2, z3, z4, z5⟩ := PlS.cells hG
        clear hd ho hne
        go_simp
        exact hK _ _ (by first | rfl | simp) (hG.keep (by decide) (by decide)) (fun j' v' _ hf => hf)
      · intro l a W hs ho hG hd hne K' hK
        have b5 : a.tmps[5]?.getD undef = .pointer (some ⟨B, 0, none⟩) := ho.ev 5 rfl
        clear hd ho hne
        go_simp
        exact hK _ _ (by first | rfl | simp) (hG.keep (by decide) (by decide)) (fun j' v' _ hf => hf)
      · intro l a W hs ho hG hd hne K' hK
        have e2 : a.tmps[42]?.getD undef = .pointer (some ⟨B, 1, none⟩) := hd ⟨2, .data⟩ (by simp) rfl
        obtain ⟨z0, z1, z2, z3, z4, z5⟩ := PlS.cells hG
        clear hd ho hne
        go_simp
        exact hK _ _ (by first | rfl | simp) (hG.keep (by decide) (by decide)) (fun j' v' _ hf => hf)
      · intro l a W hs ho hG hd hne K' hK
        have e1 : a.tmps[41]?.getD undef = .agg #[.bool false, .int .i64 aa, .int .i64 ab, .int .i64 ad, .int .i64 av, .string aw] := hd ⟨1, .data⟩ (by simp) rfl
        have e3 : a.tmps[43]?.getD undef = .int .i64 aa := hd ⟨3, .data⟩ (by simp) rfl
        clear hd ho hne
        go_simp
        go_at_call 43
        (with_reducible refine (NA W).mono ?_)
        rintro e W2 ⟨rfl, hx4⟩
        go_simp
        exact hK _ _ (by first | rfl | simp) (GG.keep (hG.imp fun x y h => PlS.ext h hx4) (by decide) (by decide)) (fun j' v' _ hf => hf)
      · intro l a W hs ho hG hd hne K' hK
        have b5 : a.tmps[5]?.getD undef = .pointer (some ⟨B, 0, none⟩) := ho.ev 5 rfl
        obtain ⟨z0, z1, z2, z3, z4, z5⟩ := PlS.cells hG
        clear hd ho hne
        go_simp
        exact hK _ _ (by first | rfl | simp) (hG.keep (by decide) (by decide)) (fun j' v' _ hf => hf)
      · intro l a W hs ho hG hd hne K' hK
        have e5 : a.tmps[45]?.getD undef = .agg #[.bool false, .int .i64 aa, .int .i64 ab, .int .i64 ad, .int .i64 av, .string aw] := hd ⟨5, .data⟩ (by simp) rfl
        clear hd ho hne
        go_simp
        go_at_call 94
        (with_reducible refine (ND W).mono ?_)
        rintro e W2 ⟨rfl, hx4⟩
        go_simp
        exact hK _ _ (by first | rfl | simp) (GG.keep (hG.imp fun x y h => PlS.ext h hx4) (by decide) (by decide)) (fun j' v' _ hf => hf)
      · intro l a W hs ho hG hd hne K' hK
        have b5 : a.tmps[5]?.getD undef = .pointer (some ⟨B, 0, none⟩) := ho.ev 5 rfl
        clear hd ho hne
        go_simp
        exact hK _ _ (by first | rfl | simp) (hG.keep (by decide) (by decide)) (fun j' v' _ hf => hf)
      · intro l a W hs ho hG hd hne K' hK
        have e7 : a.tmps[47]?.getD undef = .pointer (some ⟨B, 4, none⟩) := hd ⟨7, .data⟩ (by simp) rfl
        obtain ⟨z0, z1, z2, z3, z4, z5⟩ := PlS.cells hG
        clear hd ho hne
        go_simp
        exact hK _ _ (by first | rfl | simp) (hG.keep (by decide) (by decide)) (fun j' v' _ hf => hf)
      · intro l a W hs ho hG hd hne K' hK
        have e0 : a.tmps[40]?.getD undef = .pointer (some ⟨p, 0, none⟩) := hd ⟨0, .data⟩ (by simp) rfl
        have e4 : a.tmps[44]?.getD undef = .string sa := hd ⟨4, .data⟩ (by simp) rfl
        have e6 : a.tmps[46]?.getD undef = .int .i64 dd := hd ⟨6, .data⟩ (by simp) rfl
        have e8 : a.tmps[48]?.getD undef = .int .i64 av := hd ⟨8, .data⟩ (by simp) rfl
        have hls : 9 < l.size := by rw [hs]; decide
        have hne2 := hne
        clear hd ho
        go_simp
        have hy := GG.at1 hG hne2
        go_at_call 35
        (with_reducible refine (H1 _ _ _ _ hy).mono ?_)
        rintro e W2 ⟨rfl, hT2⟩
        go_simp
        exact hK _ _ (by first | rfl | simp) (GG.go1 hls (by decide) hT2) (fun j' v' _ hf => hf)
      · intro l a W hs ho hG hd hne K' hK
        have b1 : a.tmps[1]?.getD undef = .pointer (some ⟨q, 0, none⟩) := ho.ev 1 rfl
        clear hd ho hne
        go_simp
        exact hK _ _ (by first | rfl | simp) (hG.keep (by decide) (by decide)) (fun j' v' _ hf => hf)
      · intro l a W hs ho hG hd hne K' hK
        have b5 : a.tmps[5]?.getD undef = .pointer (some ⟨B, 0, none⟩) := ho.ev 5 rfl
        obtain ⟨z0, z1, z2, z3, z4, z5⟩ := PlS.cells hG
        clear hd ho hne
        go_simp
        exact hK _ _ (by first | rfl | simp) (hG.keep (by decide) (by decide)) (fun j' v' _ hf => hf)
      · intro l a W hs ho hG hd hne K' hK
        have b5 : a.tmps[5]?.getD undef = .pointer (some ⟨B, 0, none⟩) := ho.ev 5 rfl
        clear hd ho hne
        go_simp
        exact hK _ _ (by first | rfl | simp) (hG.keep (by decide) (by decide)) (fun j' v' _ hf => hf)
      · intro l a W hs ho hG hd hne K' hK
        have e12 : a.tmps[52]?.getD undef = .pointer (some ⟨B, 1, none⟩) := hd ⟨12, .data⟩ (by simp) rfl
        obtain ⟨z0, z1, z2, z3, z4, z5⟩ := PlS.cells hG
        clear hd ho hne
        go_simp
        exact hK _ _ (by first | rfl | simp) (hG.keep (by decide) (by decide)) (fun j' v' _ hf => hf)
      · intro l a W hs ho hG hd hne K' hK
        have e11 : a.tmps[51]?.getD undef = .agg #[.bool false, .int .i64 aa, .int .i64 ab, .int .i64 ad, .int .i64 av, .string aw] := hd ⟨11, .data⟩ (by simp) rfl
        have e13 : a.tmps[53]?.getD undef = .int .i64 aa := hd ⟨13, .data⟩ (by simp) rfl
        clear hd ho hne
        go_simp
        go_at_call 43
        (with_reducible refine (NA W).mono ?_)
        rintro e W2 ⟨rfl, hx4⟩
        go_simp
        exact hK _ _ (by first | rfl | simp) (GG.keep (hG.imp fun x y h => PlS.ext h hx4) (by decide) (by decide)) (fun j' v' _ hf => hf)
      · intro l a W hs ho hG hd hne K' hK
        have b5 : a.tmps[5]?.getD undef = .pointer (some ⟨B, 0, none⟩) := ho.ev 5 rfl
        obtain ⟨z0, z1, z2, z3, z4, z5⟩ := PlS.cells hG
        clear hd ho hne
        go_simp
        exact hK _ _ (by first | rfl | simp) (hG.keep (by decide) (by decide)) (fun j' v' _ hf => hf)
      · intro l a W hs ho hG hd hne K' hK
        have e15 : a.tmps[55]?.getD undef = .agg #[.bool false, .int .i64 aa, .int .i64 ab, .int .i64 ad, .int .i64 av, .string aw] := hd ⟨15, .data⟩ (by simp) rfl
        clear hd ho hne
        go_simp
        go_at_call 94
        (with_reducible refine (ND W).mono ?_)
        rintro e W2 ⟨rfl, hx4⟩
        go_simp
        exact hK _ _ (by first | rfl | simp) (GG.keep (hG.imp fun x y h => PlS.ext h hx4) (by decide) (by decide)) (fun j' v' _ hf => hf)
      · intro l a W hs ho hG hd hne K' hK
        have b5 : a.tmps[5]?.getD undef = .pointer (some ⟨B, 0, none⟩) := ho.ev 5 rfl
        clear hd ho hne
        go_simp
        exact hK _ _ (by first | rfl | simp) (hG.keep (by decide) (by decide)) (fun j' v' _ hf => hf)
      · intro l a W hs ho hG hd hne K' hK
        have e17 : a.tmps[57]?.getD undef = .pointer (some ⟨B, 4, none⟩) := hd ⟨17, .data⟩ (by simp) rfl
        obtain ⟨z0, z1, z2, z3, z4, z5⟩ := PlS.cells hG
        clear hd ho hne
        go_simp
        exact hK _ _ (by first | rfl | simp) (hG.keep (by decide) (by decide)) (fun j' v' _ hf => hf)
      · intro l a W hs ho hG hd hne K' hK
        have e10 : a.tmps[50]?.getD undef = .pointer (some ⟨q, 0, none⟩) := hd ⟨10, .data⟩ (by simp) rfl
        have e14 : a.tmps[54]?.getD undef = .string sa := hd ⟨14, .data⟩ (by simp) rfl
        have e16 : a.tmps[56]?.getD undef = .int .i64 dd := hd ⟨16, .data⟩ (by simp) rfl
        have e18 : a.tmps[58]?.getD undef = .int .i64 av := hd ⟨18, .data⟩ (by simp) rfl
        have hls : 19 < l.size := by rw [hs]; decide
        have hne2 := hne
        clear hd ho
        go_simp
        have hy := GG.at2 hG hne2
        go_at_call 96
        (with_reducible refine (H2 _ _ _ _ hy).mono ?_)
        rintro e W2 ⟨rfl, hT2⟩
        go_simp
        exact hK _ _ (by first | rfl | simp) (GG.go2 hls (by decide) hT2) (fun j' v' _ hf => hf)
      · intro l a W hs ho hG hd hne K' hK
        have e9 : a.tmps[49]?.getD undef = .int .i64 r := hd ⟨9, .data⟩ (by simp) rfl
        have e19 : a.tmps[59]?.getD undef = .int .i64 r := hd ⟨19, .data⟩ (by simp) rfl
        clear hd ho hne
        go_simp
        exact hK _ _ (by first | rfl | simp) (hG.keep (by decide) (by decide)) (fun j' v' _ hf => hf)
    · intro l a W ho hG hall hF K' hK
      have e20 : a.tmps[60]?.getD undef = .bool true := hF 20 (by omega)
      have hsz : 6 < a.tmps.size := by rw [ho.size]; exact (by decide : 6 < 61)
      have hdf : a.defers = [] := ho.defers
      have hfin := GG.fin hG (hall 9 (by omega)) (hall 19 (by omega))
      clear ho hG hall hF
      go_simp
      refine hK _ _ ?_
      go_wp2
      refine bodyPost_ret (w := _) (a := _) (R := _) (results_tmp rfl _ _ _) (by first | exact hdf | rfl) ?_
      exact ⟨by simp [hsz], by obtain ⟨u1, u2, hT, _⟩ := hfin; exact ⟨u1, u2, hT⟩⟩

end Go.Proofs.Ytgjjngkmbplijaa
