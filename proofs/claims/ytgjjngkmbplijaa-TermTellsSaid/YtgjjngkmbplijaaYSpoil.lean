/- Package play: a tree spoilt at a place (spoil). -/
import Derived.Test.YtgjjngkmbplijaaYRowL
import Derived.Test.YtgjjngkmbplijaaYSpd
import Derived.Test.YtgjjngkmbplijaaYRef5
import Derived.Test.YtgjjngkmbplijaaZVa

namespace Go.Proofs.Ytgjjngkmbplijaa
open Go.RowKit
set_option linter.unusedSimpArgs false
set_option linter.unusedVariables false

theorem results_cell_tmp {P : Program} {fn : Func} {p s : Tmp} {ty : TypeId} (h : fn.results = #[.cell p ty, .tmp s]) (tmps : Array Value) (w : World) (g : Nat) (t : TypeId) (cs : Array Value) (fr : Nat × Nat) (d : TypeDesc)
    (hp : tmps.getD p undef = .pointer (some ⟨g, 0, none⟩)) (hg : w.heap[g]? = some (.cells cs t fr))
    (hu : P.underlying ty = some d) (hd : (match d with | .struct _ | .array _ _ => true | _ => false) = true) (hi : (P.info? ty).map (·.size) = some cs.size) :
    (results fn tmps).run P w = .ok (.tuple #[.agg cs, tmps.getD s undef]) w := by
  have hp' : tmps[p]?.getD undef = .pointer (some ⟨g, 0, none⟩) := by simpa using hp
  simp [results, h, hp', asAddr, run_loadVar_row w g t ty cs fr d hg hu hd hi]
theorem put4_at2 {w2 : World} {b : Nat} (hF : Four w2 b) (t : HT) (fn : Func) (tmps : Array Value) (k s : Nat) (v : Value) (hr : fn.results = #[.cell k 76, .tmp s]) (ht : tmps.getD k undef = .pointer (some ⟨b, 0, none⟩)) (hs : tmps.getD s undef = v) :
    (results fn tmps).run Try.prog (put4 w2 b t.kd t.s t.n (.slice t.a t.k.length t.c)) = .ok (.tuple #[t.val, v]) (put4 w2 b t.kd t.s t.n (.slice t.a t.k.length t.c)) := by
  rw [← hs]
  exact results_cell_tmp hr tmps _ b _ _ _ _ ht (hF.put _ _ _ _) Try.underlying76 rfl (by kernel_rfl)
theorem res_sp {w : World} {A : Obj} (u : HT) (tmps : Array Value) (b : Int) (hp : tmps.getD 10 undef = .pointer (some ⟨w.heap.size + 1, 0, none⟩)) (hs : tmps.getD 11 undef = .int .i64 b) :
    (results Try.f134 tmps).run Try.prog ((w.alloc A).alloc (.cells #[.int .i64 u.kd, .string u.s, .int .i64 u.n, .slice u.a u.k.length u.c] 76)) =
      .ok (.tuple #[u.val, .int .i64 b]) ((w.alloc A).alloc (.cells #[.int .i64 u.kd, .string u.s, .int .i64 u.n, .slice u.a u.k.length u.c] 76)) := by
  rw [← hs]
  exact results_cell_tmp rfl tmps _ (w.heap.size + 1) _ _ _ _ hp (heap_alloc2_new w _ _) Try.underlying76 rfl (by kernel_rfl)
theorem elemTr : Elem Try.prog 74 76 4 56 := elem_of (z := .agg #[.int .i64 0, .string ⟨#[]⟩, .int .i64 0, .slice none 0 0]) (by kernel_rfl) (by kernel_rfl) rfl (by omega)
theorem everyL_len (l : List Tr) : l.length ≤ Tr.everyLenL l := by
  induction l with
  | nil => exact Nat.le_refl _
  | cons x r ih => cases x; simp only [Tr.everyLenL, Tr.everyLen, List.length_cons]; omega
theorem HT.len_every (h : HT) : h.k.length < h.tr.everyLen := by
  have := everyL_len (h.k.map HT.tr)
  rw [HT.tr_eq, Tr.everyLen]
  simp only [List.length_map] at this
  omega
/-- A spoilt tree comes back, and the place that is left; nothing that was there has turned. -/
def RetSp (q : Nat → Prop) (w : World) (at0 : Int) (t : Tr) (e : Ending) (w' : World) : Prop :=
  ∃ (u : HT) (b : Int), e = .returned (.tuple #[u.val, .int .i64 b]) ∧ Spd t u.tr ∧ -1 ≤ b ∧ b ≤ at0 ∧ u.InE (fun y => (q y ∨ w.heap.size ≤ y) ∧ y < w'.heap.size) w' ∧ Ext w w'
theorem HT.InE.again {q : Nat → Prop} {w : World} {h : HT} (hi : h.InE q w) (kd : Int) (s : ByteArray) (n : Int) : (HT.mk kd s n h.a h.c h.k).InE q w := by
  cases hi with
  | mk _ _ _ a c k h1 h2 h3 h4 h5 => exact .mk _ _ _ _ _ _ h1 h2 h3 h4 h5
theorem cellsL_one' : ∀ (l : List HT), ∀ u ∈ cellsL l, u.oneCell' = true
  | [], _, h => by cases h
  | x :: r, u, h => by
    simp only [cellsL, HT.cells, List.mem_append, List.mem_cons, List.not_mem_nil, or_false] at h
    rcases h with (rfl | rfl | rfl | rfl) | h
    · rfl
    · rfl
    · rfl
    · rfl
    · exact cellsL_one' r u h

set_option maxRecDepth 100000 in
set_option maxHeartbeats 3200000 in
/-- At its own place: another kind, name, number, or none. -/
theorem spoil_here (h : HT) (q : Nat → Prop) (w : World) (what v : Int) (s : ByteArray) (hin : h.InE q w) (hq : ∀ y, q y → y < w.heap.size)
    (b1 : -9223372036854775808 ≤ what) (b2 : what ≤ 9223372036854775807) (v1 : -9223372036854775808 ≤ v) (v2 : v ≤ 9223372036854775807) (hs : s.size ≤ maxLen) :
    Calls Try.prog 134 #[h.val, .int .i64 0, .int .i64 what, .int .i64 v, .string s] w fun e w' => RetSp q w 0 h.tr e w' := by
  have HW := fun W => within_calls what 5 W (by omega) (by omega) b1 b2
  have HX := fun W => text_calls s 20 W hs (by omega)
  rw [show ((20 : Nat) : Int) = 20 from rfl] at HX
  have hm0 : 0 ≤ what % 5 := Int.emod_nonneg _ (by omega)
  have hm1 : what % 5 < 5 := Int.emod_lt_of_pos _ (by omega)
  obtain ⟨j, hj⟩ : ∃ j : Nat, what % 5 = j := ⟨(what % 5).toNat, by omega⟩
  rw [hj] at HW hm0 hm1
  have hsz : (s.extract 0 (min s.size 20)).size ≤ 20 := by simp; omega
  have hF0 : Four ((w.alloc (.cells #[.int .i64 h.kd, .string h.s, .int .i64 h.n, .slice h.a h.k.length h.c] 76)).alloc fourZ) (w.heap.size + 1) := ⟨_, _, _, _, by
    have h2 := heap_alloc_new (w.alloc (.cells #[.int .i64 h.kd, .string h.s, .int .i64 h.n, .slice h.a h.k.length h.c] 76)) fourZ
    have e : (w.alloc (.cells #[.int .i64 h.kd, .string h.s, .int .i64 h.n, .slice h.a h.k.length h.c] 76)).heap.size = w.heap.size + 1 := by simp
    rwa [e] at h2⟩
  have hb0 : (w.alloc (.cells #[.int .i64 h.kd, .string h.s, .int .i64 h.n, .slice h.a h.k.length h.c] 76)).heap.size = w.heap.size + 1 := by simp
  have hX : Ext w ((w.alloc (.cells #[.int .i64 h.kd, .string h.s, .int .i64 h.n, .slice h.a h.k.length h.c] 76)).alloc fourZ) := ((Ext.refl w).alloc _).alloc _
  have hfin : ∀ (kd : Int) (t : ByteArray) (n : Int) (W : World), Ext w W → (HT.mk kd t n h.a h.c h.k).InE (fun y => (q y ∨ w.heap.size ≤ y) ∧ y < W.heap.size) W := fun kd t n W hW => ((hin.again kd t n).ext hW).weak (fun y hy => ⟨.inl hy, Nat.lt_of_lt_of_le (hq y hy) hW.le⟩)
  have htr := h.tr_eq
  have H0 := Lib.hid (And.intro hF0 (And.intro hX (And.intro hfin (And.intro htr (And.intro hsz (And.intro v1 v2))))))
  clear hq hin hj b1 b2 v1 v2 hs hF0 hX hfin htr hsz
  have hj2 : j = 0 ∨ j = 1 ∨ j = 2 ∨ j = 3 ∨ j = 4 := by omega
  unfold HT.val
  rcases hj2 with rfl | rfl | rfl | rfl | rfl
  · go_enter Try.func134, Try.ntmps134
    (go_wp2_with fail; (with_reducible refine (HW _).mono ?_); rintro e w' ⟨rfl, rfl⟩)
    go_wp2
    apply bodyPost_ret (v := .tuple #[(HT.mk 0 ⟨#[]⟩ 0 none 0 []).val, .int .i64 (-1)])
    · exact res_sp (HT.mk 0 ⟨#[]⟩ 0 none 0 []) _ (-1) rfl rfl
    · rfl
    exact ⟨_, _, rfl, .zero _, by omega, by omega, HT.leaf_inE _ _ _ _ _, (by repeat' (first | (with_reducible exact Ext.refl _) | (with_reducible assumption) | (with_reducible refine Ext.alloc ?_ _) | (with_reducible refine Ext.drew ?_) | (with_reducible refine Ext.drewN ?_ _) | (with_reducible refine Ext.setCell ?_ (by first | exact Nat.le_refl _ | (simp; done) | (simp; omega) | omega) _) | (with_reducible refine Ext.trans ?_ (by assumption))))⟩
  · go_enter Try.func134, Try.ntmps134
    (go_wp2_with fail; (with_reducible refine (HW _).mono ?_); rintro e w' ⟨rfl, rfl⟩)
    (go_wp2_with fail; (with_reducible refine (HX _).mono ?_); rintro e w' ⟨rfl, rfl⟩)
    go_wp2
    apply bodyPost_ret (v := .tuple #[(HT.mk h.kd (s.extract 0 (min s.size 20)) h.n h.a h.c h.k).val, .int .i64 (-1)])
    · exact res_sp (HT.mk h.kd (s.extract 0 (min s.size 20)) h.n h.a h.c h.k) _ (-1) rfl rfl
    · rfl
    exact ⟨_, _, rfl, by rw [H0.out.2.2.2.1, HT.tr_eq]; exact .name _ _ _ _ _ H0.out.2.2.2.2.1, by omega, by omega, H0.out.2.2.1 _ _ _ _ ((by repeat' (first | (with_reducible exact Ext.refl _) | (with_reducible assumption) | (with_reducible refine Ext.alloc ?_ _) | (with_reducible refine Ext.drew ?_) | (with_reducible refine Ext.drewN ?_ _) | (with_reducible refine Ext.setCell ?_ (by first | exact Nat.le_refl _ | (simp; done) | (simp; omega) | omega) _) | (with_reducible refine Ext.trans ?_ (by assumption))))), (by repeat' (first | (with_reducible exact Ext.refl _) | (with_reducible assumption) | (with_reducible refine Ext.alloc ?_ _) | (with_reducible refine Ext.drew ?_) | (with_reducible refine Ext.drewN ?_ _) | (with_reducible refine Ext.setCell ?_ (by first | exact Nat.le_refl _ | (simp; done) | (simp; omega) | omega) _) | (with_reducible refine Ext.trans ?_ (by assumption))))⟩
  · go_enter Try.func134, Try.ntmps134
    (go_wp2_with fail; (with_reducible refine (HW _).mono ?_); rintro e w' ⟨rfl, rfl⟩)
    go_wp2
    apply bodyPost_ret (v := .tuple #[(HT.mk h.kd h.s v h.a h.c h.k).val, .int .i64 (-1)])
    · exact res_sp (HT.mk h.kd h.s v h.a h.c h.k) _ (-1) rfl rfl
    · rfl
    exact ⟨_, _, rfl, by rw [H0.out.2.2.2.1, HT.tr_eq]; exact .num _ _ _ _ _ H0.out.2.2.2.2.2.1 H0.out.2.2.2.2.2.2, by omega, by omega, H0.out.2.2.1 _ _ _ _ ((by repeat' (first | (with_reducible exact Ext.refl _) | (with_reducible assumption) | (with_reducible refine Ext.alloc ?_ _) | (with_reducible refine Ext.drew ?_) | (with_reducible refine Ext.drewN ?_ _) | (with_reducible refine Ext.setCell ?_ (by first | exact Nat.le_refl _ | (simp; done) | (simp; omega) | omega) _) | (with_reducible refine Ext.trans ?_ (by assumption))))), (by repeat' (first | (with_reducible exact Ext.refl _) | (with_reducible assumption) | (with_reducible refine Ext.alloc ?_ _) | (with_reducible refine Ext.drew ?_) | (with_reducible refine Ext.drewN ?_ _) | (with_reducible refine Ext.setCell ?_ (by first | exact Nat.le_refl _ | (simp; done) | (simp; omega) | omega) _) | (with_reducible refine Ext.trans ?_ (by assumption))))⟩
  · by_cases hk : (11 : Int) ≤ h.kd
    · go_enter Try.func134, Try.ntmps134
      (go_wp2_with fail; (with_reducible refine (HW _).mono ?_); rintro e w' ⟨rfl, rfl⟩)
      go_wp2
      apply bodyPost_ret (v := .tuple #[(HT.mk 1 ⟨#[]⟩ 0 none 0 []).val, .int .i64 (-1)])
      · exact res_sp (HT.mk 1 ⟨#[]⟩ 0 none 0 []) _ (-1) rfl rfl
      · rfl
      exact ⟨_, _, rfl, by rw [H0.out.2.2.2.1, HT.tr_eq]; exact .flipT _ _ _ _ hk, by omega, by omega, HT.leaf_inE _ _ _ _ _, (by repeat' (first | (with_reducible exact Ext.refl _) | (with_reducible assumption) | (with_reducible refine Ext.alloc ?_ _) | (with_reducible refine Ext.drew ?_) | (with_reducible refine Ext.drewN ?_ _) | (with_reducible refine Ext.setCell ?_ (by first | exact Nat.le_refl _ | (simp; done) | (simp; omega) | omega) _) | (with_reducible refine Ext.trans ?_ (by assumption))))⟩
    · have hk2 : h.kd < 11 := by omega
      go_enter Try.func134, Try.ntmps134
      (go_wp2_with fail; (with_reducible refine (HW _).mono ?_); rintro e w' ⟨rfl, rfl⟩)
      go_wp2
      apply bodyPost_ret (v := .tuple #[(HT.mk 11 ⟨#[]⟩ 1 none 0 []).val, .int .i64 (-1)])
      · exact res_sp (HT.mk 11 ⟨#[]⟩ 1 none 0 []) _ (-1) rfl rfl
      · rfl
      exact ⟨_, _, rfl, by rw [H0.out.2.2.2.1, HT.tr_eq]; exact .flipO _ _ _ _ (by omega), by omega, by omega, HT.leaf_inE _ _ _ _ _, (by repeat' (first | (with_reducible exact Ext.refl _) | (with_reducible assumption) | (with_reducible refine Ext.alloc ?_ _) | (with_reducible refine Ext.drew ?_) | (with_reducible refine Ext.drewN ?_ _) | (with_reducible refine Ext.setCell ?_ (by first | exact Nat.le_refl _ | (simp; done) | (simp; omega) | omega) _) | (with_reducible refine Ext.trans ?_ (by assumption))))⟩
  · go_enter Try.func134, Try.ntmps134
    (go_wp2_with fail; (with_reducible refine (HW _).mono ?_); rintro e w' ⟨rfl, rfl⟩)
    go_wp2
    apply bodyPost_ret (v := .tuple #[(HT.mk h.kd h.s h.n h.a h.c h.k).val, .int .i64 (-1)])
    · exact res_sp (HT.mk h.kd h.s h.n h.a h.c h.k) _ (-1) rfl rfl
    · rfl
    exact ⟨_, _, rfl, by rw [H0.out.2.2.2.1, HT.tr_eq]; exact .refl _, by omega, by omega, H0.out.2.2.1 _ _ _ _ ((by repeat' (first | (with_reducible exact Ext.refl _) | (with_reducible assumption) | (with_reducible refine Ext.alloc ?_ _) | (with_reducible refine Ext.drew ?_) | (with_reducible refine Ext.drewN ?_ _) | (with_reducible refine Ext.setCell ?_ (by first | exact Nat.le_refl _ | (simp; done) | (simp; omega) | omega) _) | (with_reducible refine Ext.trans ?_ (by assumption))))), (by repeat' (first | (with_reducible exact Ext.refl _) | (with_reducible assumption) | (with_reducible refine Ext.alloc ?_ _) | (with_reducible refine Ext.drew ?_) | (with_reducible refine Ext.drewN ?_ _) | (with_reducible refine Ext.setCell ?_ (by first | exact Nat.le_refl _ | (simp; done) | (simp; omega) | omega) _) | (with_reducible refine Ext.trans ?_ (by assumption))))⟩

/-- The row's place: none, where there are no trees in it. -/
def RowA (q : Nat → Prop) (w : World) (A : Option Addr) (n c : Nat) (L : List HT) : Prop := (A = none ∧ n = 0 ∧ c = 0 ∧ L = []) ∨ ∃ B, A = some ⟨B, 0, none⟩ ∧ RowL q w B n c L
theorem RowL.weak {q q' : Nat → Prop} {w : World} {B n c : Nat} {L : List HT} (h : RowL q w B n c L) (hq : ∀ y, q y → q' y) : RowL q' w B n c L := ⟨h.len, h.blk, h.nc, h.cm, fun x hx => (h.kid x hx).weak (fun y hy => ⟨hq y hy.1, hy.2⟩)⟩
theorem RowA.weak {q q' : Nat → Prop} {w : World} {A : Option Addr} {n c : Nat} {L : List HT} (h : RowA q w A n c L) (hq : ∀ y, q y → q' y) : RowA q' w A n c L := h.imp id (fun ⟨B, e, h⟩ => ⟨B, e, h.weak hq⟩)
theorem RowA.ext {q : Nat → Prop} {w w' : World} {A : Option Addr} {n c : Nat} {L : List HT} (h : RowA q w A n c L) (hx : Ext w w') : RowA q w' A n c L := h.imp id (fun ⟨B, e, h⟩ => ⟨B, e, h.ext hx⟩)
theorem RowA.len {q : Nat → Prop} {w : World} {A : Option Addr} {n c : Nat} {L : List HT} (h : RowA q w A n c L) : L.length = n := by
  rcases h with ⟨_, rfl, _, rfl⟩ | ⟨B, _, h⟩
  · rfl
  · exact h.len
theorem RowA.tree {q : Nat → Prop} {w : World} {A : Option Addr} {n c : Nat} {L : List HT} (h : RowA q w A n c L) (kd : Int) (s : ByteArray) (m : Int) : (HT.mk kd s m A c L).InE (fun y => q y ∨ A = some ⟨y, 0, none⟩) w := by
  rcases h with ⟨rfl, rfl, rfl, rfl⟩ | ⟨B, rfl, h⟩
  · exact HT.leaf_inE _ _ _ _ _
  · exact (h.tree kd s m).weak (fun y hy => hy.imp id (fun e => by rw [e]))
theorem RowA.of_own {q : Nat → Prop} {w : World} {b0 : Nat} {v : Value} {n : Nat} {L : List HT} (h : w.ownsRow b0 76 4 v n (cellsL L)) (hl : L.length = n) (hk : ∀ x ∈ L, x.InE q w) (hq : ∀ y, q y → y < b0) :
    ∃ A c, v = .slice A n c ∧ RowA q w A n c L ∧ (∀ B, A = some ⟨B, 0, none⟩ → b0 ≤ B) ∧ n ≤ c ∧ c ≤ maxLen := by
  rcases h.2 with ⟨rfl, rfl⟩ | ⟨g, cap, cur, rfl, hb, hg, h1, h2, h3, h4⟩
  · exact ⟨none, 0, rfl, .inl ⟨rfl, rfl, rfl, List.length_eq_zero_iff.1 hl⟩, (fun B e => by cases e), Nat.le_refl _, by unfold maxLen; omega⟩
  · exact ⟨_, cap, rfl, .inr ⟨g, rfl, hl, ⟨cur, hg, h3, h4⟩, h1, h2, fun x hx => (hk x hx).weak (fun y hy => ⟨hy, by have := hq y hy; omega⟩)⟩, (fun B e => by injection e with e; injection e with e; omega), h1, h2⟩

theorem put4o_size (w : World) (b o : Nat) (kd : Int) (s : ByteArray) (n : Int) (sl : Value) : (put4o w b o kd s n sl).heap.size = w.heap.size := by simp [put4o, World.setCell]
/-- A round: the part at j spoilt, or as it was. -/
theorem spoil_row {q : Nat → Prop} {X wr w' : World} {B n C : Nat} {L : List HT} {j : Nat} {u : HT} (hR : RowL (fun y => (q y ∨ X.heap.size ≤ y) ∧ y < wr.heap.size) wr B n C L) (hXw : X.heap.size ≤ wr.heap.size) (hx : Ext wr w')
    (hui : u.InE (fun y => (((q y ∨ X.heap.size ≤ y) ∧ y < wr.heap.size) ∧ y ≠ B ∨ wr.heap.size ≤ y) ∧ y < w'.heap.size) w') (hj : j < n) :
    RowA (fun y => (q y ∨ X.heap.size ≤ y) ∧ y < (put4o w' B (j * 4) u.kd u.s u.n (.slice u.a u.k.length u.c)).heap.size) (put4o w' B (j * 4) u.kd u.s u.n (.slice u.a u.k.length u.c)) (some ⟨B, 0, none⟩) n C (L.set j u) := by
  rw [put4o_size]
  have hB := hR.lt
  have hle := hx.le
  exact .inr ⟨B, rfl, ((hR.ext hx).weak (q' := fun y => (q y ∨ X.heap.size ≤ y) ∧ y < w'.heap.size) (fun y hy => ⟨hy.1, by omega⟩)).put hj u (hui.weak (fun y hy => by
    obtain ⟨h1 | h1, h2⟩ := hy
    · exact ⟨⟨h1.1.1, h2⟩, h1.2⟩
    · exact ⟨⟨.inr (by omega), h2⟩, by omega⟩))⟩
theorem spoil_spd {K L : List HT} {j : Nat} {x u : HT} (hsp : ∀ (m : Nat) (x y : HT), K[m]? = some x → L[m]? = some y → Spd x.tr y.tr) (hx : K[j]? = some x) (hu : Spd x.tr u.tr) : ∀ (m : Nat) (x y : HT), K[m]? = some x → (L.set j u)[m]? = some y → Spd x.tr y.tr := by
  intro m x2 y h1 h2
  by_cases e : j = m
  · subst e
    rw [hx] at h1
    injection h1 with h1
    subst h1
    rw [List.getElem?_set] at h2
    simp only [if_true] at h2
    split at h2
    · injection h2 with h2; subst h2; exact hu
    · cases h2
  · rw [List.getElem?_set_ne e] at h2
    exact hsp m x2 y h1 h2

/-- The row in the tree, the tree in the result's cells. -/
theorem spoil_end {q : Nat → Prop} {w X wr : World} {A : Option Addr} {n C : Nat} {L : List HT} (kd : Int) (s : ByteArray) (m : Int) (hwX : Ext w X) (hXs : X.heap.size = w.heap.size + 2) (hx : Ext X wr) (hF : Four wr (w.heap.size + 1))
    (hR : RowA (fun y => ((q y ∧ y < w.heap.size) ∨ X.heap.size ≤ y) ∧ y < wr.heap.size) wr A n C L) (hA : ∀ B, A = some ⟨B, 0, none⟩ → X.heap.size ≤ B) (W : World)
    (hW : W = put4 (wr.setCell ⟨w.heap.size, 3, none⟩ (.slice A L.length C)) (w.heap.size + 1) kd s m (.slice A L.length C)) :
    Four (wr.setCell ⟨w.heap.size, 3, none⟩ (.slice A L.length C)) (w.heap.size + 1) ∧ (HT.mk kd s m A C L).InE (fun y => (q y ∨ w.heap.size ≤ y) ∧ y < W.heap.size) W ∧ Ext w W := by
  have hz : (wr.setCell ⟨w.heap.size, 3, none⟩ (.slice A L.length C)).heap.size = wr.heap.size := by simp [World.setCell]
  have hWs : W.heap.size = wr.heap.size := by rw [hW, put4_size, hz]
  have hle := hx.le
  have hAw : ∀ y, A = some ⟨y, 0, none⟩ → y < wr.heap.size := by
    intro y e
    rcases hR with ⟨e1, _⟩ | ⟨B, e1, hL⟩
    · rw [e1] at e; cases e
    · rw [e1] at e; injection e with e; injection e with e; subst e; exact hL.lt
  have h1 := (hR.tree kd s m).weak (q' := fun y => (q y ∧ y < w.heap.size ∨ X.heap.size ≤ y) ∧ y < wr.heap.size) (fun y hy => hy.elim id (fun e => ⟨.inr (hA y e), hAw y e⟩))
  refine ⟨hF.grown (setCell_grown _ _ _ _) (by omega), ?_, ?_⟩
  · rw [hWs, hW]
    exact ((h1.grown (fun y hy => by omega) (setCell_grown wr w.heap.size 3 _)).grown (fun y hy => by omega) (put4_grown _ _ _ _ _ _)).weak (fun y hy => ⟨hy.1.imp And.left (fun h => by omega), hy.2⟩)
  · rw [hW]
    exact put4_ext ((hwX.trans hx).setCell (p := ⟨w.heap.size, 3, none⟩) (Nat.le_refl _) _) (by omega) _ _ _ _
theorem spoil_kids {K L : List HT} {kd : Int} {s : ByteArray} {n : Int} {A : Option Addr} {C : Nat} (hl : L.length = K.length) (hsp : ∀ (m : Nat) (x y : HT), K[m]? = some x → L[m]? = some y → Spd x.tr y.tr) : Spd (.mk kd s n (K.map HT.tr)) (HT.mk kd s n A C L).tr := by
  rw [HT.tr_eq]
  refine .kids _ _ _ _ _ (by simp [HT.k, hl]) (fun i x y h1 h2 => ?_)
  simp only [HT.k, List.getElem?_map, Option.map_eq_some_iff] at h1 h2
  obtain ⟨x', e1, rfl⟩ := h1
  obtain ⟨y', e2, rfl⟩ := h2
  exact hsp i x' y' e1 e2

set_option maxRecDepth 100000 in
set_option maxHeartbeats 3200000 in
theorem spoil_calls (k : Nat) : ∀ (h : HT) (q : Nat → Prop) (w : World) (at0 what v : Int) (s : ByteArray), SizeOf.sizeOf h < k → h.InE q w → (∀ y, q y → y < w.heap.size) → h.tr.everyLen ≤ 2 ^ 30 → 0 ≤ at0 → at0 ≤ 2 ^ 40 →
    -9223372036854775808 ≤ what → what ≤ 9223372036854775807 → -9223372036854775808 ≤ v → v ≤ 9223372036854775807 → s.size ≤ maxLen →
    Calls Try.prog 134 #[h.val, .int .i64 at0, .int .i64 what, .int .i64 v, .string s] w fun e w' => RetSp q w at0 h.tr e w' := by
  induction k with
  | zero => intro h q w a x v s hk; omega
  | succ k ih =>
    intro h q w at0 what v s hk hin hq hev ha0 ha1 b1 b2 v1 v2 hs
    by_cases h0 : at0 = 0
    · subst h0
      exact spoil_here h q w what v s hin hq b1 b2 v1 v2 hs
    · have hcap := hin.cap
      have hln := h.len_every
      have hrd := hin.rd
      have hXs : ((w.alloc (.cells #[.int .i64 h.kd, .string h.s, .int .i64 h.n, .slice h.a h.k.length h.c] 76)).alloc fourZ).heap.size = w.heap.size + 2 := by simp
      have hX : Ext w ((w.alloc (.cells #[.int .i64 h.kd, .string h.s, .int .i64 h.n, .slice h.a h.k.length h.c] 76)).alloc fourZ) := ((Ext.refl w).alloc _).alloc _
      have hF0 : Four ((w.alloc (.cells #[.int .i64 h.kd, .string h.s, .int .i64 h.n, .slice h.a h.k.length h.c] 76)).alloc fourZ) (w.heap.size + 1) := ⟨_, _, _, _, by
        have h2 := heap_alloc_new (w.alloc (.cells #[.int .i64 h.kd, .string h.s, .int .i64 h.n, .slice h.a h.k.length h.c] 76)) fourZ
        have e : (w.alloc (.cells #[.int .i64 h.kd, .string h.s, .int .i64 h.n, .slice h.a h.k.length h.c] 76)).heap.size = w.heap.size + 1 := by simp
        rwa [e] at h2⟩
      have hB0 : ((w.alloc (.cells #[.int .i64 h.kd, .string h.s, .int .i64 h.n, .slice h.a h.k.length h.c] 76)).alloc fourZ).heap[w.heap.size]? = some (.cells #[.int .i64 h.kd, .string h.s, .int .i64 h.n, .slice h.a h.k.length h.c] 76 (0, 0)) := ((Ext.refl _).alloc _).obj (heap_alloc_new _ _)
      have hin0 := hin.weak (q' := fun y => q y ∧ y < w.heap.size) (fun y hy => ⟨hy, hq y hy⟩)
      have hkids : ∀ x ∈ h.k, x.InE (fun y => q y ∧ y < w.heap.size) w := fun x hx => by obtain ⟨i, hi⟩ := List.getElem?_of_mem hx; exact hin0.kid hi
      have IH := fun (x : HT) (i : Nat) (hx : h.k[i]? = some x) (q' : Nat → Prop) (W : World) (b : Int) (hxi : x.InE q' W) (hq' : ∀ y, q' y → y < W.heap.size) (hb0 : 0 ≤ b) (hb1 : b ≤ 2 ^ 40) => ih x q' W b what v s (by have := HT.size_k hx; omega) hxi hq' (Nat.le_trans (HT.every_k hx) hev) hb0 hb1 b1 b2 v1 v2 hs
      have htr := h.tr_eq
      have hne : (at0 == 0) = false := by simpa using h0
      have hw1 : at0 - 1 ≤ 2 ^ 40 := by omega
      have HH := Lib.hid (And.intro hX (And.intro hF0 (And.intro hB0 (And.intro hkids (And.intro htr hXs)))))
      have HI := Lib.hid IH
      have hc1 := hcap.1
      have hc2 := hcap.2
      unfold maxLen at hc2
      clear ih hk hin hin0 hq hcap hXs hX hF0 hB0 hkids IH htr b1 b2 v1 v2 hs
      unfold HT.val
      generalize htt : h.tr = tt at *
      clear htt
      generalize h.kd = kd at *
      generalize h.s = ss at *
      generalize h.n = hn at *
      generalize h.a = ha at *
      generalize h.c = hc at *
      generalize h.k = K at *
      clear h
      go_enter Try.func134, Try.ntmps134
      go_upto_region 15 with fail
      generalize ((w.alloc (.cells #[.int .i64 kd, .string ss, .int .i64 hn, .slice ha K.length hc] 76)).alloc fourZ) = X at *
      have hrdX := hrd.ext HH.out.1
      have hle : w.heap.size + 2 ≤ X.heap.size := by rw [HH.out.2.2.2.2.2]; omega
      obtain ⟨p0, p1, pf⟩ := obj_cells HH.out.2.2.1
      have p3 := p0 3 _ rfl
      have h63 : 0 + K.length ≤ maxLen := by unfold maxLen; omega
      have hby : (0 + K.length) * 56 ≤ 140737488355328 := by omega
      go_wp2_with (at_builtin; refine wpList_app elemTr rfl _ _ rfl (w.heap.size + 2) (.slice none 0 0) 0 [] rfl (World.ownsRow_nil _ _ _ _) ha K.length hc (cellsL K) rfl hrdX (cellsL_one' K) h63 hby hle ?_; intro v1 w1 hown1 hg1 hat1)
      have hX1 : Ext X w1 := (Ext.refl X).grown hg1 (fun k hk => by cases hk)
      have hw1s := hX1.le
      obtain ⟨A, C, rfl, hRA, hAB, hnC, hCm⟩ := RowA.of_own (q := fun y => ((q y ∧ y < w.heap.size) ∨ X.heap.size ≤ y) ∧ y < w.heap.size) (n := K.length) (L := K) (by simpa using hown1) rfl
        (fun x hx => (((HH.out.2.2.2.1 x hx).ext (HH.out.1.trans hX1)).weak (fun y hy => ⟨.inl hy, hy.2⟩))) (fun y hy => by omega)
      have hAX : ∀ B, A = some ⟨B, 0, none⟩ → X.heap.size ≤ B := fun B e => by have := hAB B e; rw [HH.out.2.2.2.2.2]; omega
      have hR0 := Lib.hid (hRA.weak (q' := fun y => ((q y ∧ y < w.heap.size) ∨ X.heap.size ≤ y) ∧ y < w1.heap.size) (fun y hy => ⟨hy.1, by have := HH.out.1.le; omega⟩))
      have hAX0 := Lib.hid hAX
      unfold maxLen at hCm
      have hX10 := Lib.hid hX1
      clear hown1 hg1 hat1 hRA hAB hAX hX1 hrd hrdX h63 hby hle p0 p3 pf
      go_wp2_with fail
      go_simp
      go_wp2_with fail
      go_loopw [1, 45] (fun a i wr => ∃ (j : Nat) (b : Int) (L : List HT), j ≤ K.length ∧ i = .int .i64 j ∧ a = .int .i64 b ∧ -1 ≤ b ∧ b ≤ at0 - 1 ∧
        RowA (fun y => ((q y ∧ y < w.heap.size) ∨ X.heap.size ≤ y) ∧ y < wr.heap.size) wr A K.length C L ∧ (∀ (m : Nat) (x y : HT), K[m]? = some x → L[m]? = some y → Spd x.tr y.tr) ∧ (∀ m, j ≤ m → L[m]? = K[m]?) ∧ Ext X wr) (fun _ i _ => K.length - (intOf i).toNat)
      case atStart => exact ⟨0, at0 - 1, K, by omega, rfl, rfl, by omega, by omega, hR0.out, (fun m x y h1 h2 => by rw [h1] at h2; injection h2 with h2; rw [h2]; exact .refl _), (fun m _ => rfl), hX10.out⟩
      case round =>
        obtain ⟨j, b, L, hj, rfl, rfl, hb0, hb1, hR, hsp, hrest, hx⟩ := hrel
        by_cases hlt : j < K.length
        · obtain ⟨B, rfl, hRL⟩ : ∃ B, A = some ⟨B, 0, none⟩ ∧ RowL (fun y => ((q y ∧ y < w.heap.size) ∨ X.heap.size ≤ y) ∧ y < wr.heap.size) wr B K.length C L := by
            rcases hR with ⟨_, e, _⟩ | h
            · omega
            · exact h
          have hBX := hAX0.out B rfl
          obtain ⟨x, hxL⟩ : ∃ x, L[j]? = some x := ⟨_, List.getElem?_eq_getElem (by rw [hRL.len]; exact hlt)⟩
          have hxK : K[j]? = some x := by rw [← hrest j (Nat.le_refl _)]; exact hxL
          obtain ⟨q0, q1, q2, q3, qf⟩ := hRL.at' hxL
          have hj0 := Lib.hid (show j + 1 ≤ K.length from hlt)
          have hji : (j : Int) < (K.length : Int) := by omega
          have hji0 : (0 : Int) ≤ (j : Int) := by omega
          have hBw := hRL.lt
          by_cases hb : 0 ≤ b
          · have HS := HI.out x j hxK _ wr b (hRL.kid x (List.mem_of_getElem? hxL)) (fun y hy => hy.1.2) hb (by omega)
            have HL := Lib.hid (And.intro hRL (And.intro hsp (And.intro hrest (And.intro hx (And.intro hxL hxK)))))
            clear hR hRL hsp hrest hx hxL hxK
            unfold HT.val at HS
            generalize htx : x.tr = tx at HS
            have htx := Lib.hid htx
            (go_wp2_with fail; (with_reducible refine (HS).mono ?_); rintro e w' ⟨u, b', rfl, hsp', hb2, hb3, hui, hx4⟩)
            have hRL4 := HL.out.1.ext hx4
            obtain ⟨r0, r1, r2, r3, rf⟩ := hRL4.at' HL.out.2.2.2.2.1
            have hU := Lib.hid (And.intro hsp' (And.intro hui (And.intro hx4 (And.intro hb2 (And.intro hb3 (Nat.lt_of_lt_of_le hBw hx4.le))))))
            clear HS hsp' hui hRL4 q0 q1 q2 q3 qf hx4
            unfold HT.val
            go_wp2_with fail
            go_roundw
            case rel => exact ⟨j + 1, b', L.set j u, hj0.out, by go_num, rfl, hU.out.2.2.2.1, (by have := hU.out.2.2.2.2.1; omega), spoil_row HL.out.1 HL.out.2.2.2.1.le hU.out.2.2.1 hU.out.2.1 hlt,
              spoil_spd HL.out.2.1 HL.out.2.2.2.2.2 (by rw [htx.out]; exact hU.out.1), (fun m hm => by rw [List.getElem?_set_ne (by omega)]; exact HL.out.2.2.1 m (by omega)), put4o_ext (HL.out.2.2.2.1.trans hU.out.2.2.1) hBX _ _ _ _⟩
            case measure => simp [intOf]; omega
          · have hb' : b < 0 := by omega
            have hbf : decide (0 ≤ b) = false := by simp; omega
            have HL := Lib.hid (And.intro hR (And.intro hsp (And.intro hrest hx)))
            clear hR hRL hsp hrest hx hxL hxK q0 q1 q2 q3 qf
            go_wp2_with fail
            go_roundw
            case rel => exact ⟨j + 1, b, L, hj0.out, by go_num, rfl, hb0, hb1, HL.out.1, HL.out.2.1, (fun m hm => HL.out.2.2.1 m (by omega)), HL.out.2.2.2⟩
            case measure => simp [intOf]; omega
        · obtain rfl : j = K.length := by omega
          have hF := HH.out.2.1.ext hx
          obtain ⟨r0, rf, rl⟩ := obj_cells (hx.obj HH.out.2.2.1)
          have c0 := r0 0 _ rfl
          have c1 := r0 1 _ rfl
          have c2 := r0 2 _ rfl
          have c3 := r0 3 _ rfl
          obtain ⟨⟨y0, d0⟩, ⟨y1, d1⟩, ⟨y2, d2⟩, ⟨y3, d3⟩, hfz⟩ := hF.cells
          have HL := Lib.hid (And.intro hR (And.intro hsp (And.intro hx hF)))
          have hLl := Lib.hid hR.len
          clear hR hsp hrest hx hF r0
          go_wp2
          have hZ := spoil_end kd ss hn HH.out.1 HH.out.2.2.2.2.2 HL.out.2.2.1 HL.out.2.2.2 HL.out.1 hAX0.out _ rfl
          rw [← hLl.out]
          apply bodyPost_ret (v := .tuple #[(HT.mk kd ss hn A C L).val, .int .i64 b])
          · exact put4_at2 hZ.1 (HT.mk kd ss hn A C L) _ _ 10 11 _ rfl rfl rfl
          · rfl
          exact ⟨_, _, rfl, by rw [HH.out.2.2.2.2.1]; exact spoil_kids hLl.out HL.out.2.1, hb0, by omega, hZ.2.1, hZ.2.2⟩

end Go.Proofs.Ytgjjngkmbplijaa
