/- Texts put together: MTerm, MTerm2. -/
import Derived.Test.YtgjjngkmbplijaaYPlayObs
import Derived.Test.YtgjjngkmbplijaaZPl
/- The maker of package play: contracts: what all cases of maker.term share. -/
namespace Go.Proofs.Ytgjjngkmbplijaa
open Go.RowKit
set_option linter.unusedSimpArgs false
set_option linter.unusedVariables false

/-- A contract's tree comes back; the maker is where it is then. -/
def RetTm (w : World) (m : Nat) (p : Pl) (r : Made) (e : Ending) (w' : World) : Prop := RetTr w m p (r.1, r.2.1, r.2.2.1) (r.2.2.2 : Nat) e w'
/-- What maker.term does at depth d. -/
def TermAt (p : Pl) (d : Nat) : Prop := ∀ (w : World) (m i : Nat) (left : Int) (lab : Nat), Mk w m p i left lab → i + costM d ≤ 2 ^ 30 → -(2 ^ 40) + costM d ≤ left → left ≤ 2 ^ 40 → lab + costM d ≤ 10 ^ 7 →
  Calls Try.prog 114 #[.pointer (some ⟨m, 0, none⟩), .int .i64 d] w fun e w' => RetTm w m p (termT p d i left lab) e w'
/-- The four cells of a new tree. -/
def Z4 (w : World) (b : Nat) : Prop := w.heap[b]? = some fourZ
theorem Z4.new (w : World) : Z4 (w.alloc fourZ) w.heap.size := heap_alloc_new _ _
theorem Z4.grown {w w' : World} {b m : Nat} (h : Z4 w b) (hg : w.grownBy w' (some m)) (hne : b ≠ m) : Z4 w' b := by
  unfold Z4 at *
  rw [hg.block b (Array.getElem?_eq_some_iff.1 h).1 (fun e => hne (by injection e))]; exact h
theorem Z4.ext {w w' : World} {b : Nat} (h : Z4 w b) (hx : Ext w w') : Z4 w' b := hx.obj h
theorem Z4.cells {w : World} {b : Nat} (h : Z4 w b) : w.cell? ⟨b, 0, none⟩ = some (.int .i64 0) ∧ w.cell? ⟨b, 1, none⟩ = some (.string ⟨#[]⟩) ∧ w.cell? ⟨b, 2, none⟩ = some (.int .i64 0) ∧ w.cell? ⟨b, 3, none⟩ = some (.slice none 0 0) ∧ ∀ o, w.frozen? ⟨b, o, none⟩ = false := by
  unfold Z4 fourZ at h
  refine ⟨?_, ?_, ?_, ?_, fun o => ?_⟩
  all_goals simp [World.cell?, World.frozen?, h]
theorem setCell2_grown (w : World) (m o o' : Nat) (v v' : Value) : w.grownBy ((w.setCell ⟨m, o, none⟩ v).setCell ⟨m, o', none⟩ v') (some m) := grown_trans (setCell_grown _ _ _ _) (setCell_grown _ _ _ _)
theorem setCell3_grown (w : World) (m o o' o'' : Nat) (v v' v'' : Value) : w.grownBy (((w.setCell ⟨m, o, none⟩ v).setCell ⟨m, o', none⟩ v').setCell ⟨m, o'', none⟩ v'') (some m) := grown_trans (setCell2_grown _ _ _ _ _ _) (setCell_grown _ _ _ _)
theorem BlkAt.kept {w w' : World} {b g bt : Nat} {cs : Array Value} {e : TypeId} (h : BlkAt w b g cs e) (hg : w.grownBy w' (some bt)) (hne : g ≠ bt) : BlkAt w' b g cs e :=
  ⟨h.1, by rw [hg.block g (Array.getElem?_eq_some_iff.1 h.2).1 (fun e2 => by injection e2 with e2; exact hne e2)]; exact h.2⟩
theorem setCell_size (w : World) (ad : Addr) (v : Value) : (w.setCell ad v).heap.size = w.heap.size := by simp [World.setCell]
/-- The tree's own cells written at bt, stored at b, the row of its parts behind all: it comes back. -/
theorem term_fin {w w2 V : World} {m b bt : Nat} {p : Pl} {i : Nat} {left label : Int} (hM : Mk w2 m p i left label) (hg : w.grownBy w2 (some m)) (hb : w.heap.size = b) (hm : m < b) (hbt : b < bt) (hbt2 : bt < w2.heap.size) (hF : Four w2 b) (hV : w2.grownBy V (some bt)) (hs : V.heap.size = w2.heap.size) (cs : Array Value) (k : List HT) (hcs : cs.toList = cellsL k)
    (hk : ∀ x ∈ k, x.In (bt < ·) w2) (hl : k.length ≤ 10) (kd : Int) (s : ByteArray) (n : Int) (sz kl : Nat) (hsz : sz = w2.heap.size) (hkl : kl = k.length) :
    RetTr w m p (Tr.mk kd s n (HT.trL k), i, left) label (.returned (.agg #[.int .i64 kd, .string s, .int .i64 n, .slice (some ⟨sz, 0, none⟩) kl kl])) ((put4 V b kd s n (.slice (some ⟨sz, 0, none⟩) kl kl)).alloc (.cells cs 76)) ∧
      ∀ (fn : Func) (tmps : Array Value) (q : Nat), fn.results = #[.cell q 76] → tmps.getD q undef = .pointer (some ⟨b, 0, none⟩) → (results fn tmps).run Try.prog ((put4 V b kd s n (.slice (some ⟨sz, 0, none⟩) kl kl)).alloc (.cells cs 76)) = .ok (.agg #[.int .i64 kd, .string s, .int .i64 n, .slice (some ⟨sz, 0, none⟩) kl kl]) ((put4 V b kd s n (.slice (some ⟨sz, 0, none⟩) kl kl)).alloc (.cells cs 76)) := by
  subst hsz hkl
  have hsp : (put4 V b kd s n (.slice (some ⟨w2.heap.size, 0, none⟩) k.length k.length)).heap.size = w2.heap.size := by rw [← hs]; simp [put4, World.setCell]
  have hX : Ext (put4 V b kd s n (.slice (some ⟨w2.heap.size, 0, none⟩) k.length k.length)) ((put4 V b kd s n (.slice (some ⟨w2.heap.size, 0, none⟩) k.length k.length)).alloc (.cells cs 76)) := (Ext.refl _).alloc _
  have hrow := heap_alloc_new (put4 V b kd s n (.slice (some ⟨w2.heap.size, 0, none⟩) k.length k.length)) (.cells cs 76)
  rw [hsp] at hrow
  obtain ⟨t, h1, h2, h3, _⟩ := obs_end3 (hM.grownB hV (by omega)) (grown_new hg (by omega) hV) hb hm (hF.grown hV (by omega)) kd s n k (fun x hx => ((hk x hx).grown (fun y hy => by omega) hV).weak (fun y hy => by omega)) cs hcs hl w2.heap.size (by omega) hX hrow
  rw [h1, h2] at h3
  exact ⟨h3, fun fn tmps q hr ht => results_cell_row hr tmps _ b _ _ _ _ ht (hX.obj ((hF.grown hV (by omega)).put _ _ _ _)) Try.underlying76 rfl (by kernel_rfl)⟩
/-- The same for a tree without parts. -/
theorem leaf_fin {w w2 V : World} {m b bt : Nat} {p : Pl} {i : Nat} {left label : Int} (hM : Mk w2 m p i left label) (hg : w.grownBy w2 (some m)) (hb : w.heap.size = b) (hm : m < b) (hbt : b < bt) (hF : Four w2 b) (hV : w2.grownBy V (some bt)) (kd : Int) (s : ByteArray) (n : Int) :
    RetTr w m p (Tr.mk kd s n [], i, left) label (.returned (.agg #[.int .i64 kd, .string s, .int .i64 n, .slice none 0 0])) (put4 V b kd s n (.slice none 0 0)) ∧
      ∀ (fn : Func) (tmps : Array Value) (q : Nat), fn.results = #[.cell q 76] → tmps.getD q undef = .pointer (some ⟨b, 0, none⟩) → (results fn tmps).run Try.prog (put4 V b kd s n (.slice none 0 0)) = .ok (.agg #[.int .i64 kd, .string s, .int .i64 n, .slice none 0 0]) (put4 V b kd s n (.slice none 0 0)) :=
  ⟨obs_end (hM.grownB hV (by omega)) (grown_new hg (by omega) hV) hb hm (HT.mk kd s n none 0 []) (HT.leaf_in _ _ _ _ _), fun fn tmps q hr ht => results_cell_row hr tmps _ b _ _ _ _ ht ((hF.grown hV (by omega)).put _ _ _ _) Try.underlying76 rfl (by kernel_rfl)⟩
theorem word3c {w' : World} {m : Nat} {p : Pl} {i : Nat} {left label : Int} (hM : Mk w' m p i left label) (hi : i < 2 ^ 40) :
    Calls Try.prog 133 #[.pointer (some ⟨m, 0, none⟩), .slice (some ⟨w'.heap.size, 0, none⟩) 3 3] (w'.alloc (.cells #[.string ⟨#[117, 115, 100]⟩, .string ⟨#[101, 117, 114]⟩, .string ⟨#[103, 98, 112]⟩] 9)) fun e w2 =>
      RetMk (w'.alloc (.cells #[.string ⟨#[117, 115, 100]⟩, .string ⟨#[101, 117, 114]⟩, .string ⟨#[103, 98, 112]⟩] 9)) m p (i + 1) left label (.string (wordB p i curs3)) e w2 :=
  mword_calls _ m p i left label curs3 (some ⟨w'.heap.size, 0, none⟩) 3 (hM.ext ((Ext.refl _).alloc _)) hi (Rd.newAt rfl rfl rfl) (by decide) (by unfold maxLen; omega) (fun ad h => by
    injection h with h
    subst h
    have := (Array.getElem?_eq_some_iff.1 hM.blk).1
    exact fun e => by simp only at e; omega) (by decide)

end Go.Proofs.Ytgjjngkmbplijaa

/- The maker of package play: contracts: a tree without parts. -/
namespace Go.Proofs.Ytgjjngkmbplijaa
open Go.RowKit
set_option linter.unusedVariables false
theorem RetTr.ext {w w' w'' : World} {m : Nat} {p : Pl} {r : Tr × Nat × Int} {label : Int} {e : Ending} (h : RetTr w m p r label e w') (hx : Ext w' w'') : RetTr w m p r label e w'' := by
  obtain ⟨t, h1, h2, h3, h4, h5⟩ := h
  exact ⟨t, h1, h2, h3.ext hx, h4.ext hx, grown_trans h5 (grown_ext hx _)⟩
end Go.Proofs.Ytgjjngkmbplijaa
