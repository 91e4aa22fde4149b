/- A row of the call's own from some place on: s[2:], and append to it. -/
import Derived.Test.YtgjjngkmbplijaaYLaw04
import Derived.ArgAppend

namespace Go.Proofs.Ytgjjngkmbplijaa
open Go.RowKit
set_option linter.unusedSimpArgs false
set_option linter.unusedVariables false

/-- A slice of the call's own, one cell an element, from some place of its row on. -/
def OffRow (w : World) (base : Nat) (e : TypeId) (v : Value) (n : Nat) (xs : List Value) : Prop :=
  xs.length = n ∧ ∃ g off c cur, v = .slice (some ⟨g, off, none⟩) n c ∧ base ≤ g ∧ w.heap[g]? = some (.cells cur e (0, 0)) ∧ n ≤ c ∧ c ≤ maxLen ∧ off + c ≤ cur.size ∧ ∀ j u, xs[j]? = some u → cur[off + j]? = some u

theorem setC_block (w : World) (m o : Nat) (v : Value) {cs : Array Value} {e : TypeId} {fz : Nat × Nat} (h : w.heap[m]? = some (.cells cs e fz)) : (w.setCell ⟨m, o, none⟩ v).heap[m]? = some (.cells (cs.setIfInBounds o v) e fz) := by
  simp [World.setCell, Array.getElem?_modify, h]
theorem setC_grown (w : World) (m o : Nat) (v : Value) : w.grownBy (w.setCell ⟨m, o, none⟩ v) (some m) :=
  ⟨rfl, rfl, rfl, by simp [World.setCell], fun k hk hne => by
    have : m ≠ k := fun e => hne (by rw [e])
    simp [World.setCell, Array.getElem?_modify, this]⟩

section
variable {w w' : World} {base : Nat} {e : TypeId} {v : Value} {n : Nat} {xs : List Value}
theorem OffRow.of_own (h : w.ownsRow base e 1 v n xs) (hn : 0 < n) : OffRow w base e v n xs := by
  refine ⟨by have := h.1; omega, ?_⟩
  rcases h.2 with ⟨_, h0⟩ | ⟨g, cap, cur, h1, h2, h3, h4, h5, h6, h7⟩
  · omega
  · refine ⟨g, 0, cap, cur, h1, h2, h3, h4, h5, by omega, fun j u hu => ?_⟩
    rw [← h7] at hu
    rw [List.getElem?_take] at hu
    split at hu
    · rw [Nat.zero_add]; simpa using hu
    · cases hu
theorem OffRow.ext (h : OffRow w base e v n xs) (k : Ext w w') : OffRow w' base e v n xs := by
  obtain ⟨h1, g, off, c, cur, h2, h3, h4, h5⟩ := h
  exact ⟨h1, g, off, c, cur, h2, h3, k.obj h4, h5⟩
theorem OffRow.form (h : OffRow w base e v n xs) : ∃ ad c, v = .slice (some ad) n c ∧ n ≤ c ∧ c ≤ maxLen ∧ ∀ j u, xs[j]? = some u → w.cell? (ad.add j) = some u := by
  obtain ⟨h1, g, off, c, cur, h2, h3, h4, h5, h6, h7, h8⟩ := h
  refine ⟨⟨g, off, none⟩, c, h2, h5, h6, fun j u hu => ?_⟩
  rw [Addr.add_lit]
  simp only [World.cell?, h4]
  simpa using h8 j u hu
theorem OffRow.drop2 {A : Option Addr} {c : Nat} (h : OffRow w base e (.slice A n c) n xs) (hn : 2 ≤ n) : OffRow w base e (.slice (if c = 2 then A else A.map (·.add (2 * 1))) (n - 2) (c - 2)) (n - 2) (xs.drop 2) := by
  obtain ⟨h1, g, off, c', cur, h2, h3, h4, h5, h6, h7, h8⟩ := h
  injection h2 with h2 h2' h2''
  subst h2 h2''
  by_cases hc : c = 2
  · subst hc
    rw [if_pos rfl]
    exact ⟨by simp [h1], g, off, 0, cur, rfl, h3, h4, by omega, by omega, by omega, fun j u hu => by
      rw [List.getElem?_drop] at hu
      have := (List.getElem?_eq_some_iff.1 hu).1
      omega⟩
  · rw [if_neg hc]
    refine ⟨by simp [h1], g, off + 2, c - 2, cur, ?_, h3, h4, by omega, by omega, by omega, fun j u hu => ?_⟩
    · simp [Addr.add_lit]
    · rw [List.getElem?_drop] at hu
      have := h8 _ u hu
      rwa [show off + 2 + j = off + (2 + j) by omega]

/-- 'append(s, x)' to such a row. -/
theorem run_app_off {P : Program} {t : TypeId} {bytes : Nat} (E : Elem P t e 1 bytes) (ty : TypeId) (h : OffRow w base e v n xs) (ad : Addr) (c : Nat) (u : Value) (hu : w.cell? ad = some u) (h1 : u.oneCell' = true)
    (h63 : n + 1 ≤ maxLen) (hbytes : (n + 1) * bytes ≤ 140737488355328) (hbase : base ≤ w.heap.size) :
    ∃ v' w', (Builtin.append_ #[t, t] ty #[v, .slice (some ad) 1 c]).run P w = .ok v' w' ∧ OffRow w' base e v' (n + 1) (xs ++ [u]) ∧ w.grownBy w' v.ownBlock := by
  obtain ⟨i, z, hi, hz, hsize, hby, hzs⟩ := E.info
  have hform := h.form
  obtain ⟨hl, g, off, cap, cur, rfl, hg, hb, hnc, hcm, hoc, hcur⟩ := h
  have hnews : ∀ j x, [u][j]? = some x → w.cell? (ad.add j) = some x := by
    intro j x hj
    cases j with
    | zero => simp at hj; subst hj; rw [Addr.add]; simpa using hu
    | succ j => simp at hj
  by_cases hr : n + 1 ≤ cap
  · have hlt : off + n < cur.size := by omega
    have hrun := run_append_room_cells (P := P) w t ty e i E.under hi g off n cap ad 1 c [u] (by simp [hsize]) hnews (by simpa using h1) hr
      (fun j hj => by
        have : j = 0 := by simpa using hj
        subst this
        simp [World.cell?, hb, hsize, hlt])
      (fun j hj => by simp [World.frozen?, hb])
    refine ⟨_, _, hrun, ?_, ?_⟩
    · have e1 : w.setCells g (off + n * i.size) [u] = w.setCell ⟨g, off + n, none⟩ u := by rw [hsize]; simp [World.setCells]
      rw [e1]
      refine ⟨by simp [hl], g, off, cap, _, rfl, hg, setC_block w g _ u hb, hr, hcm, by simpa using hoc, fun j x hj => ?_⟩
      by_cases hjn : j < n
      · rw [List.getElem?_append_left (by omega)] at hj
        rw [Array.getElem?_setIfInBounds_ne (by omega)]
        exact hcur j x hj
      · rw [List.getElem?_append_right (by omega)] at hj
        have : j = n := by
          have := (List.getElem?_eq_some_iff.1 hj).1
          simp at this
          omega
        subst this
        simp [hl] at hj
        subst hj
        simp [hlt]
    · have e1 : w.setCells g (off + n * i.size) [u] = w.setCell ⟨g, off + n, none⟩ u := by rw [hsize]; simp [World.setCells]
      rw [e1]
      exact setC_grown w g _ u
  · obtain ⟨ad0, c0, e0, _, _, hcells⟩ := hform
    injection e0 with e0 e0'
    injection e0 with e0
    subst e0
    obtain ⟨v', w', hrun, hown, hgr⟩ := run_append_arg_grows (P := P) w t ty e i z 1 bytes E.under hi hz hsize hby hzs (by omega) ⟨g, off, none⟩ n cap xs (by omega) hcells ad 1 c [u] (by simp) hnews (by omega) h63 hbytes
    refine ⟨v', w', hrun, ?_, ⟨hgr.os, hgr.tape, hgr.output, hgr.size, fun k hk _ => hgr.block k hk (by simp)⟩⟩
    exact OffRow.of_own (own_mono hown hbase) (by omega)
end

end Go.Proofs.Ytgjjngkmbplijaa
