/- A region that draws its order, by the slots that it writes: all operations alike, no last one. -/
import Derived.Test.YtgjjngkmbplijaaZMk

namespace Go.Proofs.Ytgjjngkmbplijaa
open Go.RowKit
set_option linter.unusedSimpArgs false
set_option linter.unusedVariables false

section
variable {P : Program} {ops : Array Oper} {Q : Exit → Act → World → Prop}
theorem wp_region_all {id : Nat} {a0 : Act} {w : World} (n : Nat) (rs : List Nat) (ds : List Tmp) (F : Nat → World → Value → Prop) (G : Array Bool → World → Prop) (hm : P.follows .mixedOrders = true) (hn : ops.size = n) (hb : backB .any ops = true)
    (hrs : List.range n = rs) (hlen : ds.length = n) (hnd : ds.Nodup) (hsz : (ds.all fun d => decide (d < a0.tmps.size)) = true)
    (h0 : G (Array.replicate n false) w.drew)
    (hstep : ∀ j ∈ rs, ∀ o, ops[j]? = some o → SlotStep P ops Q ds a0 F G j o)
    (hend : ∀ l a w, Off ds a0 a → G l w → (∀ i, i < n → F i w (a.tmps[ds.getD i 0]?.getD undef)) → Q .normal a w) : (Code.region id ops true).wp P Q a0 w := by
  subst hrs
  refine wp_region_inv (fun l a w => Off ds a0 a ∧ G l w ∧ ∀ i, i < n → Dn l i → F i w (a.tmps[ds.getD i 0]?.getD undef)) hm hb ?_ ?_ ?_
  · refine ⟨⟨rfl, rfl, fun _ _ => rfl⟩, by rw [hn]; exact h0, fun i _ hd => ?_⟩
    exact absurd hd (dn_none _ _)
  · intro i o ho l a w hs _ ⟨hoff, hG, hF⟩ hne hdep
    have hin : i < n := by rw [← hn]; exact (Array.getElem?_eq_some_iff.1 ho).1
    refine wpOp_step ho (fun K hK => ?_)
    refine hstep i (List.mem_range.2 hin) o ho l a w hs hoff hG (fun e he hbd => hF e.on ?_ (hdep e he hbd)) (fun hd => ?_) K (fun v w' hv hG' hmono => hK _ _ ⟨?_, hG', fun j hj hd => ?_⟩)
    · have h1 := List.all_eq_true.1 hb i (List.mem_range.2 (by omega))
      rw [ho] at h1
      have h2 := Array.all_eq_true_iff_forall_mem.1 h1 e he
      simp only [hbd, Bool.not_true, Bool.false_or, decide_eq_true_eq] at h2
      omega
    · unfold Dn at hd
      have h2 : l.getD i false = false := by
        rcases Nat.lt_or_ge i l.size with h' | h'
        · simp [h'] at hne ⊢; exact hne
        · simp [Array.getElem?_eq_none h'] at hne
      rw [h2] at hd
      cases hd
    · have : ds.getD i 0 ∈ ds := by
        rw [List.getD_eq_getElem?_getD, List.getElem?_eq_getElem (by omega)]
        exact List.getElem_mem _
      exact hoff.put this v
    · have e1 : ds.getD i 0 = ds[i]'(by omega) := by rw [List.getD_eq_getElem?_getD, List.getElem?_eq_getElem (by omega)]; rfl
      have e2 : ds.getD j 0 = ds[j]'(by omega) := by rw [List.getD_eq_getElem?_getD, List.getElem?_eq_getElem (by omega)]; rfl
      by_cases hij : i = j
      · subst hij
        have hlt : ds.getD i 0 < a.tmps.size := by
          rw [hoff.size, e1]
          have := List.all_eq_true.1 hsz (ds[i]'(by omega)) (List.getElem_mem _)
          simpa using this
        have : ∀ d : Tmp, d < a.tmps.size → (a.put (some d) v).tmps[d]?.getD undef = v := fun d hd => by simp [Act.put, hd]
        rw [this _ hlt]
        exact hv
      · have hne2 : ds.getD i 0 ≠ ds.getD j 0 := by
          rw [e1, e2]
          intro e
          have h3 := List.pairwise_iff_getElem.1 hnd
          rcases Nat.lt_or_gt_of_ne hij with hlt | hlt
          · exact h3 i j (by omega) (by omega) hlt e
          · exact h3 j i (by omega) (by omega) hlt e.symm
        have : ∀ d d' : Tmp, d ≠ d' → (a.put (some d) v).tmps[d']?.getD undef = a.tmps[d']?.getD undef := fun d d' hne => by simp [Act.put, Array.getElem?_setIfInBounds_ne hne]
        rw [this _ _ hne2]
        exact hmono j _ (fun e => hij e.symm) (hF j hj (hd.set hij))
  · intro l a w hs ⟨hoff, hG, hF⟩ hall
    exact hend l a w hoff hG (fun i hi => hF i hi (hall i (by omega)))
end
/-- The frame behind such a region, its slots m to m + k - 1 as letters. -/
theorem Off.range {ds : List Tmp} {a : Act} {L : List Value} (h : Off ds ⟨L.toArray, []⟩ a) (m k : Nat) (hds : ds = List.range' m k) (hk : m + k ≤ L.length) :
    a = ⟨(L.take m ++ (ds.map (fun t => a.tmps[t]?.getD undef) ++ L.drop (m + k))).toArray, []⟩ := by
  subst hds
  obtain ⟨at', ad⟩ := a
  have h2 : ad = [] := h.defers
  subst h2
  congr 1
  refine Array.ext_getElem? (fun i => ?_)
  have hsz : at'.size = L.length := h.size
  simp only [List.getElem?_toArray]
  by_cases h1 : i < m
  · have : i ∉ List.range' m k := by simp [List.mem_range']; intro x hx; omega
    have hs := h.slot i this
    simp only [List.getElem?_toArray] at hs
    rw [hs, List.getElem?_append_left (by simp; omega)]
    simp [h1]
  · rw [List.getElem?_append_right (by simp; omega)]
    have hl : (L.take m).length = m := by simp; omega
    rw [hl]
    by_cases h3 : i < m + k
    · rw [List.getElem?_append_left (by simp; omega)]
      have : i - m < k := by omega
      simp only [List.getElem?_map, List.getElem?_range' , this]
      have e : m + 1 * (i - m) = i := by omega
      simp only [e, Option.map_some]
      have hi : i < at'.size := by omega
      simp [hi]
    · have : i ∉ List.range' m k := by simp [List.mem_range']; intro x hx; omega
      have hs := h.slot i this
      simp only [List.getElem?_toArray] at hs
      rw [hs, List.getElem?_append_right (by simp; omega)]
      simp
      congr 1
      omega

end Go.Proofs.Ytgjjngkmbplijaa
