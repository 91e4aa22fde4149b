/- WorldPlays: Whatever comes to be known, each answer, and all that is known, is what the document says; a clone goes its own way. -/
import Derived.Test.YtgjjngkmbplijaaYPlayW
import Derived.Deep.RegionHeld3
import Derived.Test.YtgjjngkmbplijaaZRf

namespace Go.Proofs.Ytgjjngkmbplijaa
open Go.RowKit
set_option linter.unusedSimpArgs false
set_option linter.unusedVariables false

/-- A step in a clone leaves both worlds as they are. -/
theorem Two.other {w0 w w' : World} {p f c q : Nat} {F F2 : FixL} {C C2 : ChL} {v1 v2 : Value} (h : Two w0 w p f c F C q v1 v2 F2 C2) {row : Nat} (hg : w.grownBy w' (some row)) (hr : row ≠ p ∧ row ≠ f ∧ row ≠ c) (h0 : w0.heap.size ≤ row)
    (hq : row ≠ q) (h1 : v1.ownBlock ≠ some row) (h2 : v2.ownBlock ≠ some row) : Two w0 w' p f c F C q v1 v2 F2 C2 := ⟨h.a.other hg hr h0, h.b.grown hg hq h1 h2, h.ap⟩
/-- What the clone comes to know is its own. -/
theorem clone_fix {w0 w w1 : World} {p f c q : Nat} {F F2 : FixL} {C C2 : ChL} {v1 v2 : Value} (h : Two w0 w p f c F C q v1 v2 F2 C2) {p' f' c' : Nat} {G : FixL} {D : ChL} (hW : Wld w1 p' f' c' G D) (hT : Two w0 w1 p f c F C q v1 v2 F2 C2) (hf : w.heap.size ≤ f') (s : ByteArray) (d v : Int) :
    Calls Try.prog 35 #[.pointer (some ⟨p', 0, none⟩), .string s, .int .i64 d, .int .i64 v] w1 fun e w2 => ∃ r, e = .returned (.int .i64 r) ∧ Wld w2 p' f' c' (fixNew G s d v) D ∧ Two w0 w2 p f c F C q v1 v2 F2 C2 := by
  refine (fix_calls p' f' c' G D s d v w1 hW).mono fun e w2 ⟨he, hW2, hg⟩ => ⟨_, he, hW2, ?_⟩
  obtain ⟨l1, l2, l3⟩ := h.a.wld.lts
  have l4 := h.b.lt
  exact hT.other hg ⟨by omega, by omega, by omega⟩ (Nat.le_trans h.a.ext.le hf) (by omega) (fun e => by have := (h.b.fl.lt _ e).2; omega) (fun e => by have := (h.b.ch.lt _ e).2; omega)
theorem clone_choose {w0 w w1 : World} {p f c q : Nat} {F F2 : FixL} {C C2 : ChL} {v1 v2 : Value} (h : Two w0 w p f c F C q v1 v2 F2 C2) {p' f' c' : Nat} {G : FixL} {D : ChL} (hW : Wld w1 p' f' c' G D) (hT : Two w0 w1 p f c F C q v1 v2 F2 C2) (hc : w.heap.size ≤ c') (s t : ByteArray) (k d : Int) :
    Calls Try.prog 36 #[.pointer (some ⟨p', 0, none⟩), .string s, .string t, .int .i64 k, .int .i64 d] w1 fun e w2 => ∃ r, e = .returned (.int .i64 r) ∧ Two w0 w2 p f c F C q v1 v2 F2 C2 := by
  refine (choose_calls p' f' c' G D s t k d w1 hW).mono fun e w2 ⟨he, hW2, hg⟩ => ⟨_, he, ?_⟩
  obtain ⟨l1, l2, l3⟩ := h.a.wld.lts
  have l4 := h.b.lt
  exact hT.other hg ⟨by omega, by omega, by omega⟩ (Nat.le_trans h.a.ext.le hc) (by omega) (fun e => by have := (h.b.fl.lt _ e).2; omega) (fun e => by have := (h.b.ch.lt _ e).2; omega)
theorem acF_len (x : Ac) (F : FixL) : (acF x F).length ≤ F.length + 1 := by
  unfold acF
  split
  · omega
  · exact fixNew_len2 _ _ _ _
theorem acC_len (x : Ac) (C : ChL) : (acC x C).length ≤ C.length + 1 := by
  unfold acC
  split
  · exact chNew_len _ _ _ _ _
  · omega

/-- Both worlds know the same, F and C. -/
def wpB (w0 : World) (p f c q : Nat) (F : FixL) (C : ChL) (W : World) : Prop := ∃ v1 v2, Two w0 W p f c F C q v1 v2 F C
/-- What each slot of the region holds that plays an act and counts the fixings. -/
def wpF (B : World → Prop) (V : List Value) (N : Nat) : Nat → World → Value → Prop
  | 6, W, u => u = .bool true ∧ B W
  | 7, W, u => u = .bool false ∧ B W
  | 8, W, u => u = .bool false ∧ B W
  | 14, _, u => ∃ A C, u = .slice A N C
  | i, _, u => u = V.getD i undef
theorem wpF_turn {B : World → Prop} {V : List Value} {N i : Nat} {W W2 : World} {u : Value} (hB : B W2) (h : wpF B V N i W u) : wpF B V N i W2 u := by
  by_cases h6 : i = 6
  · subst h6; exact ⟨h.1, hB⟩
  by_cases h7 : i = 7
  · subst h7; exact ⟨h.1, hB⟩
  by_cases h8 : i = 8
  · subst h8; exact ⟨h.1, hB⟩
  by_cases h14 : i = 14
  · subst h14; exact h
  · unfold wpF at h ⊢
    split at h <;> first | contradiction | simpa using h
theorem wpG_ext {w0 wc W : World} {p f c q : Nat} {F : FixL} {C : ChL} {l : Array Bool} (h0 : Ext w0 wc) (h : GG 6 17 (fun x _ W => (x = true → wpB w0 p f c q F C W) ∧ (x = false → Ext wc W)) l W) : Ext w0 W := by
  unfold GG at h
  obtain ⟨h1, h2⟩ := h
  cases e : l.getD 6 false with
  | true => obtain ⟨v1, v2, hT⟩ := h1 e; exact hT.a.ext
  | false => exact h0.trans (h2 e)
theorem add_lit2 (a : Addr) (i k : Nat) (hk : k ≠ 0) : a.add (i + k) = ⟨(a.add i).block, (a.add i).off + k, none⟩ := by
  rw [← add_add]
  show (if k = 0 then _ else _) = _
  rw [if_neg hk]

set_option maxRecDepth 100000 in
set_option maxHeartbeats 12800000 in
theorem worldPlays_walk (s : As) (w : World) (hs : s.In w) : Calls Try.prog 6 #[s.val] w fun e w' => e = .returned (.bool true) ∧ Below w.heap.size w w' := by
  obtain ⟨sa, sn, sc, sl⟩ := s
  obtain ⟨hlen, hnc, hcm, hat⟩ := hs
  simp only at hlen hnc hcm hat
  unfold maxLen at hcm
  have HS := Lib.hid hat
  clear hat
  simp only [As.val]
  go_enter Try.func6, Try.ntmps6
  (go_wp2_with fail; (with_reducible refine (new_own (Ext.refl w)).mono ?_); rintro e w' ⟨p, f, c, rfl, hO, hx⟩)
  have hT0 := Lib.hid hO.two
  clear hx hO
  go_wp2_with fail
  generalize w'.heap.size = q at *
  go_loopw [5] (fun i wr => ∃ (j : Nat) (F : FixL) (C : ChL) (u1 u2 : Value), j ≤ sn ∧ j ≤ 40 ∧ i = .int .i64 j ∧ F.length ≤ j ∧ C.length ≤ j ∧ Two w wr p f c F C q u1 u2 F C) (fun i _ => sn - (intOf i).toNat)
  case atStart => exact ⟨0, [], [], _, _, by omega, by omega, rfl, by simp, by simp, hT0.out⟩
  case round =>
    obtain ⟨j, F, C, u1, u2, hj, hj40, rfl, hFl, hCl, hT⟩ := hrel
    by_cases hlt : j < sn
    · by_cases h40 : j < 40
      · obtain ⟨x, hx⟩ : ∃ x, sl[j]? = some x := ⟨_, List.getElem?_eq_getElem (by omega)⟩
        obtain ⟨hok, ad, hsa, hcell⟩ := HS.out j x hx
        subst hsa
        have hcx : ∀ W, Ext w W → W.cell? (ad.add (j * 6)) = some (.bool x.ch) ∧ W.cell? ⟨(ad.add (j * 6)).block, (ad.add (j * 6)).off + 1, none⟩ = some (.int .i64 x.a) ∧ W.cell? ⟨(ad.add (j * 6)).block, (ad.add (j * 6)).off + 2, none⟩ = some (.int .i64 x.b) ∧ W.cell? ⟨(ad.add (j * 6)).block, (ad.add (j * 6)).off + 3, none⟩ = some (.int .i64 x.day) ∧ W.cell? ⟨(ad.add (j * 6)).block, (ad.add (j * 6)).off + 4, none⟩ = some (.int .i64 x.v) ∧ W.cell? ⟨(ad.add (j * 6)).block, (ad.add (j * 6)).off + 5, none⟩ = some (.string x.w) :=
          fun W hW => ⟨hW.cell (hcell 0 _ rfl), by rw [← add_lit2 ad _ 1 (by decide)]; exact hW.cell (hcell 1 _ rfl), by rw [← add_lit2 ad _ 2 (by decide)]; exact hW.cell (hcell 2 _ rfl), by rw [← add_lit2 ad _ 3 (by decide)]; exact hW.cell (hcell 3 _ rfl), by rw [← add_lit2 ad _ 4 (by decide)]; exact hW.cell (hcell 4 _ rfl), by rw [← add_lit2 ad _ 5 (by decide)]; exact hW.cell (hcell 5 _ rfl)⟩
        have hji : (j : Int) < (sn : Int) := by omega
        have hji0 : (0 : Int) ≤ (j : Int) := by omega
        have hj40' : (j : Int) < 40 := by omega
        have ha := i64_of hok.a
        have hb := i64_of hok.b
        have NA := fun W => acname_calls x x.a W hok ha.1 ha.2
        have NB := fun W => acname_calls x x.b W hok hb.1 hb.2
        have PL := fun W (v1 v2 : Value) (hT : Two w W p f c F C q v1 v2 F C) => play_calls x w W p f c q F C v1 v2 hT hok (by omega) (by omega)
        have hFl' := acF_len x F
        have hCl' := acC_len x C
        have hj0 := Lib.hid (show j + 1 ≤ sn ∧ j + 1 ≤ 40 from ⟨hlt, h40⟩)
        have hsz1 : (acF x F).length ≤ j + 1 := by omega
        have hsz2 : (acC x C).length ≤ j + 1 := by omega
        unfold Ac.val at *
        generalize hF' : acF x F = F' at *
        generalize hC' : acC x C = C' at *
        generalize x.nm x.a = na at *
        generalize x.nm x.b = nb at *
        generalize x.ch = b0 at *
        generalize x.a = b1 at *
        generalize x.b = b2 at *
        generalize x.day = b3 at *
        generalize x.v = b4 at *
        generalize x.w = b5 at *
        clear hx hcell hok ha hb hFl' hCl' hF' hC'
        go_upto_if 34 with fail
        go_cut [5] from 33 to 42 (fun i wx => i = .int .i64 j ∧ ∃ v1 v2, Two w wx p f c F C q v1 v2 F C)
        case first =>
          by_cases h9 : j = 9
          · subst h9
            (go_wp2_with fail; (with_reducible refine (clone_own hT.a).mono ?_); rintro e w' ⟨p', f', c', rfl, hO', hO2, l1, l2, l3, hxc⟩)
            have hT1 := hT.ext hxc
            have K1 := clone_fix hT hO'.wld hT1 l2
            (go_wp2_with fail; (with_reducible refine (K1 _ _ _).mono ?_); rintro e w2 ⟨r, rfl, hW2, hT2⟩)
            (go_wp2_with fail; (with_reducible refine (clone_choose hT hW2 hT2 l3 _ _ _ _).mono ?_); rintro e w3 ⟨r', rfl, hT3⟩)
            have hT3 := Lib.hid hT3
            clear hT hT1 hT2 hW2 hO' hO2 K1 hxc
            go_wp2_with fail
            go_meet
            exact ⟨rfl, u1, u2, hT3.out⟩
          · have h9' : ((j : Int) == 9) = false := by simp; omega
            have hT3 := Lib.hid hT
            clear hT
            go_wp2_with fail
            go_meet
            exact ⟨rfl, u1, u2, hT3.out⟩
        case rest =>
          obtain ⟨rfl, v1, v2, hT2⟩ := hcut
          clear hT
          obtain ⟨z0, z1, z2, z3, z4, z5⟩ := hcx wc hT2.a.ext
          go_upto_region 13 with fail
          go_cut [5, 60] from 43 to 60 (fun i v wx => i = .int .i64 j ∧ v = .bool false ∧ ∃ v1 v2, Two w wx p f c F' C' q v1 v2 F' C')
          case first =>
            refine wp_region_slots 17 [0, 1, 2, 3, 4, 5, 6, 7, 8, 9, 10, 11, 12, 13, 14, 15, 16] _ [43, 44, 45, 46, 47, 48, 49, 50, 51, 52, 53, 54, 55, 56, 57, 58, 59] (wpF (wpB w p f c q F' C') [.pointer (some ⟨p, 0, none⟩), .pointer (some ⟨q, 0, none⟩), .slice (some ad) sn sc, .int .i64 j, .pointer (some (ad.add (j * 6))), .agg #[.bool b0, .int .i64 b1, .int .i64 b2, .int .i64 b3, .int .i64 b4, .string b5], undef, undef, undef, .pointer (some ⟨p, 0, none⟩), .int .i64 (F'.length : Int), .pointer (some ⟨q, 0, none⟩), .pointer (some ⟨q, 0, none⟩), .pointer (some ⟨q, 0, none⟩), undef, .int .i64 (F'.length : Int), .bool false] F'.length) (GG 6 17 (fun x _ W => (x = true → wpB w p f c q F' C' W) ∧ (x = false → Ext wc W))) (by kernel_rfl) rfl (by kernel_rfl) (by kernel_rfl) rfl rfl rfl (by decide +kernel) rfl ?_ ?_ ?_
            · exact GG.start ⟨(fun h => by cases h), fun _ => (Ext.refl _).drew⟩
            · refine slots_cons rfl ?_ (slots_cons rfl ?_ (slots_cons rfl ?_ (slots_cons rfl ?_ (slots_cons rfl ?_ (slots_cons rfl ?_ (slots_cons rfl ?_ (slots_cons rfl ?_ (slots_cons rfl ?_ (slots_cons rfl ?_ (slots_cons rfl ?_ (slots_cons rfl ?_ (slots_cons rfl ?_ (slots_cons rfl ?_ (slots_cons rfl ?_ (slots_cons rfl ?_ (slots_cons rfl ?_ slots_nil))))))))))))))))
              · intro l a W hs ho hG hd hne K' hK
                have b3 : a.tmps[3]?.getD undef = .pointer (some ⟨p, 0, none⟩) := ho.ev 3 rfl
                clear hd ho hne
                go_simp
                exact hK _ _ (by first | exact rfl | simp) (hG.keep (by decide) (by decide)) (fun j' v' _ hf => hf)
              · intro l a W hs ho hG hd hne K' hK
                have b4 : a.tmps[4]?.getD undef = .pointer (some ⟨q, 0, none⟩) := ho.ev 4 rfl
                clear hd ho hne
                go_simp
                exact hK _ _ (by first | exact rfl | simp) (hG.keep (by decide) (by decide)) (fun j' v' _ hf => hf)
              · intro l a W hs ho hG hd hne K' hK
                have b0 : a.tmps[0]?.getD undef = .slice (some ad) sn sc := ho.ev 0 rfl
                clear hd ho hne
                go_simp
                exact hK _ _ (by first | exact rfl | simp) (hG.keep (by decide) (by decide)) (fun j' v' _ hf => hf)
              · intro l a W hs ho hG hd hne K' hK
                have b5 : a.tmps[5]?.getD undef = .int .i64 j := ho.ev 5 rfl
                clear hd ho hne
                go_simp
                exact hK _ _ (by first | exact rfl | simp) (hG.keep (by decide) (by decide)) (fun j' v' _ hf => hf)
              · intro l a W hs ho hG hd hne K' hK
                have e2 : a.tmps[45]?.getD undef = .slice (some ad) sn sc := hd ⟨2, .data⟩ (by simp) rfl
                have e3 : a.tmps[46]?.getD undef = .int .i64 j := hd ⟨3, .data⟩ (by simp) rfl
                clear hd ho hne
                go_simp
                exact hK _ _ (by first | exact rfl | simp) (hG.keep (by decide) (by decide)) (fun j' v' _ hf => hf)
              · intro l a W hs ho hG hd hne K' hK
                have e4 : a.tmps[47]?.getD undef = .pointer (some (ad.add (j * 6))) := hd ⟨4, .data⟩ (by simp) rfl
                obtain ⟨z0, z1, z2, z3, z4, z5⟩ := hcx W (wpG_ext hT2.a.ext hG)
                clear hd ho hne
                go_simp
                exact hK _ _ (by first | exact rfl | simp) (hG.keep (by decide) (by decide)) (fun j' v' _ hf => hf)
              · intro l a W hs ho hG hd hne K' hK
                have e0 : a.tmps[43]?.getD undef = .pointer (some ⟨p, 0, none⟩) := hd ⟨0, .data⟩ (by simp) rfl
                have e1 : a.tmps[44]?.getD undef = .pointer (some ⟨q, 0, none⟩) := hd ⟨1, .data⟩ (by simp) rfl
                have e5 : a.tmps[48]?.getD undef = .agg #[.bool b0, .int .i64 b1, .int .i64 b2, .int .i64 b3, .int .i64 b4, .string b5] := hd ⟨5, .data⟩ (by simp) rfl
                have hy := (GG.at1 hG hne).2 rfl
                have hls : 6 < l.size := by rw [hs]; decide
                clear hd ho
                go_simp
                go_at_call 42
                (with_reducible refine (PL _ _ _ (hT2.ext hy)).mono ?_)
                rintro e W2 ⟨rfl, y1, y2, hT5⟩
                go_simp
                exact hK _ _ (⟨rfl, y1, y2, hT5⟩) (GG.go1 hls (by decide) ⟨fun _ => ⟨y1, y2, hT5⟩, fun h => by cases h⟩) (fun j' v' _ hf => wpF_turn ⟨y1, y2, hT5⟩ hf)
              · intro l a W hs ho hG hd hne K' hK
                obtain ⟨e6, hB⟩ : a.tmps[49]?.getD undef = .bool true ∧ wpB w p f c q F' C' W := hd ⟨6, .data⟩ (by simp) rfl
                clear hd ho hne
                go_simp
                exact hK _ _ (⟨rfl, hB⟩) (hG.keep (by decide) (by decide)) (fun j' v' _ hf => hf)
              · intro l a W hs ho hG hd hne K' hK
                obtain ⟨e7, hB⟩ : a.tmps[50]?.getD undef = .bool false ∧ wpB w p f c q F' C' W := hd ⟨7, .data⟩ (by simp) rfl
                clear hd ho hne
                go_simp
                exact hK _ _ (⟨rfl, hB⟩) (hG.keep (by decide) (by decide)) (fun j' v' _ hf => hf)
              · intro l a W hs ho hG hd hne K' hK
                obtain ⟨eg, hB⟩ : a.tmps[51]?.getD undef = .bool false ∧ wpB w p f c q F' C' W := hd ⟨8, .guard⟩ (by simp) rfl
                have b3 : a.tmps[3]?.getD undef = .pointer (some ⟨p, 0, none⟩) := ho.ev 3 rfl
                rw [if_pos (by rw [wanted_of rfl rfl eg]; rfl)]
                clear hd ho hne eg
                go_simp
                exact hK _ _ (by first | exact rfl | simp) (hG.keep (by decide) (by decide)) (fun j' v' _ hf => hf)
              · intro l a W hs ho hG hd hne K' hK
                obtain ⟨eg, hB⟩ : a.tmps[51]?.getD undef = .bool false ∧ wpB w p f c q F' C' W := hd ⟨8, .guard⟩ (by simp) rfl
                have e9 : a.tmps[52]?.getD undef = .pointer (some ⟨p, 0, none⟩) := hd ⟨9, .data⟩ (by simp) rfl
                rw [if_pos (by rw [wanted_of rfl rfl eg]; rfl)]
                obtain ⟨y1, y2, hTB⟩ := hB
                clear hd ho hne eg
                go_simp
                go_at_call 39
                (with_reducible refine (fixes_own hTB.a).mono ?_)
                rintro e W2 ⟨rfl, rfl⟩
                go_simp
                exact hK _ _ (by first | exact rfl | simp) (hG.keep (by decide) (by decide)) (fun j' v' _ hf => hf)
              · intro l a W hs ho hG hd hne K' hK
                obtain ⟨eg, hB⟩ : a.tmps[51]?.getD undef = .bool false ∧ wpB w p f c q F' C' W := hd ⟨8, .guard⟩ (by simp) rfl
                have b4 : a.tmps[4]?.getD undef = .pointer (some ⟨q, 0, none⟩) := ho.ev 4 rfl
                rw [if_pos (by rw [wanted_of rfl rfl eg]; rfl)]
                clear hd ho hne eg
                go_simp
                exact hK _ _ (by first | exact rfl | simp) (hG.keep (by decide) (by decide)) (fun j' v' _ hf => hf)
              · intro l a W hs ho hG hd hne K' hK
                obtain ⟨eg, hB⟩ : a.tmps[51]?.getD undef = .bool false ∧ wpB w p f c q F' C' W := hd ⟨8, .guard⟩ (by simp) rfl
                have e11 : a.tmps[54]?.getD undef = .pointer (some ⟨q, 0, none⟩) := hd ⟨11, .data⟩ (by simp) rfl
                rw [if_pos (by rw [wanted_of rfl rfl eg]; rfl)]
                clear hd ho hne eg
                go_simp
                exact hK _ _ (by first | exact rfl | simp) (hG.keep (by decide) (by decide)) (fun j' v' _ hf => hf)
              · intro l a W hs ho hG hd hne K' hK
                obtain ⟨eg, hB⟩ : a.tmps[51]?.getD undef = .bool false ∧ wpB w p f c q F' C' W := hd ⟨8, .guard⟩ (by simp) rfl
                have e12 : a.tmps[55]?.getD undef = .pointer (some ⟨q, 0, none⟩) := hd ⟨12, .data⟩ (by simp) rfl
                rw [if_pos (by rw [wanted_of rfl rfl eg]; rfl)]
                clear hd ho hne eg
                go_simp
                exact hK _ _ (by first | exact rfl | simp) (hG.keep (by decide) (by decide)) (fun j' v' _ hf => hf)
              · intro l a W hs ho hG hd hne K' hK
                obtain ⟨eg, hB⟩ : a.tmps[51]?.getD undef = .bool false ∧ wpB w p f c q F' C' W := hd ⟨8, .guard⟩ (by simp) rfl
                have e13 : a.tmps[56]?.getD undef = .pointer (some ⟨q, 0, none⟩) := hd ⟨13, .data⟩ (by simp) rfl
                rw [if_pos (by rw [wanted_of rfl rfl eg]; rfl)]
                obtain ⟨y1, y2, hTB⟩ := hB
                obtain ⟨k1, k2, kf⟩ := hTB.b.cells
                obtain ⟨A7, C7, rfl, h71, h72⟩ := own_form hTB.b.fl
                clear hd ho hne eg
                go_simp
                exact hK _ _ (⟨_, _, rfl⟩) (hG.keep (by decide) (by decide)) (fun j' v' _ hf => hf)
              · intro l a W hs ho hG hd hne K' hK
                obtain ⟨eg, hB⟩ : a.tmps[51]?.getD undef = .bool false ∧ wpB w p f c q F' C' W := hd ⟨8, .guard⟩ (by simp) rfl
                obtain ⟨A7, C7, e14⟩ : ∃ A C, a.tmps[57]?.getD undef = .slice A F'.length C := hd ⟨14, .data⟩ (by simp) rfl
                rw [if_pos (by rw [wanted_of rfl rfl eg]; rfl)]
                clear hd ho hne eg
                go_simp
                exact hK _ _ (by first | exact rfl | simp) (hG.keep (by decide) (by decide)) (fun j' v' _ hf => hf)
              · intro l a W hs ho hG hd hne K' hK
                obtain ⟨eg, hB⟩ : a.tmps[51]?.getD undef = .bool false ∧ wpB w p f c q F' C' W := hd ⟨8, .guard⟩ (by simp) rfl
                have e10 : a.tmps[53]?.getD undef = .int .i64 (F'.length : Int) := hd ⟨10, .data⟩ (by simp) rfl
                have e15 : a.tmps[58]?.getD undef = .int .i64 (F'.length : Int) := hd ⟨15, .data⟩ (by simp) rfl
                rw [if_pos (by rw [wanted_of rfl rfl eg]; rfl)]
                clear hd ho hne eg
                go_simp
                exact hK _ _ (by first | exact rfl | simp) (hG.keep (by decide) (by decide)) (fun j' v' _ hf => hf)
            · intro l a W ho hG hall hF K' hK
              obtain ⟨e8, y1, y2, hT5⟩ : a.tmps[51]?.getD undef = .bool false ∧ wpB w p f c q F' C' W := hF 8 (by omega)
              have e16 : a.tmps[59]?.getD undef = .bool false := hF 16 (by omega)
              obtain ⟨fr, hfr⟩ : ∃ fr : Tmp → Value, a = ([43, 44, 45, 46, 47, 48, 49, 50, 51, 52, 53, 54, 55, 56, 57, 58, 59] : List Tmp).foldl (fun b d => b.put (some d) (fr d)) _ := ⟨_, ho.puts⟩
              have hfr0 := Lib.hid hfr
              have hT6 := Lib.hid hT5
              clear hfr ho hF hall hT5 hG hT2
              go_simp
              refine hK _ _ ?_
              rw [hfr0.out]
              simp only [List.foldl]
              go_wp2_with fail
              go_simp
              go_meet
              exact ⟨rfl, rfl, y1, y2, hT6.out⟩
          case rest =>
            obtain ⟨rfl, rfl, v1, v2, hT3⟩ := hcut
            clear hT2 PL
            have HTA := Lib.hid hT3
            have HTB := hT3.a.ext
            clear hT3
            go_wp2_with fail
            go_loopw [7] (fun dv wr => ∃ e : Nat, e ≤ 5 ∧ dv = .int .i64 e ∧ Ext wc wr) (fun dv _ => 5 - (intOf dv).toNat)
            case atStart => exact ⟨0, by omega, rfl, Ext.refl _⟩
            case round =>
              obtain ⟨e, he, rfl, hxe⟩ := hrel
              by_cases he5 : e < 5
              · have HTe := Lib.hid (HTA.out.ext hxe)
                have F1 := fun W (hW : Ext wr W) => fixed_own na e (HTe.out.a.keep hW)
                have F2 := fun W (hW : Ext wr W) => rfixed_calls _ W q v1 v2 F' C' na e (HTe.out.b.ext hW) (by omega)
                have HTC := HTe.out.a.ext
                have he0 := Lib.hid (show e + 1 ≤ 5 from he5)
                have hei : (e : Int) < 5 := by omega
                obtain ⟨z0, z1, z2, z3, z4, z5⟩ := hcx wr HTC
                generalize (F'.lookup (na, (e : Int))).getD 0 = l1 at *
                generalize (F'.lookup (na, (e : Int))).isSome = l2 at *
                go_upto_region 18 with fail
                go_region_held3 (fun W => W.cell? (ad.add (j * 6)) = some (.bool b0) ∧ W.cell? ⟨(ad.add (j * 6)).block, (ad.add (j * 6)).off + 1, none⟩ = some (.int .i64 b1) ∧ W.cell? ⟨(ad.add (j * 6)).block, (ad.add (j * 6)).off + 2, none⟩ = some (.int .i64 b2) ∧ W.cell? ⟨(ad.add (j * 6)).block, (ad.add (j * 6)).off + 3, none⟩ = some (.int .i64 b3) ∧ W.cell? ⟨(ad.add (j * 6)).block, (ad.add (j * 6)).off + 4, none⟩ = some (.int .i64 b4) ∧ W.cell? ⟨(ad.add (j * 6)).block, (ad.add (j * 6)).off + 5, none⟩ = some (.string b5)) (go_keep)
                  (first | (go_at_call 43; (with_reducible refine (NA _).mono ?_); rintro e0 w5 ⟨rfl, hxw5⟩; have hEw5 : Ext wr w5 := ((by repeat' (first | (with_reducible exact Ext.refl _) | (with_reducible assumption) | (with_reducible refine Ext.alloc ?_ _) | (with_reducible refine Ext.drew ?_) | (with_reducible refine Ext.drewN ?_ _) | (with_reducible refine Ext.setCell ?_ (by first | exact Nat.le_refl _ | (simp; done) | (simp; omega) | omega) _) | (with_reducible refine Ext.trans ?_ (by assumption))))); obtain ⟨z0, z1, z2, z3, z4, z5⟩ := hcx w5 (HTC.trans hEw5)) | (go_at_call 37; (with_reducible refine (F1 _ ((by repeat' (first | (with_reducible exact Ext.refl _) | (with_reducible assumption) | (with_reducible refine Ext.alloc ?_ _) | (with_reducible refine Ext.drew ?_) | (with_reducible refine Ext.drewN ?_ _) | (with_reducible refine Ext.setCell ?_ (by first | exact Nat.le_refl _ | (simp; done) | (simp; omega) | omega) _) | (with_reducible refine Ext.trans ?_ (by assumption)))))).mono ?_); rintro e0 w6 ⟨rfl, rfl⟩))
                go_upto_region 19 with fail
                go_region_held3 (fun W => W.cell? (ad.add (j * 6)) = some (.bool b0) ∧ W.cell? ⟨(ad.add (j * 6)).block, (ad.add (j * 6)).off + 1, none⟩ = some (.int .i64 b1) ∧ W.cell? ⟨(ad.add (j * 6)).block, (ad.add (j * 6)).off + 2, none⟩ = some (.int .i64 b2) ∧ W.cell? ⟨(ad.add (j * 6)).block, (ad.add (j * 6)).off + 3, none⟩ = some (.int .i64 b3) ∧ W.cell? ⟨(ad.add (j * 6)).block, (ad.add (j * 6)).off + 4, none⟩ = some (.int .i64 b4) ∧ W.cell? ⟨(ad.add (j * 6)).block, (ad.add (j * 6)).off + 5, none⟩ = some (.string b5)) (go_keep)
                  (first | (go_at_call 43; (with_reducible refine (NA _).mono ?_); rintro e0 w7 ⟨rfl, hxw7⟩; have hEw7 : Ext wr w7 := ((by repeat' (first | (with_reducible exact Ext.refl _) | (with_reducible assumption) | (with_reducible refine Ext.alloc ?_ _) | (with_reducible refine Ext.drew ?_) | (with_reducible refine Ext.drewN ?_ _) | (with_reducible refine Ext.setCell ?_ (by first | exact Nat.le_refl _ | (simp; done) | (simp; omega) | omega) _) | (with_reducible refine Ext.trans ?_ (by assumption))))); obtain ⟨z0, z1, z2, z3, z4, z5⟩ := hcx w7 (HTC.trans hEw7)) | (go_at_call 44; (with_reducible refine (F2 _ ((by repeat' (first | (with_reducible exact Ext.refl _) | (with_reducible assumption) | (with_reducible refine Ext.alloc ?_ _) | (with_reducible refine Ext.drew ?_) | (with_reducible refine Ext.drewN ?_ _) | (with_reducible refine Ext.setCell ?_ (by first | exact Nat.le_refl _ | (simp; done) | (simp; omega) | omega) _) | (with_reducible refine Ext.trans ?_ (by assumption)))))).mono ?_); rintro e0 w8 ⟨rfl, hx8⟩; have hE8 : Ext wr w8 := ((by repeat' (first | (with_reducible exact Ext.refl _) | (with_reducible assumption) | (with_reducible refine Ext.alloc ?_ _) | (with_reducible refine Ext.drew ?_) | (with_reducible refine Ext.drewN ?_ _) | (with_reducible refine Ext.setCell ?_ (by first | exact Nat.le_refl _ | (simp; done) | (simp; omega) | omega) _) | (with_reducible refine Ext.trans ?_ (by assumption))))); obtain ⟨z0, z1, z2, z3, z4, z5⟩ := hcx w8 (HTC.trans hE8)))
                have hE9 := Lib.hid (hxe.trans hE8)
                clear F1 F2
                go_wp2_with fail
                go_roundw
                case rel => exact ⟨e + 1, he0.out, by go_num, hE9.out⟩
                case measure => simp [intOf]; omega
              · have HTe := Lib.hid (HTA.out.ext hxe)
                have F1 := fun W (hW : Ext wr W) => chosen_own na nb (HTe.out.a.keep hW)
                have F2 := fun W (hW : Ext wr W) => rchosen_calls _ W q v1 v2 F' C' na nb (HTe.out.b.ext hW) (by omega)
                have HTC := HTe.out.a.ext
                have hei : ¬ ((e : Int) < 5) := by omega
                obtain ⟨z0, z1, z2, z3, z4, z5⟩ := hcx wr HTC
                unfold Ret3 at F1 F2
                generalize ((C'.lookup (na, nb)).getD (0, 0)).1 = l1 at *
                generalize ((C'.lookup (na, nb)).getD (0, 0)).2 = l2 at *
                generalize (C'.lookup (na, nb)).isSome = l3 at *
                go_upto_region 22 with fail
                go_region_held3 (fun W => W.cell? (ad.add (j * 6)) = some (.bool b0) ∧ W.cell? ⟨(ad.add (j * 6)).block, (ad.add (j * 6)).off + 1, none⟩ = some (.int .i64 b1) ∧ W.cell? ⟨(ad.add (j * 6)).block, (ad.add (j * 6)).off + 2, none⟩ = some (.int .i64 b2) ∧ W.cell? ⟨(ad.add (j * 6)).block, (ad.add (j * 6)).off + 3, none⟩ = some (.int .i64 b3) ∧ W.cell? ⟨(ad.add (j * 6)).block, (ad.add (j * 6)).off + 4, none⟩ = some (.int .i64 b4) ∧ W.cell? ⟨(ad.add (j * 6)).block, (ad.add (j * 6)).off + 5, none⟩ = some (.string b5)) (go_keep)
                  (first | (go_at_call 43; (with_reducible refine (NA _).mono ?_); rintro e0 w5 ⟨rfl, hxw5⟩; have hEw5 : Ext wr w5 := ((by repeat' (first | (with_reducible exact Ext.refl _) | (with_reducible assumption) | (with_reducible refine Ext.alloc ?_ _) | (with_reducible refine Ext.drew ?_) | (with_reducible refine Ext.drewN ?_ _) | (with_reducible refine Ext.setCell ?_ (by first | exact Nat.le_refl _ | (simp; done) | (simp; omega) | omega) _) | (with_reducible refine Ext.trans ?_ (by assumption))))); obtain ⟨z0, z1, z2, z3, z4, z5⟩ := hcx w5 (HTC.trans hEw5)) | (go_at_call 43; (with_reducible refine (NB _).mono ?_); rintro e0 w6 ⟨rfl, hxw6⟩; have hEw6 : Ext wr w6 := ((by repeat' (first | (with_reducible exact Ext.refl _) | (with_reducible assumption) | (with_reducible refine Ext.alloc ?_ _) | (with_reducible refine Ext.drew ?_) | (with_reducible refine Ext.drewN ?_ _) | (with_reducible refine Ext.setCell ?_ (by first | exact Nat.le_refl _ | (simp; done) | (simp; omega) | omega) _) | (with_reducible refine Ext.trans ?_ (by assumption))))); obtain ⟨z0, z1, z2, z3, z4, z5⟩ := hcx w6 (HTC.trans hEw6)) | (go_at_call 38; (with_reducible refine (F1 _ ((by repeat' (first | (with_reducible exact Ext.refl _) | (with_reducible assumption) | (with_reducible refine Ext.alloc ?_ _) | (with_reducible refine Ext.drew ?_) | (with_reducible refine Ext.drewN ?_ _) | (with_reducible refine Ext.setCell ?_ (by first | exact Nat.le_refl _ | (simp; done) | (simp; omega) | omega) _) | (with_reducible refine Ext.trans ?_ (by assumption)))))).mono ?_); rintro e0 w7 ⟨rfl, hO7, hx7⟩; have hE7 : Ext wr w7 := ((by repeat' (first | (with_reducible exact Ext.refl _) | (with_reducible assumption) | (with_reducible refine Ext.alloc ?_ _) | (with_reducible refine Ext.drew ?_) | (with_reducible refine Ext.drewN ?_ _) | (with_reducible refine Ext.setCell ?_ (by first | exact Nat.le_refl _ | (simp; done) | (simp; omega) | omega) _) | (with_reducible refine Ext.trans ?_ (by assumption))))); obtain ⟨z0, z1, z2, z3, z4, z5⟩ := hcx w7 (HTC.trans hE7)))
                clear hO7
                go_upto_region 23 with fail
                go_region_held3 (fun W => W.cell? (ad.add (j * 6)) = some (.bool b0) ∧ W.cell? ⟨(ad.add (j * 6)).block, (ad.add (j * 6)).off + 1, none⟩ = some (.int .i64 b1) ∧ W.cell? ⟨(ad.add (j * 6)).block, (ad.add (j * 6)).off + 2, none⟩ = some (.int .i64 b2) ∧ W.cell? ⟨(ad.add (j * 6)).block, (ad.add (j * 6)).off + 3, none⟩ = some (.int .i64 b3) ∧ W.cell? ⟨(ad.add (j * 6)).block, (ad.add (j * 6)).off + 4, none⟩ = some (.int .i64 b4) ∧ W.cell? ⟨(ad.add (j * 6)).block, (ad.add (j * 6)).off + 5, none⟩ = some (.string b5)) (go_keep)
                  (first | (go_at_call 43; (with_reducible refine (NA _).mono ?_); rintro e0 w8 ⟨rfl, hxw8⟩; have hEw8 : Ext w7 w8 := ((by repeat' (first | (with_reducible exact Ext.refl _) | (with_reducible assumption) | (with_reducible refine Ext.alloc ?_ _) | (with_reducible refine Ext.drew ?_) | (with_reducible refine Ext.drewN ?_ _) | (with_reducible refine Ext.setCell ?_ (by first | exact Nat.le_refl _ | (simp; done) | (simp; omega) | omega) _) | (with_reducible refine Ext.trans ?_ (by assumption))))); obtain ⟨z0, z1, z2, z3, z4, z5⟩ := hcx w8 ((HTC.trans hE7).trans hEw8)) | (go_at_call 43; (with_reducible refine (NB _).mono ?_); rintro e0 w9 ⟨rfl, hxw9⟩; have hEw9 : Ext w7 w9 := ((by repeat' (first | (with_reducible exact Ext.refl _) | (with_reducible assumption) | (with_reducible refine Ext.alloc ?_ _) | (with_reducible refine Ext.drew ?_) | (with_reducible refine Ext.drewN ?_ _) | (with_reducible refine Ext.setCell ?_ (by first | exact Nat.le_refl _ | (simp; done) | (simp; omega) | omega) _) | (with_reducible refine Ext.trans ?_ (by assumption))))); obtain ⟨z0, z1, z2, z3, z4, z5⟩ := hcx w9 ((HTC.trans hE7).trans hEw9)) | (go_at_call 45; (with_reducible refine (F2 _ ((by repeat' (first | (with_reducible exact Ext.refl _) | (with_reducible assumption) | (with_reducible refine Ext.alloc ?_ _) | (with_reducible refine Ext.drew ?_) | (with_reducible refine Ext.drewN ?_ _) | (with_reducible refine Ext.setCell ?_ (by first | exact Nat.le_refl _ | (simp; done) | (simp; omega) | omega) _) | (with_reducible refine Ext.trans ?_ (by assumption)))))).mono ?_); rintro e0 wa ⟨rfl, hxa⟩; have hEa : Ext w7 wa := ((by repeat' (first | (with_reducible exact Ext.refl _) | (with_reducible assumption) | (with_reducible refine Ext.alloc ?_ _) | (with_reducible refine Ext.drew ?_) | (with_reducible refine Ext.drewN ?_ _) | (with_reducible refine Ext.setCell ?_ (by first | exact Nat.le_refl _ | (simp; done) | (simp; omega) | omega) _) | (with_reducible refine Ext.trans ?_ (by assumption))))); obtain ⟨z0, z1, z2, z3, z4, z5⟩ := hcx wa ((HTC.trans hE7).trans hEa)))
                have hE9 := Lib.hid ((hxe.trans hE7).trans hEa)
                clear F1 F2 HTe
                go_wp2_with fail
                go_roundw
                case rel => exact ⟨j + 1, F', C', v1, v2, hj0.out.1, hj0.out.2, by go_num, hsz1, hsz2, HTA.out.ext hE9.out⟩
                case measure => simp [intOf]; omega
      · obtain rfl : j = 40 := by omega
        have hji : (40 : Int) < (sn : Int) := by omega
        have hT0 := Lib.hid hT
        clear hT
        (go_wp2_with fail; (with_reducible refine (wakes08_calls _).mono ?_); rintro e w' ⟨rfl, hx9⟩)
        go_wp2
        go_ret
        exact ⟨rfl, hT0.out.a.ext.trans hx9⟩
    · obtain rfl : j = sn := by omega
      have hT0 := Lib.hid hT
      clear hT
      (go_wp2_with fail; (with_reducible refine (wakes08_calls _).mono ?_); rintro e w' ⟨rfl, hx9⟩)
      go_wp2
      go_ret
      exact ⟨rfl, hT0.out.a.ext.trans hx9⟩

end Go.Proofs.Ytgjjngkmbplijaa
