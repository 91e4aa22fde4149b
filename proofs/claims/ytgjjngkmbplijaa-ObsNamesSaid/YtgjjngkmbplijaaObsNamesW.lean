/- The walk of the law ObsNames. -/
import Derived.Test.YtgjjngkmbplijaaLaw04
namespace Go.Proofs.Ytgjjngkmbplijaa
open Go.RowKit
set_option linter.unusedSimpArgs false
set_option linter.unusedVariables false

theorem addNew_mem {L : List ByteArray} {s t : ByteArray} : t ∈ addNew L s ↔ t ∈ L ∨ t = s := by
  unfold addNew
  split
  · rename_i h
    obtain ⟨x, hx, he⟩ := List.any_eq_true.1 h
    have := LawfulBEq.eq_of_beq he
    subst this
    exact ⟨.inl, fun h => h.elim id (fun h => h ▸ hx)⟩
  · simp
theorem addNew_nodup {L : List ByteArray} (h : L.Nodup) (s : ByteArray) : (addNew L s).Nodup := by
  unfold addNew
  split
  · exact h
  · rename_i hn
    rw [List.nodup_append]
    refine ⟨h, by simp, fun a ha b hb => ?_⟩
    simp at hb
    subst hb
    intro e
    subst e
    exact hn (List.any_eq_true.2 ⟨a, ha, by simp⟩)
theorem addAll_nodup {L : List ByteArray} (h : L.Nodup) (N : List ByteArray) : (addAll L N).Nodup := by
  unfold addAll
  induction N generalizing L with
  | nil => exact h
  | cons s t ih => exact ih (addNew_nodup h s)
theorem addNew_in {L : List ByteArray} {s : ByteArray} (h : s ∈ L) : addNew L s = L := by
  unfold addNew; rw [if_pos (List.any_eq_true.2 ⟨s, h, by simp⟩)]
theorem addNew_out {L : List ByteArray} {s : ByteArray} (h : s ∉ L) : addNew L s = L ++ [s] := by
  unfold addNew
  rw [if_neg]
  intro hn
  obtain ⟨x, hx, he⟩ := List.any_eq_true.1 hn
  have := LawfulBEq.eq_of_beq he
  subst this
  exact h hx
theorem addAll_in {L N : List ByteArray} (h : ∀ s ∈ N, s ∈ L) : addAll L N = L := by
  unfold addAll
  induction N with
  | nil => rfl
  | cons s t ih => rw [List.foldl_cons, addNew_in (h s (List.mem_cons_self ..))]; exact ih (fun x hx => h x (List.mem_cons_of_mem _ hx))
theorem addAll_new {L N : List ByteArray} (h : (L ++ N).Nodup) : addAll L N = L ++ N := by
  unfold addAll
  induction N generalizing L with
  | nil => simp
  | cons s t ih =>
    have hs : s ∉ L := fun hm => by
      have := (List.nodup_append.1 h).2.2 s hm s (List.mem_cons_self ..)
      exact this rfl
    rw [List.foldl_cons, addNew_out hs, ih (by simpa using h)]
    simp
theorem Ob.names_nodup (o : Ob) : o.names.Nodup := by
  cases o <;> simp only [Ob.names] <;> first
    | exact addAll_nodup (addAll_nodup List.nodup_nil _) _
    | exact addAll_nodup List.nodup_nil _
    | simp

def nm (x : Int) : ByteArray := nameB ⟨#[110]⟩ x 5
def NO (l : List Int) : Ob := l.foldl (fun o x => .add o (.fix (nm x))) (.const 1)
def WN (l : List Int) : List ByteArray := l.foldl (fun L x => addNew L (nm x)) []
theorem NO_take {l : List Int} {j : Nat} {x : Int} (h : l[j]? = some x) : NO (l.take (j + 1)) = .add (NO (l.take j)) (.fix (nm x)) := by
  unfold NO; rw [List.take_add_one, h]; simp
theorem WN_take {l : List Int} {j : Nat} {x : Int} (h : l[j]? = some x) : WN (l.take (j + 1)) = addNew (WN (l.take j)) (nm x) := by
  unfold WN; rw [List.take_add_one, h]; simp
theorem NO_snoc (l : List Int) (x : Int) : NO (l ++ [x]) = .add (NO l) (.fix (nm x)) := by simp [NO]
theorem WN_snoc (l : List Int) (x : Int) : WN (l ++ [x]) = addNew (WN l) (nm x) := by simp [WN]
theorem rev_ind {α : Type} {p : List α → Prop} (l : List α) (h0 : p []) (h1 : ∀ l a, p l → p (l ++ [a])) : p l := by
  suffices ∀ (r : List α), p r.reverse by simpa using this l.reverse
  intro r
  induction r with
  | nil => exact h0
  | cons a t ih => rw [List.reverse_cons]; exact h1 _ _ ih
theorem NO_names (l : List Int) : (NO l).names = WN l := by
  induction l using rev_ind with
  | h0 => rfl
  | h1 l x ih =>
    rw [NO_snoc, WN_snoc, Ob.names, ← ih]
    rw [show addAll [] (NO l).names = (NO l).names from by have := addAll_new (L := []) (N := (NO l).names) (by simpa using (NO l).names_nodup); simpa using this]
    rfl
theorem NO_mul (l : List Int) : (Ob.mul (NO l) (NO l)).names = WN l := by
  rw [Ob.names]
  rw [show addAll [] (NO l).names = (NO l).names from by have := addAll_new (L := []) (N := (NO l).names) (by simpa using (NO l).names_nodup); simpa using this]
  rw [addAll_in (fun s h => h), NO_names]
theorem NO_nodes (l : List Int) : (NO l).nodes = 2 * l.length + 1 := by
  induction l using rev_ind with
  | h0 => rfl
  | h1 l x ih => rw [NO_snoc, Ob.nodes, ih, Ob.nodes, List.length_append]; simp; omega
theorem nm_size (x : Int) : (nm x).size = 2 := by
  unfold nm nameB
  rw [ByteArray.size_append]
  rfl
theorem NO_wf (l : List Int) : (NO l).wf := by
  induction l using rev_ind with
  | h0 => exact ⟨by omega, by omega⟩
  | h1 l x ih => rw [NO_snoc]; exact ⟨ih, by show (nm x).size ≤ 1000; rw [nm_size]; omega⟩
theorem NO_kids (l : List Int) : (NO l).kids.length = if l.length = 0 then 0 else 2 := by
  induction l using rev_ind with
  | h0 => rfl
  | h1 l x ih => rw [NO_snoc]; simp [Ob.kids]
theorem WN_len (l : List Int) : (WN l).length ≤ l.length := by
  induction l using rev_ind with
  | h0 => simp [WN]
  | h1 l x ih => rw [WN_snoc]; have := addNew_len (WN l) (nm x); simp; omega
theorem NO_form (l : List Int) : ∃ t x, (NO l).val = .iface t x := by
  induction l using rev_ind with
  | h0 => exact ⟨_, _, rfl⟩
  | h1 l x ih => rw [NO_snoc]; exact ⟨_, _, rfl⟩
theorem any_comm (L : List ByteArray) (s : ByteArray) : (L.any fun x => x == s) = (L.any fun x => s == x) := by
  congr 1; funext x; exact Bool.beq_comm

set_option maxRecDepth 100000 in
set_option maxHeartbeats 1600000 in
theorem obsNames_walk (a : Option Addr) (n c0 : Nat) (l : List Int) (w : World) (w0 : InInts w a n c0 l) :
    Calls Try.prog 8 #[.slice a n c0] w fun e w' => e = .returned (.bool true) ∧ Ext w w' := by
  obtain ⟨hr, hnc, hcm, hwf⟩ := w0
  have hlen : l.length = n := by have := hr.1; simpa [ints] using this
  have HL := Lib.hid hlen
  have HW := Lib.hid hwf
  clear hlen hwf
  unfold maxLen at hcm
  go_enter Try.func8, Try.ntmps8
  go_wp2_with fail
  go_loopw [5, 3, 4] (fun i o v wr => ∃ (j : Nat) (A : Option Addr) (C : Nat) (L : List ByteArray), j ≤ n ∧ j ≤ 8 ∧ i = .int .i64 j ∧ o = (NO (l.take j)).val ∧ v = .slice A L.length C ∧ L = WN (l.take j) ∧ wr.ownsRow w.heap.size 9 1 (.slice A L.length C) L.length (strVals L) ∧ Ext w wr) (fun i _ _ _ => 8 - (intOf i).toNat)
  case atStart => exact ⟨0, none, 0, [], by omega, by omega, rfl, rfl, rfl, rfl, World.ownsRow_nil _ _ _ _, Ext.refl w⟩
  case round =>
    obtain ⟨j, A, C, L, hj, hj8, rfl, rfl, rfl, hL, hown, hx⟩ := hrel
    by_cases hlt : j < n ∧ j < 8
    · obtain ⟨hlt, hlt8⟩ := hlt
      obtain ⟨ad, u, rfl, hu, hc⟩ := (hr.ext hx).at1 hlt
      simp only [ints, List.getElem?_map] at hu
      cases hxl : l[j]? with
      | none => rw [hxl] at hu; cases hu
      | some x =>
        rw [hxl] at hu
        obtain rfl : u = .int .i64 x := by simpa using hu.symm
        have hb := i64_of (HW.out x (List.mem_of_getElem? hxl))
        have hO := Lib.hid (NO_take hxl)
        have hW := Lib.hid (WN_take hxl)
        have hL0 := Lib.hid hL
        have hn5 := Lib.hid (show nm x = nameB ⟨#[110]⟩ x 5 from rfl)
        have hLl := Lib.hid (show L.length + 1 ≤ 9 by have := WN_len (l.take j); rw [← hL, List.length_take] at this; omega)
        clear hr hu hxl hL
        obtain ⟨tO, xO, eO⟩ := NO_form (l.take j)
        generalize NO (l.take j) = O at *
        rw [eO]
        have eO := Lib.hid eO
        have t1 : decide ((j : Int) < (n : Int)) = true := by simp; omega
        have t2 : decide ((j : Int) < 8) = true := by simp; omega
        (go_wp2_with fail; (with_reducible refine (kname_calls _ _ _ _ (by omega) hb.1 hb.2 (by decide)).mono ?_); rintro e w' ⟨rfl, hx2⟩)
        rw [← hn5.out]
        generalize nm x = s at *
        have hown2 := Lib.hid (hx2.own hown)
        have hx3 := hx.trans hx2
        clear hown hx hx2 hc hb hn5
        go_wp2_with fail
        have hj0 := Lib.hid (show j + 1 ≤ n ∧ j + 1 ≤ 8 from ⟨hlt, hlt8⟩)
        go_loopw [34, 7] (fun i v wr => ∃ k : Nat, k ≤ L.length ∧ i = .int .i64 k ∧ v = .bool ((L.take k).any fun x => s == x) ∧ wr = w') (fun i _ _ => L.length - (intOf i).toNat)
        case atStart => exact ⟨0, by omega, rfl, rfl, rfl⟩
        case round =>
          obtain ⟨k, hk, rfl, rfl, rfl⟩ := hrel
          have hLs := hLl.out
          by_cases hlt3 : k < L.length
          · obtain ⟨y, e1, hv⟩ := strVals_at hlt3
            obtain ⟨ad2, u, rfl, hu, hc⟩ := (Rd.of_own hown2.out).at1 hlt3
            obtain rfl : Value.string y = u := by rw [hv] at hu; injection hu
            have hs := Lib.hid (any_take_succ (p := fun x => s == x) e1)
            have hk0 := Lib.hid (show k + 1 ≤ L.length from hlt3)
            have hCC := Lib.hid (own_form hown2.out)
            clear hv hu e1
            cases hb : (L.take k).any fun x => s == x with
            | true =>
              go_wp2_with fail
              go_roundw
              case rel => exact ⟨k + 1, hk0.out, by go_num, by rw [hs.out, hb]; rfl, trivial⟩
              case measure => simp [intOf]; omega
            | false =>
              cases hp : y.toList == s.toList with
              | true =>
                go_wp2_with fail
                go_roundw
                case rel => exact ⟨k + 1, hk0.out, by go_num, by rw [hs.out, hb, ← bytes_beq, Bool.beq_comm, hp]; rfl, trivial⟩
                case measure => simp [intOf]; omega
              | false =>
                go_wp2_with fail
                go_roundw
                case rel => exact ⟨k + 1, hk0.out, by go_num, by rw [hs.out, hb, ← bytes_beq, Bool.beq_comm, hp]; rfl, trivial⟩
                case measure => simp [intOf]; omega
          · obtain rfl : k = L.length := by omega
            rw [List.take_length]
            cases hb : L.any fun x => s == x with
            | true =>
              have hadd := Lib.hid (show addNew L s = L by unfold addNew; rw [if_pos hb])
              go_wp2_with fail
              go_roundw
              case rel => exact ⟨j + 1, A, C, L, hj0.out.1, hj0.out.2, by go_num, by rw [hO.out, ← eO.out]; rfl, rfl, by rw [hW.out, ← hL0.out, hadd.out], hown2.out, hx3⟩
              case measure => simp [intOf]; omega
            | false =>
              have hadd := Lib.hid (show addNew L s = L ++ [s] by unfold addNew; rw [if_neg (by rw [hb]; simp)])
              have hown3 := hown2.out
              have h63 : L.length + 1 ≤ maxLen := by have := hLl.out; unfold maxLen; omega
              have hby : (L.length + 1) * 16 ≤ 140737488355328 := by have := hLl.out; omega
              go_wp2_with (at_builtin; refine wpList_app elemStr rfl _ _ rfl w.heap.size (.slice A L.length C) L.length (strVals L) rfl (hown3.alloc _) _ 1 1 [.string s] rfl (Rd.new _ #[.string s] _ 1 1 rfl) (by simp [Value.oneCell']) h63 hby (by have := hx3.le; simp; omega) ?_; intro v1 w1 hown1 hg1 hat1)
              have hx4 := Lib.hid ((hx3.alloc _).grown hg1 (fun k hk => (hown3.lt k hk).1))
              obtain ⟨A6, C6, rfl, h6, h7⟩ := own_form hown1
              have e7 := Lib.hid (show (L ++ [s]).length = L.length + 1 by simp)
              have hown4 := Lib.hid hown1
              clear hown1 hg1 hat1 hown3 h63 hby
              go_wp2_with fail
              go_roundw
              case rel => exact ⟨j + 1, A6, C6, L ++ [s], hj0.out.1, hj0.out.2, by go_num, by rw [hO.out, ← eO.out]; rfl, by rw [e7.out], by rw [hW.out, ← hL0.out, hadd.out], by rw [e7.out, strVals_app]; exact hown4.out, hx4.out⟩
              case measure => simp [intOf]; omega
    · have hjm : j = min n 8 := by omega
      have N1 := NO_names (l.take j)
      have N2 := NO_mul (l.take j)
      have N3 := NO_kids (l.take j)
      have N4 := NO_nodes (l.take j)
      have N5 := NO_wf (l.take j)
      have N6 : (l.take j).length = j := by rw [List.length_take, HL.out]; omega
      obtain ⟨tO, xO, eO⟩ := NO_form (l.take j)
      rw [← hL] at N1 N2
      rw [N6] at N3 N4
      clear hr HL HW N6 hL
      generalize NO (l.take j) = O at *
      have H1 := fun w' => onames_calls _ O w' (Nat.lt_succ_self _) N5 (by omega)
      have H2 := fun w' => onames_calls _ (.mul O O) w' (Nat.lt_succ_self _) ⟨N5, N5⟩ (by simp only [Ob.nodes]; omega)
      have H3 := fun w' => kids_calls O w' N5
      rw [N1] at H1
      rw [N2] at H2
      simp only [Ob.val] at H2
      have HS := fun (w' : World) a c h1 h2 h3 a2 c2 h4 h5 h6 => ksame_calls L L a c a2 c2 w' h1 h2 h3 h4 h5 h6
      rw [show (L == L) = true by simp] at HS
      obtain ⟨A4, C4, e4, hq1, hq2⟩ := own_form hown
      injection e4 with e4 e5 e6
      subst e4 e6
      clear e5
      have hrd := Rd.of_own hown
      have t1 : (decide ((j : Int) < (n : Int)) && decide ((j : Int) < 8)) = false := by simp; omega
      generalize O.kids.length = kl at *
      generalize obVals O.kids = xs at *
      rw [eO]
      rw [eO] at H1 H2 H3
      clear N1 N2 N4 N5 eO hown
      by_cases hj0 : j = 0
      · rw [if_pos hj0] at N3
        have hn0 : n = 0 := by omega
        subst N3
        have t2 : decide ((j : Int) < (n : Int)) = false := by simp; omega
        clear t1 hjm hlt
        (go_wp2_with fail; (with_reducible refine (H1 _).mono ?_); rintro e w' ⟨nv, rfl, ho1, hx1⟩)
        obtain ⟨B1, D1, rfl, hp1, hp2⟩ := own_form ho1
        (go_wp2_with fail; (with_reducible refine (HS _ _ _ (Rd.of_own ho1) hp1 hp2 _ _ (hrd.ext hx1) hq1 hq2).mono ?_); rintro e w' ⟨rfl, hx2⟩)
        have hrd2 := (hrd.ext hx1).ext hx2
        have hx5 := (hx.trans hx1).trans hx2
        clear ho1 hx1 hx2 hx hrd H1
        (go_wp2_with fail; (with_reducible refine (H2 _).mono ?_); rintro e w' ⟨nv, rfl, ho1, hx1⟩)
        obtain ⟨B2, D2, rfl, hp3, hp4⟩ := own_form ho1
        (go_wp2_with fail; (with_reducible refine (HS _ _ _ (Rd.of_own ho1) hp3 hp4 _ _ (hrd2.ext hx1) hq1 hq2).mono ?_); rintro e w' ⟨rfl, hx2⟩)
        have hx6 := (hx5.trans hx1).trans hx2
        clear ho1 hx1 hx2 hx5 hrd2 H2 HS
        (go_wp2_with fail; (with_reducible refine (H3 _).mono ?_); rintro e w' ⟨q, c3, rfl, hk1, hk2, hk3, hx7⟩)
        (go_wp2_with fail; (with_reducible refine (wakes04_calls _).mono ?_); rintro e w' ⟨rfl, hx8⟩)
        go_wp2
        go_ret
        exact ⟨rfl, (hx6.trans hx7).trans hx8⟩
      · rw [if_neg hj0] at N3
        subst N3
        have hn1 : 1 ≤ n := by omega
        by_cases h1 : j < n
        · have h2 : ¬ j < 8 := by omega
          have t2 : decide ((j : Int) < (n : Int)) = true := by simp; omega
          have t3 : decide ((j : Int) < 8) = false := by simp; omega
          clear t1 hjm hlt
          (go_wp2_with fail; (with_reducible refine (H1 _).mono ?_); rintro e w' ⟨nv, rfl, ho1, hx1⟩)
          obtain ⟨B1, D1, rfl, hp1, hp2⟩ := own_form ho1
          (go_wp2_with fail; (with_reducible refine (HS _ _ _ (Rd.of_own ho1) hp1 hp2 _ _ (hrd.ext hx1) hq1 hq2).mono ?_); rintro e w' ⟨rfl, hx2⟩)
          have hrd2 := (hrd.ext hx1).ext hx2
          have hx5 := (hx.trans hx1).trans hx2
          clear ho1 hx1 hx2 hx hrd H1
          (go_wp2_with fail; (with_reducible refine (H2 _).mono ?_); rintro e w' ⟨nv, rfl, ho1, hx1⟩)
          obtain ⟨B2, D2, rfl, hp3, hp4⟩ := own_form ho1
          (go_wp2_with fail; (with_reducible refine (HS _ _ _ (Rd.of_own ho1) hp3 hp4 _ _ (hrd2.ext hx1) hq1 hq2).mono ?_); rintro e w' ⟨rfl, hx2⟩)
          have hx6 := (hx5.trans hx1).trans hx2
          clear ho1 hx1 hx2 hx5 hrd2 H2 HS
          (go_wp2_with fail; (with_reducible refine (H3 _).mono ?_); rintro e w' ⟨q, c3, rfl, hk1, hk2, hk3, hx7⟩)
          (go_wp2_with fail; (with_reducible refine (wakes04_calls _).mono ?_); rintro e w' ⟨rfl, hx8⟩)
          go_wp2
          go_ret
          exact ⟨rfl, (hx6.trans hx7).trans hx8⟩
        · obtain rfl : n = j := by omega
          clear t1 hjm hlt hj h1
          (go_wp2_with fail; (with_reducible refine (H1 _).mono ?_); rintro e w' ⟨nv, rfl, ho1, hx1⟩)
          obtain ⟨B1, D1, rfl, hp1, hp2⟩ := own_form ho1
          (go_wp2_with fail; (with_reducible refine (HS _ _ _ (Rd.of_own ho1) hp1 hp2 _ _ (hrd.ext hx1) hq1 hq2).mono ?_); rintro e w' ⟨rfl, hx2⟩)
          have hrd2 := (hrd.ext hx1).ext hx2
          have hx5 := (hx.trans hx1).trans hx2
          clear ho1 hx1 hx2 hx hrd H1
          (go_wp2_with fail; (with_reducible refine (H2 _).mono ?_); rintro e w' ⟨nv, rfl, ho1, hx1⟩)
          obtain ⟨B2, D2, rfl, hp3, hp4⟩ := own_form ho1
          (go_wp2_with fail; (with_reducible refine (HS _ _ _ (Rd.of_own ho1) hp3 hp4 _ _ (hrd2.ext hx1) hq1 hq2).mono ?_); rintro e w' ⟨rfl, hx2⟩)
          have hx6 := (hx5.trans hx1).trans hx2
          clear ho1 hx1 hx2 hx5 hrd2 H2 HS
          (go_wp2_with fail; (with_reducible refine (H3 _).mono ?_); rintro e w' ⟨q, c3, rfl, hk1, hk2, hk3, hx7⟩)
          by_cases hn2 : n = 1
          · subst hn2
            (go_wp2_with fail; (with_reducible refine (wakes04_calls _).mono ?_); rintro e w' ⟨rfl, hx8⟩)
            go_wp2
            go_ret
            exact ⟨rfl, (hx6.trans hx7).trans hx8⟩
          · have hn3 : (2 : Int) ≤ n := by omega
            clear hn1 hj0 hj8 hn2
            (go_wp2_with fail; (with_reducible refine (wakes04_calls _).mono ?_); rintro e w' ⟨rfl, hx8⟩)
            go_wp2
            go_ret
            exact ⟨rfl, (hx6.trans hx7).trans hx8⟩

end Go.Proofs.Ytgjjngkmbplijaa
