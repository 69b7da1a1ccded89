/- Joined of: W2. -/
import Derived.Test.YtminphldifncaaaDoorG05
import Derived.Test.YtminphldifncaaaDoorW1
/- Walks of both Accounts. -/
set_option linter.unusedSimpArgs false
set_option linter.unusedVariables false
namespace Go.Proofs.YtminphldifncaaaDoor
open Go.RowKit LG
attribute [local go_sem] alloc_drewN setCell_drewN shape_drewN

theorem cell_one_at {w : World} {b : Nat} (hb : w.heap.size = b) (e : Nat) (x : Value) : ∀ j u, [x][j]? = some u → (w.alloc (.cells #[x] e)).cell? ((⟨b, 0, none⟩ : Addr).add j) = some u := by
  subst hb; exact cell_one_new _ _ _
def intsV (l : List Int) : List Value := l.map (Value.int .i64)
def litsT (p : Et → Bool) (l : List Et) (k : Nat) : List Int := lits ((l.take k).filter p)
theorem litsT_succ (p : Et → Bool) (l : List Et) {k : Nat} {e : Et} (h : l[k]? = some e) : litsT p l (k + 1) = if p e then litsT p l k ++ [e.litres] else litsT p l k := by
  unfold litsT lits
  rw [List.take_add_one, h]
  cases hp : p e <;> simp [hp]
theorem litsT_end (p : Et → Bool) (l : List Et) : litsT p l l.length = lits (l.filter p) := by unfold litsT; rw [List.take_length]
theorem litsT_len (p : Et → Bool) (l : List Et) (k : Nat) : (litsT p l k).length ≤ l.length := by
  unfold litsT lits
  rw [List.length_map]
  exact Nat.le_trans (List.length_filter_le _ _) (by rw [List.length_take]; omega)
def LitsIn (l : List Et) : Prop := ∀ e ∈ l, In64 e.litres
theorem litsT_in {l : List Et} (h : LitsIn l) (p : Et → Bool) : ∀ x ∈ lits (l.filter p), In64 x := fun x hx => by
  obtain ⟨e, he, rfl⟩ := List.mem_map.1 hx
  exact h e (List.mem_filter.1 he).1
theorem accB_of {owner place day known : Int} {e : Et} {b1 b2 b3 b4 b5 b6 : Bool} (h1 : decide (e.day ≤ day) = b1) (h2 : decide (e.known ≤ known) = b2) (h3 : (owner == -1) = b3) (h4 : (e.owner == owner) = b4) (h5 : (place == -1) = b5) (h6 : (e.place == place) = b6) :
    accB owner place day known e = (b1 && b2 && (b3 || b4) && (b5 || b6)) := by
  subst h1 h2 h3 h4 h5 h6; rfl
set_option maxRecDepth 100000 in
set_option maxHeartbeats 8000000 in
theorem account_any (l : List Et) (C : Option Addr) (cc : Nat) (owner place day known : Int) (w : World) {B : Nat} (hC : EntsAt w B C l) (hB : B ≤ w.heap.size) (hl : l.length ≤ 1000000) (hI : LitsIn l) :
    Calls Tryd.prog 44 #[.slice C l.length cc, .int .i64 owner, .int .i64 place, .int .i64 day, .int .i64 known] w (IntBe (account l owner place day known) w) := by
  obtain ⟨i0, hi, hz0, hz1, hz2⟩ := info_parts Tryd.infoInt
  have hA : Hid (account l owner place day known = (sumX (lits (l.filter (accB owner place day known)))).1) := rfl
  obtain ⟨acc, hacc⟩ : ∃ f : Nat → List Int, f = litsT (accB owner place day known) l := ⟨_, rfl⟩
  have hstep : Hid (∀ k e, l[k]? = some e → acc (k + 1) = if accB owner place day known e then acc k ++ [e.litres] else acc k) := fun k e h => by rw [hacc]; exact litsT_succ _ l h
  have hlenA : Hid (∀ k, (acc k).length ≤ l.length) := fun k => by rw [hacc]; exact litsT_len _ l k
  have h0A : Hid (acc 0 = []) := by show _ = _; rw [hacc]; rfl
  have hend : Hid (acc l.length = lits (l.filter (accB owner place day known))) := by show _ = _; rw [hacc]; exact litsT_end _ l
  clear hacc
  go_enter Tryd.func44, Tryd.ntmps44
  go_wp2_with fail
  go_loopw [11, 18] (fun out i wr => ∃ k : Nat, k ≤ l.length ∧ i = .int .i64 k ∧ wr.ownsRow w.heap.size 3 1 out (acc k).length (intsV (acc k)) ∧ Below w.heap.size w wr ∧ w.heap.size ≤ wr.heap.size) (fun _ i _ => l.length - (intOf i).toNat)
  case atStart => exact ⟨0, Nat.zero_le _, rfl, by rw [h0A.out]; exact World.ownsRow_nil _ _ _ _, Below.refl _ _, Nat.le_refl _⟩
  case round =>
    obtain ⟨k, hk, rfl, hrow, hBw, hz⟩ := hrel
    by_cases hlt : k < l.length
    · obtain ⟨e, hx⟩ : ∃ e, l[k]? = some e := ⟨_, List.getElem?_eq_getElem hlt⟩
      obtain ⟨b, off, rfl, hb, r0, r1, r2, r3, r4, r5, r6⟩ := (hC.below (hBw.mono hB)).at_ hx
      have hs := hstep.out k e hx
      have hlen := hlenA.out k
      have hbw : b < wr.heap.size := by omega
      clear hx
      obtain ⟨b1, g1⟩ : ∃ b, decide (e.day ≤ day) = b := ⟨_, rfl⟩
      obtain ⟨b2, g2⟩ : ∃ b, decide (e.known ≤ known) = b := ⟨_, rfl⟩
      obtain ⟨b3, g3⟩ : ∃ b, (owner == -1) = b := ⟨_, rfl⟩
      obtain ⟨b4, g4⟩ : ∃ b, (e.owner == owner) = b := ⟨_, rfl⟩
      obtain ⟨b5, g5⟩ : ∃ b, (place == -1) = b := ⟨_, rfl⟩
      obtain ⟨b6, g6⟩ : ∃ b, (e.place == place) = b := ⟨_, rfl⟩
      rw [accB_of g1 g2 g3 g4 g5 g6] at hs
      have HS := Lib.hid hs
      clear hs
      go_wp2_with (first | (at_builtin; refine wpList_append_own _ rfl _ _ 29 rfl w.heap.size 3 i0 (.int .i64 0) 1 8 Tryd.underlying29 hi hz0 hz1 hz2 rfl (by decide) _ (acc k).length _ rfl ((hrow.alloc _).alloc _) ⟨wr.heap.size + 1, 0, none⟩ 1 1 [.int .i64 e.litres] rfl rfl (cell_one_at (by simp) _ _) (by simp [Value.oneCell']) (by unfold maxLen; omega) (by omega) (by simp; omega) ?_; intro v' w2 hown' hgrow _; obtain ⟨g', cap', rfl, hgq1, hgq2⟩ := hown'.form (by omega); have hb2 := below_app (hrow.alloc _) (by simp; omega) hgrow) | fail)
      all_goals first
        | (go_roundw
           case rel =>
             have hs2 := HS.out
             rw [if_pos (by simp [*])] at hs2
             exact ⟨k + 1, by omega, by go_num, by rw [hs2]; unfold intsV at hown' ⊢; rw [List.map_append, List.length_append]; exact hown', (hBw.alloc hz _).trans hb2, by have := hb2.size; simp at this; omega⟩
           case measure => simp [intOf]; omega)
        | (go_roundw
           case rel =>
             have hs2 := HS.out
             rw [if_neg (by simp [*])] at hs2
             exact ⟨k + 1, by omega, by go_num, by rw [hs2]; exact hrow.alloc _, hBw.alloc hz _, by simp; omega⟩
           case measure => simp [intOf]; omega)
        | fail
    · have hke : k = l.length := by omega
      subst hke
      have HE := hend.out
      rw [HE] at hrow
      have hlen2 : (lits (l.filter (accB owner place day known))).length ≤ 1000000 := by have := hlenA.out l.length; rw [HE] at this; omega
      obtain ⟨D, cd, he, hD⟩ := ints_of_owns hrow
      subst he
      have K := Lib.hid (sum_any (lits (l.filter (accB owner place day known))) D cd wr hD (by omega) (litsT_in hI _))
      clear HE hend hrow
      generalize lits (l.filter (accB owner place day known)) = L at *
      have hS := Lib.hid (rfl : sumX L = sumX L)
      cases hok : (sumX L).2 with
      | true =>
        go_wp2_with (first | (go_at_call 56; (with_reducible refine K.out.mono ?_); rintro e1 w1 ⟨rfl, rfl⟩) | fail)
        go_ret
        exact ⟨ret_int hA.out.symm, hBw⟩
      | false =>
        have h0 : (sumX L).1 = 0 := by unfold sumX at hok ⊢; split at hok <;> simp_all
        go_wp2_with (first | (go_at_call 56; (with_reducible refine K.out.mono ?_); rintro e1 w1 ⟨rfl, rfl⟩) | fail)
        go_ret
        exact ⟨ret_int (by rw [hA.out, h0]), hBw⟩
set_option maxRecDepth 100000 in
set_option maxHeartbeats 8000000 in
theorem raccount_any (l : List Et) (C : Option Addr) (cc : Nat) (owner place day known : Int) (w : World) {B : Nat} (hC : EntsAt w B C l) (hB : B ≤ w.heap.size) (hl : l.length ≤ 1000000) (hI : LitsIn l) :
    Calls Tryd.prog 45 #[.slice C l.length cc, .int .i64 owner, .int .i64 place, .int .i64 day, .int .i64 known] w (IntBe (account l owner place day known) w) := by
  obtain ⟨i0, hi, hz0, hz1, hz2⟩ := info_parts Tryd.infoInt
  have hA : Hid (account l owner place day known = (sumX (lits (l.filter (accB owner place day known)))).1) := rfl
  obtain ⟨acc, hacc⟩ : ∃ f : Nat → List Int, f = litsT (accB owner place day known) l := ⟨_, rfl⟩
  have hstep : Hid (∀ k e, l[k]? = some e → acc (k + 1) = if accB owner place day known e then acc k ++ [e.litres] else acc k) := fun k e h => by rw [hacc]; exact litsT_succ _ l h
  have hlenA : Hid (∀ k, (acc k).length ≤ l.length) := fun k => by rw [hacc]; exact litsT_len _ l k
  have h0A : Hid (acc 0 = []) := by show _ = _; rw [hacc]; rfl
  have hend : Hid (acc l.length = lits (l.filter (accB owner place day known))) := by show _ = _; rw [hacc]; exact litsT_end _ l
  clear hacc
  go_enter Tryd.func45, Tryd.ntmps45
  go_wp2_with fail
  go_loopw [11, 12] (fun out i wr => ∃ k : Nat, k ≤ l.length ∧ i = .int .i64 k ∧ wr.ownsRow w.heap.size 3 1 out (acc k).length (intsV (acc k)) ∧ Below w.heap.size w wr ∧ w.heap.size ≤ wr.heap.size) (fun _ i _ => l.length - (intOf i).toNat)
  case atStart => exact ⟨0, Nat.zero_le _, rfl, by rw [h0A.out]; exact World.ownsRow_nil _ _ _ _, Below.refl _ _, Nat.le_refl _⟩
  case round =>
    obtain ⟨k, hk, rfl, hrow, hBw, hz⟩ := hrel
    by_cases hlt : k < l.length
    · obtain ⟨e, hx⟩ : ∃ e, l[k]? = some e := ⟨_, List.getElem?_eq_getElem hlt⟩
      obtain ⟨b, off, rfl, hb, r0, r1, r2, r3, r4, r5, r6⟩ := (hC.below (hBw.mono hB)).at_ hx
      have hs := hstep.out k e hx
      have hlen := hlenA.out k
      have hbw : b < wr.heap.size := by omega
      clear hx
      obtain ⟨b1, g1⟩ : ∃ b, decide (e.day ≤ day) = b := ⟨_, rfl⟩
      obtain ⟨b2, g2⟩ : ∃ b, decide (e.known ≤ known) = b := ⟨_, rfl⟩
      obtain ⟨b3, g3⟩ : ∃ b, (owner == -1) = b := ⟨_, rfl⟩
      obtain ⟨b4, g4⟩ : ∃ b, (e.owner == owner) = b := ⟨_, rfl⟩
      obtain ⟨b5, g5⟩ : ∃ b, (place == -1) = b := ⟨_, rfl⟩
      obtain ⟨b6, g6⟩ : ∃ b, (e.place == place) = b := ⟨_, rfl⟩
      rw [accB_of g1 g2 g3 g4 g5 g6] at hs
      have HS := Lib.hid hs
      clear hs
      go_wp2_with (first | (at_builtin; refine wpList_append_own _ rfl _ _ 29 rfl w.heap.size 3 i0 (.int .i64 0) 1 8 Tryd.underlying29 hi hz0 hz1 hz2 rfl (by decide) _ (acc k).length _ rfl ((hrow.alloc _).alloc _) ⟨wr.heap.size + 1, 0, none⟩ 1 1 [.int .i64 e.litres] rfl rfl (cell_one_at (by simp) _ _) (by simp [Value.oneCell']) (by unfold maxLen; omega) (by omega) (by simp; omega) ?_; intro v' w2 hown' hgrow _; obtain ⟨g', cap', rfl, hgq1, hgq2⟩ := hown'.form (by omega); have hb2 := below_app (hrow.alloc _) (by simp; omega) hgrow) | fail)
      all_goals first
        | (go_roundw
           case rel =>
             have hs2 := HS.out
             rw [if_pos (by simp [*])] at hs2
             exact ⟨k + 1, by omega, by go_num, by rw [hs2]; unfold intsV at hown' ⊢; rw [List.map_append, List.length_append]; exact hown', (hBw.alloc hz _).trans hb2, by have := hb2.size; simp at this; omega⟩
           case measure => simp [intOf]; omega)
        | (go_roundw
           case rel =>
             have hs2 := HS.out
             rw [if_neg (by simp [*])] at hs2
             exact ⟨k + 1, by omega, by go_num, by rw [hs2]; exact hrow.alloc _, hBw.alloc hz _, by simp; omega⟩
           case measure => simp [intOf]; omega)
        | fail
    · have hke : k = l.length := by omega
      subst hke
      have HE := hend.out
      rw [HE] at hrow
      have hlen2 : (lits (l.filter (accB owner place day known))).length ≤ 1000000 := by have := hlenA.out l.length; rw [HE] at this; omega
      obtain ⟨D, cd, he, hD⟩ := ints_of_owns hrow
      subst he
      have K := Lib.hid (rsum_any (lits (l.filter (accB owner place day known))) D cd wr hD (by omega) (litsT_in hI _))
      clear HE hend hrow
      generalize lits (l.filter (accB owner place day known)) = L at *
      go_wp2_with (first | (go_at_call 63; (with_reducible refine K.out.mono ?_); rintro e1 w1 ⟨rfl, rfl⟩) | fail)
      go_ret
      exact ⟨ret_int hA.out.symm, hBw⟩
end Go.Proofs.YtminphldifncaaaDoor

