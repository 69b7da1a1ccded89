/- What CallMoves needs: the day's grants as an array that may be written; a list of pairs that is changed. -/
import Derived.Test.YtkbceeobnbbfbaaLO0
import Derived.Test.YtkbceeobnbbfbaaLP0
set_option linter.unusedSimpArgs false
set_option linter.unusedVariables false
namespace Go.Proofs.Ytkbceeobnbbfbaa
open Go.RowKit CM
theorem arr_of_owns {w : World} {base e : Nat} {v : Value} {A : List (Int × Int)} (hn : A.length ≠ 0) (h : w.ownsRow base e 2 v A.length (rowP A)) :
    ∃ g cc, v = .slice (some ⟨g, 0, none⟩) A.length cc ∧ base ≤ g ∧ g < w.heap.size ∧ Arr w g (A.length * 2) (pairF A) := by
  obtain ⟨h1, ⟨rfl, h0⟩ | ⟨g, cap, cur, rfl, h2, h3, h4, h5, h6, h7⟩⟩ := h
  · exact absurd h0 hn
  · refine ⟨g, cap, rfl, h2, ?_, fun j hj => ⟨?_, ?_⟩⟩
    · rcases Nat.lt_or_ge g w.heap.size with h | h
      · exact h
      · rw [Array.getElem?_eq_none h] at h3; cases h3
    · rw [cell_of_row w g j cur e (0, 0) h3]
      have := rowP_get A j hj
      rw [← h7, List.getElem?_take_of_lt hj] at this
      simpa using this
    · simp [World.frozen?, h3]
theorem day_arr {pl : Pl} {R : List Rt} {S : List Int} {w : World} {e : Ending} {w' : World} (hn : R.length ≠ 0) (h : DayIs pl R S w e w') :
    ∃ g cd, e = .returned (.tuple #[.slice (some ⟨g, 0, none⟩) R.length cd, .slice (some ⟨w.heap.size + 1 + 1, 0, none⟩) pl.length pl.length]) ∧ w.heap.size ≤ g ∧ g < w'.heap.size ∧ Arr w' g (R.length * 2) (pairF (dayLs pl R S)) ∧ Below w.heap.size w w' := by
  obtain ⟨v, he, ho, hA, hb, hz⟩ := h
  have e1 := dayLs_len (pl := pl) (R := R) (S := S)
  rw [← e1] at ho
  obtain ⟨g, cd, rfl, h1, h2, h3⟩ := arr_of_owns (by rw [e1]; exact hn) ho
  rw [e1] at he h3
  exact ⟨g, cd, he, by omega, h2, h3, hb⟩
theorem pairs_of_arr {w : World} {g : Nat} {A : List (Int × Int)} (hg : g < w.heap.size) (h : Arr w g (A.length * 2) (pairF A)) : PairsAt w w.heap.size (some ⟨g, 0, none⟩) A :=
  fun _ => ⟨g, 0, rfl, hg, fun j hj => by rw [Nat.zero_add]; exact (h j (by omega)).1⟩
theorem pairF_set (L : List (Int × Int)) (f : Nat) (y : Int) (hf : f < L.length) (j : Nat) : pairF (L.set f ((L.getD f (0, 0)).1, y)) j = updF (pairF L) (f * 2 + 1) (.int .i64 y) j := by
  unfold updF
  by_cases e : j = f * 2 + 1
  · subst e
    rw [if_pos rfl]
    unfold pairF
    rw [show (f * 2 + 1) % 2 = 1 by omega, show (f * 2 + 1) / 2 = f by omega]
    simp [List.getD_eq_getElem?_getD, hf]
  · rw [if_neg e]
    unfold pairF
    by_cases e2 : j / 2 = f
    · have h0 : j % 2 = 0 := by omega
      rw [h0, e2]
      simp [List.getD_eq_getElem?_getD, hf]
    · have : (L.set f ((L.getD f (0, 0)).1, y)).getD (j / 2) (0, 0) = L.getD (j / 2) (0, 0) := by
        rw [List.getD_eq_getElem?_getD, List.getD_eq_getElem?_getD, List.getElem?_set_ne (by omega), ← List.getD_eq_getElem?_getD]
      rw [this]
theorem pairF_hi (L : List (Int × Int)) (f : Nat) : pairF L (f * 2 + 1) = .int .i64 (L.getD f (0, 0)).2 := by
  unfold pairF
  rw [show (f * 2 + 1) % 2 = 1 by omega, show (f * 2 + 1) / 2 = f by omega]
  rfl
theorem litN_top {pl : Pl} {R : List Rt} {S : List Int} (hS : ∀ x ∈ S, In64 x) (n : Nat) : litN pl R S n ≤ 9223372036854775807 := by
  cases hc : rcR pl R n with
  | nil => rw [litN_nil hc]; omega
  | cons q l =>
    have h1 := (litN_le hS (n := n) (q := q) (pl := pl) (R := R) (by rw [hc]; simp)).2
    have h2 := (dayN_in (pl := pl) (R := R) hS n q).2
    omega
/-- The day's grants, changed at two rights. -/
def moved (L : List (Int × Int)) (f t : Nat) (y z : Int) : List (Int × Int) := (L.set f ((L.getD f (0, 0)).1, y)).set t (((L.set f ((L.getD f (0, 0)).1, y)).getD t (0, 0)).1, z)
theorem moved_len (L : List (Int × Int)) (f t : Nat) (y z : Int) : (moved L f t y z).length = L.length := by simp [moved]
theorem moved_arr {w : World} {g : Nat} {L : List (Int × Int)} {f t : Nat} (y z : Int) (hf : f < L.length) (ht : t < L.length) (h : Arr w g (L.length * 2) (pairF L)) :
    Arr ((w.setCell ⟨g, f * 2 + 1, none⟩ (.int .i64 y)).setCell ⟨g, t * 2 + 1, none⟩ (.int .i64 z)) g ((moved L f t y z).length * 2) (pairF (moved L f t y z)) := by
  rw [moved_len]
  refine ((h.set (i := f * 2 + 1) (by omega) (.int .i64 y)).set (i := t * 2 + 1) (by omega) (.int .i64 z)).congr fun j _ => ?_
  rw [moved, pairF_set _ _ _ (by simpa using ht)]
  unfold updF
  by_cases e : j = t * 2 + 1
  · rw [if_pos e, if_pos e]
  · rw [if_neg e, if_neg e]
    exact (pairF_set L f y hf j).symm
theorem moved_not {pl : Pl} {R : List Rt} {S : List Int} {x : List (Int × Int)} {f t : Nat} {y z : Int} (hM : CM.Modest pl R (supF S) S.length) (hf : f < R.length) (hne : f ≠ t) (hy : y ≠ ((dayLs pl R S).getD f (0, 0)).2) : chkN pl R S (moved (dayLs pl R S) f t y z) x = false := by
  cases hc : chkN pl R S (moved (dayLs pl R S) f t y z) x
  · rfl
  · have h1 := chk_only hM hc
    refine absurd ?_ hy
    have hl : f < (dayLs pl R S).length := by rw [dayLs_len]; exact hf
    have h2 : ((moved (dayLs pl R S) f t y z).getD f (0, 0)).2 = y := by
      unfold moved
      rw [List.getD_eq_getElem?_getD, List.getElem?_set_ne (by omega)]
      simp [hl]
    rw [h1] at h2
    exact h2.symm
end Go.Proofs.Ytkbceeobnbbfbaa
