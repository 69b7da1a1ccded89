/- Plain facts for the laws of call. -/
import Derived.Test.YtkbceeobnbbfbaaCK0
import Derived.Test.YtkbceeobnbbfbaaV11
set_option linter.unusedSimpArgs false
set_option linter.unusedVariables false
namespace Go.Proofs.Ytkbceeobnbbfbaa
open Go.RowKit CM
theorem posSum_mono (sup : Nat → Int) (n : Nat) : ∀ k, posSum sup n ≤ posSum sup (n + k)
  | 0 => Int.le_refl _
  | k + 1 => by
    have ih := posSum_mono sup n k
    have e : posSum sup (n + (k + 1)) = posSum sup (n + k) + max 0 (sup (n + k)) := rfl
    omega
section
variable {pl : Pl} {R : List Rt} {S : List Int} {G x : List (Int × Int)}
theorem modest_of (h : modB S = true) (h1 : pl.length ≤ 16) (h2 : R.length ≤ 14) : CM.Modest pl R (supF S) S.length := by
  unfold modB at h
  simp only [Bool.and_eq_true, decide_eq_true_eq] at h
  refine ⟨?_, by omega⟩
  have := posSum_mono (supF S) (min pl.length S.length) (min S.length 16 - min pl.length S.length)
  rw [show min pl.length S.length + (min S.length 16 - min pl.length S.length) = min S.length 16 by omega] at this
  omega
theorem chk_day (hM : CM.Modest pl R (supF S) S.length) (hx : ∀ e ∈ excN pl R S (dayLs pl R S), e ∈ x) : chkN pl R S (dayLs pl R S) x = true := hM.accepted hx
theorem chk_only (hM : CM.Modest pl R (supF S) S.length) (h : chkN pl R S G x = true) : G = dayLs pl R S := hM.only h
theorem chk_mem (h : chkN pl R S G x = true) : ∀ e ∈ excN pl R S G, e ∈ x := by
  intro e he
  obtain ⟨_, _, _, h4⟩ := chk_iff.1 h
  have he : e ∈ (List.range R.length).flatMap (excI pl R S G) := he
  obtain ⟨i, hi, he⟩ := List.mem_flatMap.1 he
  have hi := List.mem_range.1 hi
  unfold excI at he
  by_cases g : (shortF pl R G i && decide (0 ≤ stopN pl R S G i)) = true
  · rw [if_pos g] at he
    rw [Bool.and_eq_true] at g
    obtain ⟨j, hj, rfl⟩ := List.mem_map.1 he
    exact (h4 i hi g.1).2 j hj
  · rw [if_neg g] at he; cases he
theorem rest_no (hM : CM.Modest pl R (supF S) S.length) (hid : ∀ i j, i < R.length → j < R.length → (rtN R i).id = (rtN R j).id → i = j) {k : Nat} (hk : k < (excN pl R S (dayLs pl R S)).length) :
    chkN pl R S (dayLs pl R S) ((excN pl R S (dayLs pl R S)).take k ++ (excN pl R S (dayLs pl R S)).drop (k + 1)) = false := by
  cases hc : chkN pl R S (dayLs pl R S) ((excN pl R S (dayLs pl R S)).take k ++ (excN pl R S (dayLs pl R S)).drop (k + 1))
  · rfl
  · have h1 := chk_mem hc _ (List.getElem_mem hk)
    exact absurd h1 (rest_not (excL_nodup hid) (List.getElem?_eq_getElem hk))
/-- In the day's grants a short right has a stop, where nothing is left and which no later right with water reaches. -/
theorem stop_day (hM : CM.Modest pl R (supF S) S.length) {i : Nat} (hi : i < R.length) (hne : rcR pl R i ≠ []) (hs : litN pl R S i < rateR R i) :
    ∃ q : Nat, stopN pl R S (dayLs pl R S) i = q ∧ q ∈ rcR pl R i ∧ dayN pl R S R.length q = 0 ∧ ∀ j, i < j → j < R.length → 0 < litN pl R S j → q ∉ rcR pl R j := by
  have hgot : ∀ j, j < R.length → gotG (dayLs pl R S) j = litN pl R S j := fun j hj => dayList_got hj
  have hsh : shortF pl R (dayLs pl R S) i = true := shortF_rc.2 ⟨by rw [dayLs_len]; exact hi, by rw [hgot i hi]; exact hs, hne⟩
  obtain ⟨q, e, h1, h2, h3⟩ := hM.stops hi hsh
  exact ⟨q, e, h1, h2, h3⟩
end
end Go.Proofs.Ytkbceeobnbbfbaa
