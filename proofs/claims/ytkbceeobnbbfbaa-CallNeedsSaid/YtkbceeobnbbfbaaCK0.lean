/- Plain facts on Check's answer. -/
import Derived.Test.YtkbceeobnbbfbaaV14
import Derived.Test.YtkbceeobnbbfbaaMapX
set_option linter.unusedSimpArgs false
set_option linter.unusedVariables false
namespace Go.Proofs.Ytkbceeobnbbfbaa
open Go.RowKit CM
def chkN (pl : Pl) (R : List Rt) (S : List Int) (G x : List (Int × Int)) : Bool := checkF pl R (supF S) S.length G x
section
variable {pl : Pl} {R : List Rt} {S : List Int} {G x : List (Int × Int)}
theorem chk_iff : chkN pl R S G x = true ↔ G.length = R.length ∧ (∀ i, i < R.length → lawfulF pl R G i = true) ∧ (∀ q, q < pl.length → 0 ≤ lefW pl R S G R.length q) ∧
    (∀ i, i < R.length → shortF pl R G i = true → 0 ≤ stopN pl R S G i ∧ ∀ j ∈ wetF G R.length (i + 1), ((rtN R i).id, (rtN R j).id) ∈ x) := by
  unfold chkN checkF
  simp only [Bool.and_eq_true, decide_eq_true_eq, List.all_eq_true, List.mem_range, Bool.or_eq_true, Bool.not_eq_true']
  constructor
  · rintro ⟨h1, h2, h3, h4⟩
    refine ⟨h1, h2, h3, fun i hi hs => ?_⟩
    rcases h4 i hi with h | h
    · rw [hs] at h; cases h
    · exact h
  · rintro ⟨h1, h2, h3, h4⟩
    refine ⟨h1, h2, h3, fun i hi => ?_⟩
    cases hs : shortF pl R G i
    · exact .inl rfl
    · exact .inr (h4 i hi hs)
theorem chk_no (h : ¬ (G.length = R.length ∧ (∀ i, i < R.length → lawfulF pl R G i = true) ∧ (∀ q, q < pl.length → 0 ≤ lefW pl R S G R.length q) ∧
    (∀ i, i < R.length → shortF pl R G i = true → 0 ≤ stopN pl R S G i ∧ ∀ j ∈ wetF G R.length (i + 1), ((rtN R i).id, (rtN R j).id) ∈ x))) : chkN pl R S G x = false := by
  cases hc : chkN pl R S G x
  · rfl
  · exact absurd (chk_iff.1 hc) h
theorem chk_len (h : G.length ≠ R.length) : chkN pl R S G x = false := chk_no (fun e => h e.1)
theorem chk_law {i : Nat} (hi : i < R.length) (h : lawfulF pl R G i = false) : chkN pl R S G x = false := chk_no (fun e => by have := e.2.1 i hi; rw [h] at this; cases this)
theorem chk_left {q : Nat} (hq : q < pl.length) (h : lefW pl R S G R.length q < 0) : chkN pl R S G x = false := chk_no (fun e => by have := e.2.2.1 q hq; omega)
theorem chk_stop {i : Nat} (hi : i < R.length) (hs : shortF pl R G i = true) (h : ¬ 0 ≤ stopN pl R S G i) : chkN pl R S G x = false := chk_no (fun e => h (e.2.2.2 i hi hs).1)
theorem chk_exc {i j : Nat} (hi : i < R.length) (hs : shortF pl R G i = true) (hj : j ∈ wetF G R.length (i + 1)) (h : ((rtN R i).id, (rtN R j).id) ∉ x) : chkN pl R S G x = false := chk_no (fun e => h ((e.2.2.2 i hi hs).2 j hj))
end
/-- The excuses that were given, as a map. -/
theorem put_taken {l : List (Int × Int)} {k : Nat} {x : Int × Int} {m : List ((Int × Int) × Bool)} (hm : ∀ z, getX m z = if z ∈ l.take k then some true else none) (hx : l[k]? = some x) : ∀ z, getX (putX m x true) z = if z ∈ l.take (k + 1) then some true else none := by
  intro z
  rw [getX_put, hm, List.take_add_one, hx]
  by_cases h1 : z = x
  · rw [if_pos h1, if_pos (by simp [h1])]
  · rw [if_neg h1]
    by_cases h2 : z ∈ l.take k
    · rw [if_pos h2, if_pos (by simp [h2])]
    · rw [if_neg h2, if_neg (by simp [h1, h2])]
end Go.Proofs.Ytkbceeobnbbfbaa
