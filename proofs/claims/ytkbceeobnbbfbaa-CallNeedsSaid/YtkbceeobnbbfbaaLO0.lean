/- What the laws of call share. -/
import Derived.Test.YtkbceeobnbbfbaaDY
import Derived.Test.YtkbceeobnbbfbaaV2
import Derived.Test.YtkbceeobnbbfbaaAppAny
set_option linter.unusedSimpArgs false
set_option linter.unusedVariables false
namespace Go.Proofs.Ytkbceeobnbbfbaa
open Go.RowKit CM
theorem reads_pairs {w : World} {B : Nat} {C : Option Addr} {A : List (Int × Int)} (h : PairsAt w B C A) : Reads w B 2 C A.length (rowP A) := by
  refine ⟨rowP_len A, fun hm => ?_⟩
  obtain ⟨b, off, e, hb, hc⟩ := h (by omega)
  refine ⟨_, e, hb, fun j u hj => ?_⟩
  have hlt : j < A.length * 2 := by have := (List.getElem?_eq_some_iff.1 hj).1; rw [rowP_len] at this; exact this
  rw [Addr.add_lit, hc j (by omega)]
  rw [rowP_get A j hlt] at hj
  exact hj
theorem rowP_one (A : List (Int × Int)) : ∀ u ∈ rowP A, u.oneCell' = true := by
  intro u hu
  obtain ⟨p, _, hp⟩ := List.mem_flatMap.1 hu
  simp [pairC] at hp
  rcases hp with rfl | rfl <;> rfl
theorem rowP_app (A B : List (Int × Int)) : rowP (A ++ B) = rowP A ++ rowP B := by simp [rowP]
/-- What Day hands back, read as a list. -/
theorem day_pairs {pl : Pl} {R : List Rt} {S : List Int} {w : World} {e : Ending} {w' : World} (h : DayIs pl R S w e w') : ∃ D cd, e = .returned (.tuple #[.slice D R.length cd, .slice (some ⟨w.heap.size + 1 + 1, 0, none⟩) pl.length pl.length]) ∧ PairsAt w' w'.heap.size D (dayLs pl R S) ∧
    Arr w' (w.heap.size + 1 + 1) pl.length (dayV pl R S R.length) ∧ Below w.heap.size w w' ∧ w.heap.size + 1 + 1 + 1 ≤ w'.heap.size := by
  obtain ⟨v, he, ho, hA, hb, hz⟩ := h
  have e1 := dayLs_len (pl := pl) (R := R) (S := S)
  rw [← e1] at ho
  obtain ⟨D, cd, rfl, hD⟩ := pairs_of_owns ho
  rw [e1] at he
  exact ⟨D, cd, he, hD, hA, hb, hz⟩
theorem grown_of_below {w w' : World} (h : Below w.heap.size w w') : w.grownBy w' none := ⟨h.1, h.2, h.3, h.4, fun i hi _ => h.5 i hi⟩
end Go.Proofs.Ytkbceeobnbbfbaa
