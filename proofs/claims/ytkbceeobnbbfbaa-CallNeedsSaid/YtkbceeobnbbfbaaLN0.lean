/- What CallNeeds needs: parts of a slice of pairs. -/
import Derived.Test.YtkbceeobnbbfbaaLO0
set_option linter.unusedSimpArgs false
set_option linter.unusedVariables false
namespace Go.Proofs.Ytkbceeobnbbfbaa
open Go.RowKit CM
theorem pairs_take {w : World} {B : Nat} {C : Option Addr} {L : List (Int × Int)} (h : PairsAt w B C L) (c : Nat) : PairsAt w B C (L.take c) := by
  unfold PairsAt
  rw [List.length_take]
  intro hpos
  obtain ⟨b, off, e, hb, hc⟩ := h (by omega)
  refine ⟨b, off, e, hb, fun j hj => ?_⟩
  rw [hc j (by omega)]
  have e1 : pairF (L.take c) j = pairF L j := by
    unfold pairF
    have e2 : (L.take c).getD (j / 2) (0, 0) = L.getD (j / 2) (0, 0) := by
      rw [List.getD_eq_getElem?_getD, List.getD_eq_getElem?_getD, List.getElem?_take_of_lt (by omega)]
    rw [e2]
  rw [e1]
theorem pairs_drop {w : World} {B b o : Nat} {L : List (Int × Int)} (h : PairsAt w B (some ⟨b, o, none⟩) L) {k cf : Nat} (hk : k ≤ L.length) (hcf : L.length ≤ cf) :
    PairsAt w B (if cf = k then some ⟨b, o, none⟩ else some ⟨b, o + k * 2, none⟩) (L.drop k) := by
  unfold PairsAt
  rw [List.length_drop]
  intro hpos
  rw [if_neg (by omega)]
  obtain ⟨b', off, e, hb, hc⟩ := h (by omega)
  obtain ⟨rfl, rfl⟩ : b = b' ∧ o = off := by simpa using e
  refine ⟨b, o + k * 2, rfl, hb, fun j hj => ?_⟩
  rw [show o + k * 2 + j = o + (k * 2 + j) by omega, hc _ (by omega)]
  have e1 : pairF (L.drop k) j = pairF L (k * 2 + j) := by
    unfold pairF
    rw [show (k * 2 + j) % 2 = j % 2 by omega, show (k * 2 + j) / 2 = k + j / 2 by omega]
    have e2 : (L.drop k).getD (j / 2) (0, 0) = L.getD (k + j / 2) (0, 0) := by
      rw [List.getD_eq_getElem?_getD, List.getD_eq_getElem?_getD, List.getElem?_drop]
    rw [e2]
  rw [e1]
end Go.Proofs.Ytkbceeobnbbfbaa
