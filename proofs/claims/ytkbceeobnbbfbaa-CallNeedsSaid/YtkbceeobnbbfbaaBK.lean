/- Blocks that are known whole, read as lists. -/
import Derived.Test.YtkbceeobnbbfbaaV12
set_option linter.unusedSimpArgs false
set_option linter.unusedVariables false
namespace Go.Proofs.Ytkbceeobnbbfbaa
open Go.RowKit CM
theorem cell_whole {w : World} {b : Nat} {cs : Array Value} {t : TypeId} (h : w.heap[b]? = some (.cells cs t (0, 0))) (i : Nat) : w.cell? ⟨b, i, none⟩ = cs[i]? := cell_of_row w b i cs t (0, 0) h
theorem rights_get : ∀ (R : List Rt) (k : Nat) (r : Rt) (j : Nat) (v : Value), R[k]? = some r → r.cells[j]? = some v → (R.flatMap Rt.cells)[k * 9 + j]? = some v
  | [], k, r, j, v, h, _ => by simp at h
  | s :: R, 0, r, j, v, h, hv => by
    obtain rfl : s = r := by simpa using h
    have hj : j < s.cells.length := (List.getElem?_eq_some_iff.1 hv).1
    rw [List.flatMap_cons, Nat.zero_mul, Nat.zero_add, List.getElem?_append_left hj, hv]
  | s :: R, k + 1, r, j, v, h, hv => by
    have ih := rights_get R k r j v (by simpa using h) hv
    have hl : s.cells.length = 9 := rfl
    rw [List.flatMap_cons, List.getElem?_append_right (by rw [hl]; omega), hl, show (k + 1) * 9 + j - 9 = k * 9 + j by omega, ih]
theorem rights_of_block {w : World} {b B : Nat} {R : List Rt} {t : TypeId} (h : w.heap[b]? = some (.cells (R.flatMap Rt.cells).toArray t (0, 0))) (hb : b < B) : RightsAt w B (some ⟨b, 0, none⟩) R := fun _ =>
  ⟨b, 0, rfl, hb, fun k r hk j v hj => by rw [Nat.zero_add, cell_whole h]; simpa using rights_get R k r j v hk hj⟩
theorem pairs_of_block {w : World} {b B : Nat} {A : List (Int × Int)} {t : TypeId} (h : w.heap[b]? = some (.cells (rowP A).toArray t (0, 0))) (hb : b < B) : PairsAt w B (some ⟨b, 0, none⟩) A := fun _ =>
  ⟨b, 0, rfl, hb, fun j hj => by rw [Nat.zero_add, cell_whole h]; simpa using rowP_get A j (by omega)⟩
theorem ints_of_block {w : World} {b B : Nat} {A : List Int} {t : TypeId} (h : w.heap[b]? = some (.cells (A.map (Value.int .i64)).toArray t (0, 0))) (hb : b < B) : IntsAt w B (some ⟨b, 0, none⟩) A := fun _ =>
  ⟨b, 0, rfl, hb, fun j hj => by rw [Nat.zero_add, cell_whole h]; simp [intF, List.getD_eq_getElem?_getD, hj]⟩
/-- The first ones of a list. -/
theorem PairsAt.take {w : World} {B : Nat} {C : Option Addr} {A : List (Int × Int)} (h : PairsAt w B C A) (n : Nat) : PairsAt w B C (A.take n) := fun hm => by
  have hl : (A.take n).length ≤ A.length := by simp; omega
  obtain ⟨b, off, e, hb, hc⟩ := h (by omega)
  refine ⟨b, off, e, hb, fun j hj => ?_⟩
  rw [hc j (by omega)]
  have hjn : j / 2 < n := by simp at hj; omega
  have key : A.getD (j / 2) (0, 0) = (A.take n).getD (j / 2) (0, 0) := by simp [List.getD_eq_getElem?_getD, List.getElem?_take_of_lt hjn]
  unfold pairF
  rw [key]
end Go.Proofs.Ytkbceeobnbbfbaa
