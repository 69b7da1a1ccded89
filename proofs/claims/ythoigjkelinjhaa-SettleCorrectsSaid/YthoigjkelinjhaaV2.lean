/- Walks of the functions that compare lists. -/
import Derived.Test.YthoigjkelinjhaaW5
set_option linter.unusedSimpArgs false
set_option linter.unusedVariables false
namespace Go.Proofs.Ythoigjkelinjhaa
open Go.RowKit CM
attribute [local go_sem] alloc_drewN setCell_drewN shape_drewN

def SameL {α : Type} [DecidableEq α] (A B : List α) : Bool := decide (A = B)
theorem sameL_len {α : Type} [DecidableEq α] {A B : List α} (h : A.length ≠ B.length) : SameL A B = false := decide_eq_false (fun e => h (by rw [e]))
theorem sameL_no {α : Type} [DecidableEq α] {A B : List α} {k : Nat} {x y : α} (h1 : A[k]? = some x) (h2 : B[k]? = some y) (h : x ≠ y) : SameL A B = false :=
  decide_eq_false (fun e => h (by rw [e, h2] at h1; exact (Option.some.inj h1).symm))
theorem sameL_yes {α : Type} [DecidableEq α] {A B : List α} (hl : A.length = B.length) (h : A.take A.length = B.take A.length) : SameL A B = true := by
  rw [List.take_length, hl, List.take_length] at h; exact decide_eq_true h
theorem take_both {α : Type} {A B : List α} {k : Nat} {x : α} (h : A.take k = B.take k) (h1 : A[k]? = some x) (h2 : B[k]? = some x) : A.take (k + 1) = B.take (k + 1) := by
  rw [List.take_add_one, List.take_add_one, h, h1, h2]
def SameIs {α : Type} [DecidableEq α] (A B : List α) (w : World) (e : Ending) (w' : World) : Prop := e = .returned (.bool (SameL A B)) ∧ ∃ n, w' = w.drewN n
end Go.Proofs.Ythoigjkelinjhaa
