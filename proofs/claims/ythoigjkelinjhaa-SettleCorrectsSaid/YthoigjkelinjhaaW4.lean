/- Walks of small functions: Got, short. -/
import Derived.Test.YthoigjkelinjhaaW3
set_option linter.unusedSimpArgs false
set_option linter.unusedVariables false
namespace Go.Proofs.Ythoigjkelinjhaa
open Go.RowKit CM
attribute [local go_sem] alloc_drewN setCell_drewN shape_drewN

theorem gotG_of {G : List (Int × Int)} {k : Nat} {x : Int × Int} (h : G[k]? = some x) : gotG G k = x.2 := by unfold gotG; rw [List.getD_eq_getElem?_getD, h]; rfl
/-- What a right has, as the reference asks for it. -/
def gotI (G : List (Int × Int)) (i : Int) : Int := if 0 ≤ i then gotG G i.toNat else 0
end Go.Proofs.Ythoigjkelinjhaa
