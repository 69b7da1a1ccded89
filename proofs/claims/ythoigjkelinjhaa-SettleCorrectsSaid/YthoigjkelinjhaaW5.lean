/- The walk of call.short. -/
import Derived.Test.YthoigjkelinjhaaW4
import Derived.Test.YthoigjkelinjhaaPlanB
set_option linter.unusedSimpArgs false
set_option linter.unusedVariables false
namespace Go.Proofs.Ythoigjkelinjhaa
open Go.RowKit CM
attribute [local go_sem] alloc_drewN setCell_drewN shape_drewN

theorem rtN_of {R : List Rt} {k : Nat} {r : Rt} (h : R[k]? = some r) : rtN R k = r := by unfold rtN; rw [List.getD_eq_getElem?_getD, h]; rfl
end Go.Proofs.Ythoigjkelinjhaa
