/- Walks of the reference's There and Left. -/
import Derived.Test.YthoigjkelinjhaaV3
set_option linter.unusedSimpArgs false
set_option linter.unusedVariables false
namespace Go.Proofs.Ythoigjkelinjhaa
open Go.RowKit CM
attribute [local go_sem] alloc_drewN setCell_drewN shape_drewN

theorem thereN_yes {pl : Pl} {S : List Int} {k q : Nat} (h : 0 < supF S k) (hq : q ∈ reach pl k) : thereN pl (supF S) (k + 1) q = satA (thereN pl (supF S) k q) (supF S k) := by rw [thereN_succ, if_pos ⟨h, hq⟩]
theorem thereN_no {pl : Pl} {S : List Int} {k q : Nat} (h : ¬ (0 < supF S k ∧ q ∈ reach pl k)) : thereN pl (supF S) (k + 1) q = thereN pl (supF S) k q := by rw [thereN_succ, if_neg h]
end Go.Proofs.Ythoigjkelinjhaa
