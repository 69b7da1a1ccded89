/- The walk of the reference's Reach. -/
import Derived.Test.YthoigjkelinjhaaV1
set_option linter.unusedSimpArgs false
set_option linter.unusedVariables false
namespace Go.Proofs.Ythoigjkelinjhaa
open Go.RowKit CM
attribute [local go_sem] alloc_drewN setCell_drewN shape_drewN

theorem hasI_nats {l : List Nat} {n : Nat} : hasI (natsI l) (n : Int) = decide (n ∈ l) := by
  unfold hasI natsI
  congr 1
  simp only [List.mem_map, eq_iff_iff]
  constructor
  · rintro ⟨a, h1, h2⟩
    have : a = n := by omega
    exact this ▸ h1
  · exact fun h => ⟨n, h, rfl⟩
theorem natsI_len (l : List Nat) : (natsI l).length = l.length := by simp [natsI]
end Go.Proofs.Ythoigjkelinjhaa
