/- What the rows share: closed facts of the program. -/
import Derived.Test.YtmnimcdbfolhaaaRows
import Derived.Test.YtmnimcdbfolhaaaKit
import Derived.Test.YtmnimcdbfolhaaaOpen
import Derived.Test.YtmnimcdbfolhaaaOpen2
import Derived.Test.YtmnimcdbfolhaaaSM
import Derived.Test.YtmnimcdbfolhaaaOpenStrs
import Derived.Lib.SmallJoins
import Derived.SizedLaws
set_option linter.unusedSimpArgs false
set_option linter.unusedVariables false
namespace Go.Proofs.Ytmnimcdbfolhaaa
open Go.ChangeShapes Go.WideShapes Go.ChangeAt Go.RowKit Go.Deep

theorem own : ownKnob Try.prog.godebug = none := by kernel_rfl
theorem laidOut : laidOutB Try.prog = true := by kernel_rfl
theorem cellsInt : Try.prog.cellsOf 3 = 1 := by kernel_rfl
end Go.Proofs.Ytmnimcdbfolhaaa
