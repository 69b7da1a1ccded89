/- What the rows share: closed facts of the program. -/
import Derived.Test.YtfohojkclfofmaaRows
import Derived.Test.YtfohojkclfofmaaKit
import Derived.Test.YtfohojkclfofmaaOpen
import Derived.Test.YtfohojkclfofmaaOpen2
import Derived.Test.YtfohojkclfofmaaSM
import Derived.Lib.SmallJoins
import Derived.SizedLaws
set_option linter.unusedSimpArgs false
set_option linter.unusedVariables false
namespace Go.Proofs.Ytfohojkclfofmaa
open Go.ChangeShapes Go.WideShapes Go.ChangeAt Go.RowKit Go.Deep

theorem own : ownKnob Try.prog.godebug = none := by kernel_rfl
theorem laidOut : laidOutB Try.prog = true := by kernel_rfl
theorem cellsInt : Try.prog.cellsOf 3 = 1 := by kernel_rfl
end Go.Proofs.Ytfohojkclfofmaa
