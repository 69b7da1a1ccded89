/- What the rows' lists give the walks (the tables), a world for the witness, and closed facts of the program. -/
import Derived.Test.YticjghibdjambaaDoorCards
import Derived.Test.YticjghibdjambaaDoorTie
import Derived.Test.YticjghibdjambaaDoorKit
import Derived.Test.YticjghibdjambaaDoorW8
import Derived.Deep.DeepHandedRow
import Derived.Lib.LaidTab
import Derived.Stop.LaidErr
namespace Go.Proofs.YticjghibdjambaaDoor
open Go.ChangeShapes Go.WideShapes Go.ChangeAt Go.RowKit

theorem own : ownKnob Tryd.prog.godebug = none := by kernel_rfl
theorem laidOut : laidOutB Tryd.prog = true := by kernel_rfl
def laid4 : List (String × DataW Unit) := Rows.dateTellsRow.laid
def monName : String := (Rows.dateTellsRow.laid.map Prod.fst).getD 3 default
def monTab : List Int := [31, 29, 31, 30, 31, 30, 31, 31, 30, 31, 30, 31]
theorem gMon : Tryd.prog.globalNamed monName = some 0 := by kernel_rfl
theorem gMonType : (Tryd.prog.globals[0]?).map (·.type) = some 42 := by kernel_rfl
theorem gPow : Tryd.prog.globalNamed powName = some 1 := by kernel_rfl
theorem gPowType : (Tryd.prog.globals[1]?).map (·.type) = some 52 := by kernel_rfl
theorem cells42 : Tryd.prog.cellsOf 42 = 12 := by kernel_rfl
theorem cells52 : Tryd.prog.cellsOf 52 = 20 := by kernel_rfl
theorem cells3 : Tryd.prog.cellsOf 3 = 1 := by kernel_rfl
theorem cells23 : Tryd.prog.cellsOf 23 = 4 := by kernel_rfl
theorem cells46 : Tryd.prog.cellsOf 46 = 1 := by kernel_rfl
theorem monTabIs {W : World} (h : laidMet Tryd.prog laid4 W) : Lib.TabIs Tryd.prog W monName .i64 monTab := by
  have h1 : laidMet Tryd.prog [(monName, Lib.tabData .i64 monTab)] W := (laidMet.tail (laidMet.tail (laidMet.tail h)))
  exact Lib.tabIs_of_head gMon gMonType Tryd.underlying42 Tryd.underlying3 cells3 cells42 h1
theorem powTabIs {W : World} (h : laidMet Tryd.prog laid4 W) : Lib.TabIs Tryd.prog W powName .u64 Lib.pow10Tab := by
  have e : Rows.laid_internal_strconv_uint64pow10 (H := Unit) = Lib.tabData .u64 Lib.pow10Tab := by kernel_rfl
  have h1 : laidMet Tryd.prog ((powName, Rows.laid_internal_strconv_uint64pow10) :: [(monName, Rows.laid_bourne_date_months)]) W := (laidMet.tail (laidMet.tail h))
  rw [e] at h1
  exact Lib.tabIs_of_head gPow gPowType Tryd.underlying52 Tryd.underlying46 cells46 cells52 h1
theorem tabs_of {W : World} (h : laidMet Tryd.prog laid4 W) : Tabs W :=
  ⟨fun i hi => by
    have := (monTabIs h).cell gMon i hi
    rw [this]
    have : i = 0 ∨ i = 1 ∨ i = 2 ∨ i = 3 ∨ i = 4 ∨ i = 5 ∨ i = 6 ∨ i = 7 ∨ i = 8 ∨ i = 9 ∨ i = 10 ∨ i = 11 := by omega
    rcases this with rfl | rfl | rfl | rfl | rfl | rfl | rfl | rfl | rfl | rfl | rfl | rfl <;> rfl, powTabIs h, by
    have := (powTabIs h).cell gPow 0 (by decide)
    have := World.block_lt_of_cell? W _ this
    exact this⟩

def toV (k : IntKind) (d : DataW Unit) : Value := match d with
  | .lit (.int _ n) => .int k n
  | _ => .int k 0
def tabV (k : IntKind) (d : DataW Unit) : Array Value := match d with
  | .agg l => (l.map (toV k)).toArray
  | _ => #[]
/-- A world for the witness: the settled one, the four tables holding what their initialisers lay. -/
noncomputable def laidWorld (os : Os) : World :=
  let h := World.holding Tryd.prog os ⟨#[], #[], []⟩
  let put (i : Nat) (cs : Array Value) (hp : Array Obj) : Array Obj := hp.modify i fun
    | .cells _ t frozen => .cells cs t frozen
    | o => o
  { h with heap := put 3 (tabV .u8 Rows.laid_math_bits_deBruijn64tab) (put 2 (tabV .u8 Rows.laid_math_bits_deBruijn32tab) (put 1 (tabV .u64 Rows.laid_internal_strconv_uint64pow10) (put 0 (tabV .i64 Rows.laid_bourne_date_months) h.heap))) }
end Go.Proofs.YticjghibdjambaaDoor
