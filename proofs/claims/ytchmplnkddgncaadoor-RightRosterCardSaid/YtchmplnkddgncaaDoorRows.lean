/-
  NARROWER THAN 'FOR EVERY INPUT', by the rows' own cells (each row's printed sentence says how): RightTells: laid · RightRoster: laid · RightKnown: laid · RightOrders: laid · RightSeasons: laid.
  DERIVED. THE GIVEN ROWS OF THIS SEAT. 5 by the template 'for every input the law returns true; each argument reads behind the call as it read before'; 0 by the template 'total and deterministic' (their statements: YtchmplnkddgncaaDoorTotals.lean).
  GIVEN WITH THE SEED: the statements are not yours to turn. If you find one false, say at which input.
  Laid BY PROGRAM, IN A SANDBOX (cutbox-rows.mjs): the forced cells as the released guide's own fill.sh prints them over the translation d18f0d4e06ce861b… (all of the seat's roots in one cut). By AI agents, Wed Nov 11 2026. No macro, syntax, notation, axiom, sorry.
-/
import Derived.Test.YtchmplnkddgncaaDoorChecked
import GoSem.Claim
import GoSem.ClaimJoined
import GoSem.ClaimMapViews
import Derived.JoinedTies
import Derived.KernelRfl
namespace Go.Proofs.YtchmplnkddgncaaDoor
/- THE CELL 'sum', in the pinned program and in every row, IS THE sha256 OF THE DUMP (.gsa) THAT YtchmplnkddgncaaDoorProg.lean LOADS. Nothing in Lean hashes anything: it is a label: what it is worth is what the hold of that sum in a sandbox is worth. -/
noncomputable def Tryd.pinned : Pinned := { name := "ytchmplnkddgncaadoor", sum := "d18f0d4e06ce861bce98457db47e4f51af93a9715c2ef9cb85983659fc6df342", checked := Tryd.checked }
namespace Rows
def none {H : Type} : Left H := { results := [], args := [] }

/- WHAT THE LISTED PACKAGE-LEVEL VARIABLES READ AS WHEN THE CALL BEGINS. Each datum BY PROGRAM (the guide's laid-datum.mjs) off the statement by which the dump's own 'gosem.cut.vars' lays the variable. In a bare row this is a premise. The card (YtchmplnkddgncaaDoorCards.lean) ties it to the program's text. -/
def laid_bourne_date_months {H : Type} : DataW H := .agg [.lit (.int .i64 31), .lit (.int .i64 29), .lit (.int .i64 31), .lit (.int .i64 30), .lit (.int .i64 31), .lit (.int .i64 30), .lit (.int .i64 31), .lit (.int .i64 31), .lit (.int .i64 30), .lit (.int .i64 31), .lit (.int .i64 30), .lit (.int .i64 31)]

/-- 'bournelaw36.RightTells': WHATEVER THE INPUT: true; the input reads as it did. -/
def rightTellsSpec : ChangeSpec := { name := "rightTells", fn := fun _ => fun
  | [d1, d2, d3, d4, d5, d6] => { results := [.lit (.bool true)], args := [d1, d2, d3, d4, d5, d6] }
  | _ => none }
def rightTellsRow : OpenClaim := { program := "ytchmplnkddgncaadoor", sum := "d18f0d4e06ce861bce98457db47e4f51af93a9715c2ef9cb85983659fc6df342", func := "bourne/bournelaw36.RightTells", spec := "rightTells", unfollowed := true, recurses := true, named := ["bourne/date.months"], apart := false, laid := [("bourne/date.months", laid_bourne_date_months)] }
def RightTellsSaid : Prop := rightTellsRow.holds Tryd.pinned (OpenSpec.ofChange rightTellsSpec)

/-- ITS FALSE NEIGHBOUR: 'it returns false'. Refute it at one input. -/
def rightTellsWrong : ChangeSpec := { name := "rightTells", fn := fun _ => fun
  | [d1, d2, d3, d4, d5, d6] => { results := [.lit (.bool false)], args := [d1, d2, d3, d4, d5, d6] }
  | _ => none }
def RightTellsWrongFalsely : Prop := rightTellsRow.holds Tryd.pinned (OpenSpec.ofChange rightTellsWrong)

/-- 'bournelaw36.RightRoster': WHATEVER THE INPUT: true; the input reads as it did. -/
def rightRosterSpec : ChangeSpec := { name := "rightRoster", fn := fun _ => fun
  | [d1, d2, d3, d4] => { results := [.lit (.bool true)], args := [d1, d2, d3, d4] }
  | _ => none }
def rightRosterRow : OpenClaim := { program := "ytchmplnkddgncaadoor", sum := "d18f0d4e06ce861bce98457db47e4f51af93a9715c2ef9cb85983659fc6df342", func := "bourne/bournelaw36.RightRoster", spec := "rightRoster", unfollowed := true, recurses := true, named := ["bourne/date.months"], apart := false, laid := [("bourne/date.months", laid_bourne_date_months)] }
def RightRosterSaid : Prop := rightRosterRow.holds Tryd.pinned (OpenSpec.ofChange rightRosterSpec)

/-- ITS FALSE NEIGHBOUR: 'it returns false'. Refute it at one input. -/
def rightRosterWrong : ChangeSpec := { name := "rightRoster", fn := fun _ => fun
  | [d1, d2, d3, d4] => { results := [.lit (.bool false)], args := [d1, d2, d3, d4] }
  | _ => none }
def RightRosterWrongFalsely : Prop := rightRosterRow.holds Tryd.pinned (OpenSpec.ofChange rightRosterWrong)

/-- 'bournelaw36.RightKnown': WHATEVER THE INPUT: true; the input reads as it did. -/
def rightKnownSpec : ChangeSpec := { name := "rightKnown", fn := fun _ => fun
  | [d1, d2, d3, d4, d5] => { results := [.lit (.bool true)], args := [d1, d2, d3, d4, d5] }
  | _ => none }
def rightKnownRow : OpenClaim := { program := "ytchmplnkddgncaadoor", sum := "d18f0d4e06ce861bce98457db47e4f51af93a9715c2ef9cb85983659fc6df342", func := "bourne/bournelaw36.RightKnown", spec := "rightKnown", unfollowed := true, recurses := true, named := ["bourne/date.months"], apart := false, laid := [("bourne/date.months", laid_bourne_date_months)] }
def RightKnownSaid : Prop := rightKnownRow.holds Tryd.pinned (OpenSpec.ofChange rightKnownSpec)

/-- ITS FALSE NEIGHBOUR: 'it returns false'. Refute it at one input. -/
def rightKnownWrong : ChangeSpec := { name := "rightKnown", fn := fun _ => fun
  | [d1, d2, d3, d4, d5] => { results := [.lit (.bool false)], args := [d1, d2, d3, d4, d5] }
  | _ => none }
def RightKnownWrongFalsely : Prop := rightKnownRow.holds Tryd.pinned (OpenSpec.ofChange rightKnownWrong)

/-- 'bournelaw36.RightOrders': WHATEVER THE INPUT: true; the input reads as it did. -/
def rightOrdersSpec : ChangeSpec := { name := "rightOrders", fn := fun _ => fun
  | [d1, d2, d3, d4, d5, d6] => { results := [.lit (.bool true)], args := [d1, d2, d3, d4, d5, d6] }
  | _ => none }
def rightOrdersRow : OpenClaim := { program := "ytchmplnkddgncaadoor", sum := "d18f0d4e06ce861bce98457db47e4f51af93a9715c2ef9cb85983659fc6df342", func := "bourne/bournelaw36.RightOrders", spec := "rightOrders", unfollowed := true, recurses := true, named := ["bourne/date.months"], apart := false, laid := [("bourne/date.months", laid_bourne_date_months)] }
def RightOrdersSaid : Prop := rightOrdersRow.holds Tryd.pinned (OpenSpec.ofChange rightOrdersSpec)

/-- ITS FALSE NEIGHBOUR: 'it returns false'. Refute it at one input. -/
def rightOrdersWrong : ChangeSpec := { name := "rightOrders", fn := fun _ => fun
  | [d1, d2, d3, d4, d5, d6] => { results := [.lit (.bool false)], args := [d1, d2, d3, d4, d5, d6] }
  | _ => none }
def RightOrdersWrongFalsely : Prop := rightOrdersRow.holds Tryd.pinned (OpenSpec.ofChange rightOrdersWrong)

/-- 'bournelaw36.RightSeasons': WHATEVER THE INPUT: true; the input reads as it did. -/
def rightSeasonsSpec : ChangeSpec := { name := "rightSeasons", fn := fun _ => fun
  | [d1, d2] => { results := [.lit (.bool true)], args := [d1, d2] }
  | _ => none }
def rightSeasonsRow : OpenClaim := { program := "ytchmplnkddgncaadoor", sum := "d18f0d4e06ce861bce98457db47e4f51af93a9715c2ef9cb85983659fc6df342", func := "bourne/bournelaw36.RightSeasons", spec := "rightSeasons", unfollowed := true, recurses := true, named := ["bourne/date.months"], apart := false, laid := [("bourne/date.months", laid_bourne_date_months)] }
def RightSeasonsSaid : Prop := rightSeasonsRow.holds Tryd.pinned (OpenSpec.ofChange rightSeasonsSpec)

/-- ITS FALSE NEIGHBOUR: 'it returns false'. Refute it at one input. -/
def rightSeasonsWrong : ChangeSpec := { name := "rightSeasons", fn := fun _ => fun
  | [d1, d2] => { results := [.lit (.bool false)], args := [d1, d2] }
  | _ => none }
def RightSeasonsWrongFalsely : Prop := rightSeasonsRow.holds Tryd.pinned (OpenSpec.ofChange rightSeasonsWrong)

/- THE SECOND FORM. 'bulk': how many values and letters a reading holds, each counted each time it is reached (what is shared counts as often as it is met; a slice's spare places count too). A statement '..UptoSaid' is the law's where the arguments, and the package variables that the reading takes, are together of bulk at most 1048576: NARROWER than '..Said'. Prove '..Said' where nothing that the law and all that it calls make is longer than what came in: it says more and counts as full. Else prove '..UptoSaid'. A law counts once. -/
mutual
def uptoBulk {H : Type} : DataW H → Nat
  | .lit (.string bytes) => bytes.length + 1
  | .lit _ => 1
  | .nil => 1
  | .ptr d => uptoBulk d + 1
  | .slice elems spare => uptoBulkAll elems + uptoBulkAll spare + 1
  | .agg parts => uptoBulkAll parts + 1
  | .iface _ d => uptoBulk d + 1
  | .map entries => uptoBulkEntries entries + 1
  | .held _ => 1
def uptoBulkAll {H : Type} : List (DataW H) → Nat
  | [] => 0
  | d :: r => uptoBulk d + uptoBulkAll r
def uptoBulkEntries {H : Type} : List (Lit × DataW H) → Nat
  | [] => 0
  | x :: r => uptoBulkEntry x + uptoBulkEntries r
def uptoBulkEntry {H : Type} : Lit × DataW H → Nat
  | (.string bytes, d) => bytes.length + uptoBulk d + 1
  | (_, d) => uptoBulk d + 1
 end
def uptoSmall : (H : Type) → List (DataW H) → Bool := fun _ ds => decide (uptoBulkAll ds ≤ 1048576)
def OpenSpec.upto (s : _root_.Go.ChangeSpec) : _root_.Go.OpenSpec := { _root_.Go.OpenSpec.ofChange s with cond := some uptoSmall }

/-- 'bournelaw36.RightTells', WHERE WHAT IT READS IS OF BULK AT MOST 1048576: true; the input reads as it did. -/
def rightTellsUptoRow : OpenClaim := { program := "ytchmplnkddgncaadoor", sum := "d18f0d4e06ce861bce98457db47e4f51af93a9715c2ef9cb85983659fc6df342", func := "bourne/bournelaw36.RightTells", spec := "rightTells", unfollowed := true, recurses := true, named := ["bourne/date.months"], apart := false, laid := [("bourne/date.months", laid_bourne_date_months)], narrowed := true }
def RightTellsUptoSaid : Prop := rightTellsUptoRow.holds Tryd.pinned (OpenSpec.upto rightTellsSpec)

/-- 'bournelaw36.RightRoster', WHERE WHAT IT READS IS OF BULK AT MOST 1048576: true; the input reads as it did. -/
def rightRosterUptoRow : OpenClaim := { program := "ytchmplnkddgncaadoor", sum := "d18f0d4e06ce861bce98457db47e4f51af93a9715c2ef9cb85983659fc6df342", func := "bourne/bournelaw36.RightRoster", spec := "rightRoster", unfollowed := true, recurses := true, named := ["bourne/date.months"], apart := false, laid := [("bourne/date.months", laid_bourne_date_months)], narrowed := true }
def RightRosterUptoSaid : Prop := rightRosterUptoRow.holds Tryd.pinned (OpenSpec.upto rightRosterSpec)

/-- 'bournelaw36.RightKnown', WHERE WHAT IT READS IS OF BULK AT MOST 1048576: true; the input reads as it did. -/
def rightKnownUptoRow : OpenClaim := { program := "ytchmplnkddgncaadoor", sum := "d18f0d4e06ce861bce98457db47e4f51af93a9715c2ef9cb85983659fc6df342", func := "bourne/bournelaw36.RightKnown", spec := "rightKnown", unfollowed := true, recurses := true, named := ["bourne/date.months"], apart := false, laid := [("bourne/date.months", laid_bourne_date_months)], narrowed := true }
def RightKnownUptoSaid : Prop := rightKnownUptoRow.holds Tryd.pinned (OpenSpec.upto rightKnownSpec)

/-- 'bournelaw36.RightOrders', WHERE WHAT IT READS IS OF BULK AT MOST 1048576: true; the input reads as it did. -/
def rightOrdersUptoRow : OpenClaim := { program := "ytchmplnkddgncaadoor", sum := "d18f0d4e06ce861bce98457db47e4f51af93a9715c2ef9cb85983659fc6df342", func := "bourne/bournelaw36.RightOrders", spec := "rightOrders", unfollowed := true, recurses := true, named := ["bourne/date.months"], apart := false, laid := [("bourne/date.months", laid_bourne_date_months)], narrowed := true }
def RightOrdersUptoSaid : Prop := rightOrdersUptoRow.holds Tryd.pinned (OpenSpec.upto rightOrdersSpec)

/-- 'bournelaw36.RightSeasons', WHERE WHAT IT READS IS OF BULK AT MOST 1048576: true; the input reads as it did. -/
def rightSeasonsUptoRow : OpenClaim := { program := "ytchmplnkddgncaadoor", sum := "d18f0d4e06ce861bce98457db47e4f51af93a9715c2ef9cb85983659fc6df342", func := "bourne/bournelaw36.RightSeasons", spec := "rightSeasons", unfollowed := true, recurses := true, named := ["bourne/date.months"], apart := false, laid := [("bourne/date.months", laid_bourne_date_months)], narrowed := true }
def RightSeasonsUptoSaid : Prop := rightSeasonsUptoRow.holds Tryd.pinned (OpenSpec.upto rightSeasonsSpec)

end Rows
end Go.Proofs.YtchmplnkddgncaaDoor
