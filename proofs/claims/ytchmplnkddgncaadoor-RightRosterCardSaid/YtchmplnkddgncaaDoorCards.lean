/-
  DERIVED. GIVEN WITH THE SEED: THE CARDS: each row of YtchmplnkddgncaaDoorRows.lean that lists a variable, with what it lists TIED to the program's text (the seventh form; the later family's looks); each row that meets fmt, with fmt's text TOLD by the authors' own Lean function (tested against real Go, not proved from fmt's source: count such statements apart). THE CARD IS WHAT COUNTS. Prove the row's statement (the work); the ties are given (YtchmplnkddgncaaDoorTie.lean); close each card by the builder's one call (the guide's Derived/Test/ToyasCard.lean, 'card_holds'). Laid BY PROGRAM, IN A SANDBOX (cutbox-door.mjs). By AI agents, Wed Nov 11 2026. No macro, syntax, notation, axiom, sorry.
-/
import Derived.Test.YtchmplnkddgncaaDoorRows
import GoSem.ClaimSeven
namespace Go.Proofs.YtchmplnkddgncaaDoor
namespace Rows

/-- THE TIED CARD OF 'bournelaw36.RightTells'. -/
def rightTellsCard : Claim7 := { stood := { row := rightTellsRow, standIns := [], harness := (true, "6fbe35ef8033cfa065e83b1e0172ef1e0ad51a568b36de905a5ea6a181f60a5c"), looks := false }, kinds := [], alts := [], laidByText := true, laidKinds := [.data], laidTests := true, laidLooks := .later }
def RightTellsCardSaid : Prop := Claim7.holds Tryd.pinned (.plain (OpenSpec.ofChange rightTellsSpec)) rightTellsCard

/-- THE TIED CARD OF 'bournelaw36.RightRoster'. -/
def rightRosterCard : Claim7 := { stood := { row := rightRosterRow, standIns := [], harness := (true, "6fbe35ef8033cfa065e83b1e0172ef1e0ad51a568b36de905a5ea6a181f60a5c"), looks := false }, kinds := [], alts := [], laidByText := true, laidKinds := [.data], laidTests := true, laidLooks := .later }
def RightRosterCardSaid : Prop := Claim7.holds Tryd.pinned (.plain (OpenSpec.ofChange rightRosterSpec)) rightRosterCard

/-- THE TIED CARD OF 'bournelaw36.RightKnown'. -/
def rightKnownCard : Claim7 := { stood := { row := rightKnownRow, standIns := [], harness := (true, "6fbe35ef8033cfa065e83b1e0172ef1e0ad51a568b36de905a5ea6a181f60a5c"), looks := false }, kinds := [], alts := [], laidByText := true, laidKinds := [.data], laidTests := true, laidLooks := .later }
def RightKnownCardSaid : Prop := Claim7.holds Tryd.pinned (.plain (OpenSpec.ofChange rightKnownSpec)) rightKnownCard

/-- THE TIED CARD OF 'bournelaw36.RightOrders'. -/
def rightOrdersCard : Claim7 := { stood := { row := rightOrdersRow, standIns := [], harness := (true, "6fbe35ef8033cfa065e83b1e0172ef1e0ad51a568b36de905a5ea6a181f60a5c"), looks := false }, kinds := [], alts := [], laidByText := true, laidKinds := [.data], laidTests := true, laidLooks := .later }
def RightOrdersCardSaid : Prop := Claim7.holds Tryd.pinned (.plain (OpenSpec.ofChange rightOrdersSpec)) rightOrdersCard

/-- THE TIED CARD OF 'bournelaw36.RightSeasons'. -/
def rightSeasonsCard : Claim7 := { stood := { row := rightSeasonsRow, standIns := [], harness := (true, "6fbe35ef8033cfa065e83b1e0172ef1e0ad51a568b36de905a5ea6a181f60a5c"), looks := false }, kinds := [], alts := [], laidByText := true, laidKinds := [.data], laidTests := true, laidLooks := .later }
def RightSeasonsCardSaid : Prop := Claim7.holds Tryd.pinned (.plain (OpenSpec.ofChange rightSeasonsSpec)) rightSeasonsCard

/-- THE SECOND FORM's CARD OF 'bournelaw36.RightTells'. -/
def rightTellsUptoCard : Claim7 := { stood := { row := rightTellsUptoRow, standIns := [], harness := (true, "6fbe35ef8033cfa065e83b1e0172ef1e0ad51a568b36de905a5ea6a181f60a5c"), looks := false }, kinds := [], alts := [], laidByText := true, laidKinds := [.data], laidTests := true, laidLooks := .later }
def RightTellsUptoCardSaid : Prop := Claim7.holds Tryd.pinned (.plain (OpenSpec.upto rightTellsSpec)) rightTellsUptoCard

/-- THE SECOND FORM's CARD OF 'bournelaw36.RightRoster'. -/
def rightRosterUptoCard : Claim7 := { stood := { row := rightRosterUptoRow, standIns := [], harness := (true, "6fbe35ef8033cfa065e83b1e0172ef1e0ad51a568b36de905a5ea6a181f60a5c"), looks := false }, kinds := [], alts := [], laidByText := true, laidKinds := [.data], laidTests := true, laidLooks := .later }
def RightRosterUptoCardSaid : Prop := Claim7.holds Tryd.pinned (.plain (OpenSpec.upto rightRosterSpec)) rightRosterUptoCard

/-- THE SECOND FORM's CARD OF 'bournelaw36.RightKnown'. -/
def rightKnownUptoCard : Claim7 := { stood := { row := rightKnownUptoRow, standIns := [], harness := (true, "6fbe35ef8033cfa065e83b1e0172ef1e0ad51a568b36de905a5ea6a181f60a5c"), looks := false }, kinds := [], alts := [], laidByText := true, laidKinds := [.data], laidTests := true, laidLooks := .later }
def RightKnownUptoCardSaid : Prop := Claim7.holds Tryd.pinned (.plain (OpenSpec.upto rightKnownSpec)) rightKnownUptoCard

/-- THE SECOND FORM's CARD OF 'bournelaw36.RightOrders'. -/
def rightOrdersUptoCard : Claim7 := { stood := { row := rightOrdersUptoRow, standIns := [], harness := (true, "6fbe35ef8033cfa065e83b1e0172ef1e0ad51a568b36de905a5ea6a181f60a5c"), looks := false }, kinds := [], alts := [], laidByText := true, laidKinds := [.data], laidTests := true, laidLooks := .later }
def RightOrdersUptoCardSaid : Prop := Claim7.holds Tryd.pinned (.plain (OpenSpec.upto rightOrdersSpec)) rightOrdersUptoCard

/-- THE SECOND FORM's CARD OF 'bournelaw36.RightSeasons'. -/
def rightSeasonsUptoCard : Claim7 := { stood := { row := rightSeasonsUptoRow, standIns := [], harness := (true, "6fbe35ef8033cfa065e83b1e0172ef1e0ad51a568b36de905a5ea6a181f60a5c"), looks := false }, kinds := [], alts := [], laidByText := true, laidKinds := [.data], laidTests := true, laidLooks := .later }
def RightSeasonsUptoCardSaid : Prop := Claim7.holds Tryd.pinned (.plain (OpenSpec.upto rightSeasonsSpec)) rightSeasonsUptoCard
end Rows
end Go.Proofs.YtchmplnkddgncaaDoor
