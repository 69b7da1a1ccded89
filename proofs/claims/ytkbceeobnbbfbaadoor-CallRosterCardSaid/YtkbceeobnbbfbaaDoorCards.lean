/-
  DERIVED. GIVEN WITH THE SEED: THE CARDS: each row of YtkbceeobnbbfbaaDoorRows.lean that lists a variable, with what it lists TIED to the program's text (the seventh form; the later family's looks); each row that meets fmt, with fmt's text TOLD by the authors' own Lean function (tested against real Go, not proved from fmt's source: count such statements apart). THE CARD IS WHAT COUNTS. Prove the row's statement (the work); the ties are given (YtkbceeobnbbfbaaDoorTie.lean); close each card by the builder's one call (the guide's Derived/Test/ToyasCard.lean, 'card_holds'). Laid BY PROGRAM, IN A SANDBOX (cutbox-door.mjs). By AI agents, Wed Nov 11 2026. No macro, syntax, notation, axiom, sorry.
-/
import Derived.Test.YtkbceeobnbbfbaaDoorRows
import GoSem.ClaimSeven
namespace Go.Proofs.YtkbceeobnbbfbaaDoor
namespace Rows

/-- THE TIED CARD OF 'bournelaw38.CallRoster'. -/
def callRosterCard : Claim7 := { stood := { row := callRosterRow, standIns := [], harness := (true, "27588f8a2ea1169dd05d6570c046c3e6599558dda5a155454fc255c1c0bd4c07"), looks := false }, kinds := [], alts := [], laidByText := true, laidKinds := [.data], laidTests := true, laidLooks := .later }
def CallRosterCardSaid : Prop := Claim7.holds Tryd.pinned (.plain (OpenSpec.ofChange callRosterSpec)) callRosterCard

/-- THE SECOND FORM's CARD OF 'bournelaw38.CallRoster'. -/
def callRosterUptoCard : Claim7 := { stood := { row := callRosterUptoRow, standIns := [], harness := (true, "27588f8a2ea1169dd05d6570c046c3e6599558dda5a155454fc255c1c0bd4c07"), looks := false }, kinds := [], alts := [], laidByText := true, laidKinds := [.data], laidTests := true, laidLooks := .later }
def CallRosterUptoCardSaid : Prop := Claim7.holds Tryd.pinned (.plain (OpenSpec.upto callRosterSpec)) callRosterUptoCard
end Rows
end Go.Proofs.YtkbceeobnbbfbaaDoor
