/-
  DERIVED. GIVEN WITH THE SEED: THE CARDS: each row of YtminphldifncaaaDoorRows.lean that lists a variable, with what it lists TIED to the program's text (the seventh form; the later family's looks); each row that meets fmt, with fmt's text TOLD by the authors' own Lean function (tested against real Go, not proved from fmt's source: count such statements apart). THE CARD IS WHAT COUNTS. Prove the row's statement (the work); the ties are given (YtminphldifncaaaDoorTie.lean); close each card by the builder's one call (the guide's Derived/Test/ToyasCard.lean, 'card_holds'). Laid BY PROGRAM, IN A SANDBOX (cutbox-door.mjs). By AI agents, Wed Nov 11 2026. No macro, syntax, notation, axiom, sorry.
-/
import Derived.Test.YtminphldifncaaaDoorRows
import GoSem.ClaimSeven
namespace Go.Proofs.YtminphldifncaaaDoor
namespace Rows

/-- THE TIED CARD OF 'bournelaw41.AsofStays'. -/
def asofStaysCard : Claim7 := { stood := { row := asofStaysRow, standIns := [], harness := (true, "a2204049ce5d68308bc4caa1d4aa3d0f37f1a434f4b9170c271299fb748fc6c5"), looks := false }, kinds := [], alts := [], laidByText := true, laidKinds := [.data, .data, .data, .data], laidTests := true, laidLooks := .later }
def AsofStaysCardSaid : Prop := Claim7.holds Tryd.pinned (.plain (OpenSpec.ofChange asofStaysSpec)) asofStaysCard

/-- THE TIED CARD OF 'bournelaw41.AsofZero'. -/
def asofZeroCard : Claim7 := { stood := { row := asofZeroRow, standIns := [], harness := (true, "a2204049ce5d68308bc4caa1d4aa3d0f37f1a434f4b9170c271299fb748fc6c5"), looks := false }, kinds := [], alts := [], laidByText := true, laidKinds := [.data, .data, .data, .data], laidTests := true, laidLooks := .later }
def AsofZeroCardSaid : Prop := Claim7.holds Tryd.pinned (.plain (OpenSpec.ofChange asofZeroSpec)) asofZeroCard

/-- THE TIED CARD OF 'bournelaw41.AsofTells'. -/
def asofTellsCard : Claim7 := { stood := { row := asofTellsRow, standIns := [], harness := (true, "a2204049ce5d68308bc4caa1d4aa3d0f37f1a434f4b9170c271299fb748fc6c5"), looks := false }, kinds := [], alts := [], laidByText := true, laidKinds := [.data, .data, .data, .data], laidTests := true, laidLooks := .later }
def AsofTellsCardSaid : Prop := Claim7.holds Tryd.pinned (.plain (OpenSpec.ofChange asofTellsSpec)) asofTellsCard

/-- THE TIED CARD OF 'bournelaw41.AsofLearns'. -/
def asofLearnsCard : Claim7 := { stood := { row := asofLearnsRow, standIns := [], harness := (true, "a2204049ce5d68308bc4caa1d4aa3d0f37f1a434f4b9170c271299fb748fc6c5"), looks := false }, kinds := [], alts := [], laidByText := true, laidKinds := [.data, .data, .data, .data], laidTests := true, laidLooks := .later }
def AsofLearnsCardSaid : Prop := Claim7.holds Tryd.pinned (.plain (OpenSpec.ofChange asofLearnsSpec)) asofLearnsCard

/-- THE TIED CARD OF 'bournelaw41.AsofIndex'. -/
def asofIndexCard : Claim7 := { stood := { row := asofIndexRow, standIns := [], harness := (true, "a2204049ce5d68308bc4caa1d4aa3d0f37f1a434f4b9170c271299fb748fc6c5"), looks := false }, kinds := [], alts := [], laidByText := true, laidKinds := [.data, .data, .data, .data], laidTests := true, laidLooks := .later }
def AsofIndexCardSaid : Prop := Claim7.holds Tryd.pinned (.plain (OpenSpec.ofChange asofIndexSpec)) asofIndexCard

/-- THE TIED CARD OF 'bournelaw41.AsofLines'. -/
def asofLinesCard : Claim7 := { stood := { row := asofLinesRow, standIns := [], harness := (true, "a2204049ce5d68308bc4caa1d4aa3d0f37f1a434f4b9170c271299fb748fc6c5"), looks := false }, kinds := [], alts := [], laidByText := true, laidKinds := [.data, .data, .data, .data], laidTests := true, laidLooks := .later }
def AsofLinesCardSaid : Prop := Claim7.holds Tryd.pinned (.plain (OpenSpec.ofChange asofLinesSpec)) asofLinesCard

/-- THE SECOND FORM's CARD OF 'bournelaw41.AsofStays'. -/
def asofStaysUptoCard : Claim7 := { stood := { row := asofStaysUptoRow, standIns := [], harness := (true, "a2204049ce5d68308bc4caa1d4aa3d0f37f1a434f4b9170c271299fb748fc6c5"), looks := false }, kinds := [], alts := [], laidByText := true, laidKinds := [.data, .data, .data, .data], laidTests := true, laidLooks := .later }
def AsofStaysUptoCardSaid : Prop := Claim7.holds Tryd.pinned (.plain (OpenSpec.upto asofStaysSpec)) asofStaysUptoCard

/-- THE SECOND FORM's CARD OF 'bournelaw41.AsofZero'. -/
def asofZeroUptoCard : Claim7 := { stood := { row := asofZeroUptoRow, standIns := [], harness := (true, "a2204049ce5d68308bc4caa1d4aa3d0f37f1a434f4b9170c271299fb748fc6c5"), looks := false }, kinds := [], alts := [], laidByText := true, laidKinds := [.data, .data, .data, .data], laidTests := true, laidLooks := .later }
def AsofZeroUptoCardSaid : Prop := Claim7.holds Tryd.pinned (.plain (OpenSpec.upto asofZeroSpec)) asofZeroUptoCard

/-- THE SECOND FORM's CARD OF 'bournelaw41.AsofTells'. -/
def asofTellsUptoCard : Claim7 := { stood := { row := asofTellsUptoRow, standIns := [], harness := (true, "a2204049ce5d68308bc4caa1d4aa3d0f37f1a434f4b9170c271299fb748fc6c5"), looks := false }, kinds := [], alts := [], laidByText := true, laidKinds := [.data, .data, .data, .data], laidTests := true, laidLooks := .later }
def AsofTellsUptoCardSaid : Prop := Claim7.holds Tryd.pinned (.plain (OpenSpec.upto asofTellsSpec)) asofTellsUptoCard

/-- THE SECOND FORM's CARD OF 'bournelaw41.AsofLearns'. -/
def asofLearnsUptoCard : Claim7 := { stood := { row := asofLearnsUptoRow, standIns := [], harness := (true, "a2204049ce5d68308bc4caa1d4aa3d0f37f1a434f4b9170c271299fb748fc6c5"), looks := false }, kinds := [], alts := [], laidByText := true, laidKinds := [.data, .data, .data, .data], laidTests := true, laidLooks := .later }
def AsofLearnsUptoCardSaid : Prop := Claim7.holds Tryd.pinned (.plain (OpenSpec.upto asofLearnsSpec)) asofLearnsUptoCard

/-- THE SECOND FORM's CARD OF 'bournelaw41.AsofIndex'. -/
def asofIndexUptoCard : Claim7 := { stood := { row := asofIndexUptoRow, standIns := [], harness := (true, "a2204049ce5d68308bc4caa1d4aa3d0f37f1a434f4b9170c271299fb748fc6c5"), looks := false }, kinds := [], alts := [], laidByText := true, laidKinds := [.data, .data, .data, .data], laidTests := true, laidLooks := .later }
def AsofIndexUptoCardSaid : Prop := Claim7.holds Tryd.pinned (.plain (OpenSpec.upto asofIndexSpec)) asofIndexUptoCard

/-- THE SECOND FORM's CARD OF 'bournelaw41.AsofLines'. -/
def asofLinesUptoCard : Claim7 := { stood := { row := asofLinesUptoRow, standIns := [], harness := (true, "a2204049ce5d68308bc4caa1d4aa3d0f37f1a434f4b9170c271299fb748fc6c5"), looks := false }, kinds := [], alts := [], laidByText := true, laidKinds := [.data, .data, .data, .data], laidTests := true, laidLooks := .later }
def AsofLinesUptoCardSaid : Prop := Claim7.holds Tryd.pinned (.plain (OpenSpec.upto asofLinesSpec)) asofLinesUptoCard
end Rows
end Go.Proofs.YtminphldifncaaaDoor
