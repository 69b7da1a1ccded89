/-
  DERIVED. GIVEN WITH THE SEED: THE CARDS: each row of YticjghibdjambaaDoorRows.lean that lists a variable, with what it lists TIED to the program's text (the seventh form; the later family's looks); each row that meets fmt, with fmt's text TOLD by the authors' own Lean function (tested against real Go, not proved from fmt's source: count such statements apart). THE CARD IS WHAT COUNTS. Prove the row's statement (the work); the ties are given (YticjghibdjambaaDoorTie.lean); close each card by the builder's one call (the guide's Derived/Test/ToyasCard.lean, 'card_holds'). Laid BY PROGRAM, IN A SANDBOX (cutbox-door.mjs). By AI agents, Wed Nov 11 2026. No macro, syntax, notation, axiom, sorry.
-/
import Derived.Test.YticjghibdjambaaDoorRows
import GoSem.ClaimSeven
namespace Go.Proofs.YticjghibdjambaaDoor
namespace Rows

/-- THE TIED CARD OF 'bournelaw08.DateTells'. -/
def dateTellsCard : Claim7 := { stood := { row := dateTellsRow, standIns := [], harness := (true, "7b14c8184c672d993e884dea5e134a2d2f0f7a15865f385187ab4d2294131114"), looks := false }, kinds := [], alts := [], laidByText := true, laidKinds := [.data, .data, .data, .data], laidTests := true, laidLooks := .later }
def DateTellsCardSaid : Prop := Claim7.holds Tryd.pinned (.plain (OpenSpec.ofChange dateTellsSpec)) dateTellsCard

/-- THE TIED CARD OF 'bournelaw08.DateTexts'. -/
def dateTextsCard : Claim7 := { stood := { row := dateTextsRow, standIns := [], harness := (true, "7b14c8184c672d993e884dea5e134a2d2f0f7a15865f385187ab4d2294131114"), looks := false }, kinds := [], alts := [], laidByText := true, laidKinds := [.data, .data, .data, .data], laidTests := true, laidLooks := .later }
def DateTextsCardSaid : Prop := Claim7.holds Tryd.pinned (.plain (OpenSpec.ofChange dateTextsSpec)) dateTextsCard

/-- THE TIED CARD OF 'bournelaw08.DateBack'. -/
def dateBackCard : Claim7 := { stood := { row := dateBackRow, standIns := [], harness := (true, "7b14c8184c672d993e884dea5e134a2d2f0f7a15865f385187ab4d2294131114"), looks := false }, kinds := [], alts := [], laidByText := true, laidKinds := [.data, .data, .data, .data], laidTests := true, laidLooks := .later }
def DateBackCardSaid : Prop := Claim7.holds Tryd.pinned (.plain (OpenSpec.ofChange dateBackSpec)) dateBackCard

/-- THE TIED CARD OF 'bournelaw08.DateOrder'. -/
def dateOrderCard : Claim7 := { stood := { row := dateOrderRow, standIns := [], harness := (true, "7b14c8184c672d993e884dea5e134a2d2f0f7a15865f385187ab4d2294131114"), looks := false }, kinds := [], alts := [], laidByText := true, laidKinds := [.data, .data, .data, .data], laidTests := true, laidLooks := .later }
def DateOrderCardSaid : Prop := Claim7.holds Tryd.pinned (.plain (OpenSpec.ofChange dateOrderSpec)) dateOrderCard

/-- THE TIED CARD OF 'bournelaw08.DateOnly'. -/
def dateOnlyCard : Claim7 := { stood := { row := dateOnlyRow, standIns := [], harness := (true, "7b14c8184c672d993e884dea5e134a2d2f0f7a15865f385187ab4d2294131114"), looks := false }, kinds := [], alts := [], laidByText := true, laidKinds := [.data, .data, .data, .data], laidTests := true, laidLooks := .later }
def DateOnlyCardSaid : Prop := Claim7.holds Tryd.pinned (.plain (OpenSpec.ofChange dateOnlySpec)) dateOnlyCard

/-- THE SECOND FORM's CARD OF 'bournelaw08.DateTells'. -/
def dateTellsUptoCard : Claim7 := { stood := { row := dateTellsUptoRow, standIns := [], harness := (true, "7b14c8184c672d993e884dea5e134a2d2f0f7a15865f385187ab4d2294131114"), looks := false }, kinds := [], alts := [], laidByText := true, laidKinds := [.data, .data, .data, .data], laidTests := true, laidLooks := .later }
def DateTellsUptoCardSaid : Prop := Claim7.holds Tryd.pinned (.plain (OpenSpec.upto dateTellsSpec)) dateTellsUptoCard

/-- THE SECOND FORM's CARD OF 'bournelaw08.DateTexts'. -/
def dateTextsUptoCard : Claim7 := { stood := { row := dateTextsUptoRow, standIns := [], harness := (true, "7b14c8184c672d993e884dea5e134a2d2f0f7a15865f385187ab4d2294131114"), looks := false }, kinds := [], alts := [], laidByText := true, laidKinds := [.data, .data, .data, .data], laidTests := true, laidLooks := .later }
def DateTextsUptoCardSaid : Prop := Claim7.holds Tryd.pinned (.plain (OpenSpec.upto dateTextsSpec)) dateTextsUptoCard

/-- THE SECOND FORM's CARD OF 'bournelaw08.DateBack'. -/
def dateBackUptoCard : Claim7 := { stood := { row := dateBackUptoRow, standIns := [], harness := (true, "7b14c8184c672d993e884dea5e134a2d2f0f7a15865f385187ab4d2294131114"), looks := false }, kinds := [], alts := [], laidByText := true, laidKinds := [.data, .data, .data, .data], laidTests := true, laidLooks := .later }
def DateBackUptoCardSaid : Prop := Claim7.holds Tryd.pinned (.plain (OpenSpec.upto dateBackSpec)) dateBackUptoCard

/-- THE SECOND FORM's CARD OF 'bournelaw08.DateOrder'. -/
def dateOrderUptoCard : Claim7 := { stood := { row := dateOrderUptoRow, standIns := [], harness := (true, "7b14c8184c672d993e884dea5e134a2d2f0f7a15865f385187ab4d2294131114"), looks := false }, kinds := [], alts := [], laidByText := true, laidKinds := [.data, .data, .data, .data], laidTests := true, laidLooks := .later }
def DateOrderUptoCardSaid : Prop := Claim7.holds Tryd.pinned (.plain (OpenSpec.upto dateOrderSpec)) dateOrderUptoCard

/-- THE SECOND FORM's CARD OF 'bournelaw08.DateOnly'. -/
def dateOnlyUptoCard : Claim7 := { stood := { row := dateOnlyUptoRow, standIns := [], harness := (true, "7b14c8184c672d993e884dea5e134a2d2f0f7a15865f385187ab4d2294131114"), looks := false }, kinds := [], alts := [], laidByText := true, laidKinds := [.data, .data, .data, .data], laidTests := true, laidLooks := .later }
def DateOnlyUptoCardSaid : Prop := Claim7.holds Tryd.pinned (.plain (OpenSpec.upto dateOnlySpec)) dateOnlyUptoCard
end Rows
end Go.Proofs.YticjghibdjambaaDoor
