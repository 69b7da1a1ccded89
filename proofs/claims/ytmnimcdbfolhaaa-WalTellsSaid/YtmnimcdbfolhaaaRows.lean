/-
  No cell of these rows narrows 'for every input' (looked for: loops, veiled, ifaces, maps, wideKeys, modest, calm, conditions, laid).
  DERIVED. THE GIVEN ROWS OF THIS SEAT. 6 by the template 'for every input the law returns true; each argument reads behind the call as it read before'; 0 by the template 'total and deterministic' (their statements: YtmnimcdbfolhaaaTotals.lean).
  GIVEN WITH THE SEED: the statements are not yours to turn. If you find one false, say at which input.
  Laid BY PROGRAM, IN A SANDBOX (cutbox-rows.mjs): the forced cells as the released guide's own fill.sh prints them over the translation 21ed9f146e8abc8e… (all of the seat's roots in one cut). By AI agents, Wed Nov 11 2026. No macro, syntax, notation, axiom, sorry.
-/
import Derived.Test.YtmnimcdbfolhaaaChecked
import GoSem.Claim
import GoSem.ClaimJoined
import GoSem.ClaimMapViews
import Derived.JoinedTies
import Derived.KernelRfl
namespace Go.Proofs.Ytmnimcdbfolhaaa
/- THE CELL 'sum', in the pinned program and in every row, IS THE sha256 OF THE DUMP (.gsa) THAT YtmnimcdbfolhaaaProg.lean LOADS. Nothing in Lean hashes anything: it is a label: what it is worth is what the hold of that sum in a sandbox is worth. -/
noncomputable def Try.pinned : Pinned := { name := "ytmnimcdbfolhaaa", sum := "21ed9f146e8abc8e8d4b644accfef2aeac5729630f61e0f4cdd4a7da525b2c8b", checked := Try.checked }
namespace Rows
def none {H : Type} : Left H := { results := [], args := [] }

/-- 'bournelaw07.WalTorn': WHATEVER THE INPUT: true; the input reads as it did. -/
def walTornSpec : ChangeSpec := { name := "walTorn", fn := fun _ => fun
  | [d1, d2, d3] => { results := [.lit (.bool true)], args := [d1, d2, d3] }
  | _ => none }
def walTornRow : OpenClaim := { program := "ytmnimcdbfolhaaa", sum := "21ed9f146e8abc8e8d4b644accfef2aeac5729630f61e0f4cdd4a7da525b2c8b", func := "bourne/bournelaw07.WalTorn", spec := "walTorn", inPlace := ["internal/abi.NoEscape"], unfollowed := true, recurses := true, apart := false }
def WalTornSaid : Prop := walTornRow.holds Try.pinned (OpenSpec.ofChange walTornSpec)

/-- ITS FALSE NEIGHBOUR: 'it returns false'. Refute it at one input. -/
def walTornWrong : ChangeSpec := { name := "walTorn", fn := fun _ => fun
  | [d1, d2, d3] => { results := [.lit (.bool false)], args := [d1, d2, d3] }
  | _ => none }
def WalTornWrongFalsely : Prop := walTornRow.holds Try.pinned (OpenSpec.ofChange walTornWrong)

/-- 'bournelaw07.WalJoins': WHATEVER THE INPUT: true; the input reads as it did. -/
def walJoinsSpec : ChangeSpec := { name := "walJoins", fn := fun _ => fun
  | [d1, d2] => { results := [.lit (.bool true)], args := [d1, d2] }
  | _ => none }
def walJoinsRow : OpenClaim := { program := "ytmnimcdbfolhaaa", sum := "21ed9f146e8abc8e8d4b644accfef2aeac5729630f61e0f4cdd4a7da525b2c8b", func := "bourne/bournelaw07.WalJoins", spec := "walJoins", inPlace := ["internal/abi.NoEscape"], unfollowed := true, recurses := true, apart := false }
def WalJoinsSaid : Prop := walJoinsRow.holds Try.pinned (OpenSpec.ofChange walJoinsSpec)

/-- ITS FALSE NEIGHBOUR: 'it returns false'. Refute it at one input. -/
def walJoinsWrong : ChangeSpec := { name := "walJoins", fn := fun _ => fun
  | [d1, d2] => { results := [.lit (.bool false)], args := [d1, d2] }
  | _ => none }
def WalJoinsWrongFalsely : Prop := walJoinsRow.holds Try.pinned (OpenSpec.ofChange walJoinsWrong)

/-- 'bournelaw07.WalSkips': WHATEVER THE INPUT: true; the input reads as it did. -/
def walSkipsSpec : ChangeSpec := { name := "walSkips", fn := fun _ => fun
  | [d1, d2, d3] => { results := [.lit (.bool true)], args := [d1, d2, d3] }
  | _ => none }
def walSkipsRow : OpenClaim := { program := "ytmnimcdbfolhaaa", sum := "21ed9f146e8abc8e8d4b644accfef2aeac5729630f61e0f4cdd4a7da525b2c8b", func := "bourne/bournelaw07.WalSkips", spec := "walSkips", inPlace := ["internal/abi.NoEscape"], unfollowed := true, recurses := true, apart := false }
def WalSkipsSaid : Prop := walSkipsRow.holds Try.pinned (OpenSpec.ofChange walSkipsSpec)

/-- ITS FALSE NEIGHBOUR: 'it returns false'. Refute it at one input. -/
def walSkipsWrong : ChangeSpec := { name := "walSkips", fn := fun _ => fun
  | [d1, d2, d3] => { results := [.lit (.bool false)], args := [d1, d2, d3] }
  | _ => none }
def WalSkipsWrongFalsely : Prop := walSkipsRow.holds Try.pinned (OpenSpec.ofChange walSkipsWrong)

/-- 'bournelaw07.WalAlone': WHATEVER THE INPUT: true; the input reads as it did. -/
def walAloneSpec : ChangeSpec := { name := "walAlone", fn := fun _ => fun
  | [d1, d2, d3] => { results := [.lit (.bool true)], args := [d1, d2, d3] }
  | _ => none }
def walAloneRow : OpenClaim := { program := "ytmnimcdbfolhaaa", sum := "21ed9f146e8abc8e8d4b644accfef2aeac5729630f61e0f4cdd4a7da525b2c8b", func := "bourne/bournelaw07.WalAlone", spec := "walAlone", inPlace := ["internal/abi.NoEscape"], unfollowed := true, recurses := true, apart := false }
def WalAloneSaid : Prop := walAloneRow.holds Try.pinned (OpenSpec.ofChange walAloneSpec)

/-- ITS FALSE NEIGHBOUR: 'it returns false'. Refute it at one input. -/
def walAloneWrong : ChangeSpec := { name := "walAlone", fn := fun _ => fun
  | [d1, d2, d3] => { results := [.lit (.bool false)], args := [d1, d2, d3] }
  | _ => none }
def WalAloneWrongFalsely : Prop := walAloneRow.holds Try.pinned (OpenSpec.ofChange walAloneWrong)

/-- 'bournelaw07.WalTells': WHATEVER THE INPUT: true; the input reads as it did. -/
def walTellsSpec : ChangeSpec := { name := "walTells", fn := fun _ => fun
  | [d1, d2, d3, d4] => { results := [.lit (.bool true)], args := [d1, d2, d3, d4] }
  | _ => none }
def walTellsRow : OpenClaim := { program := "ytmnimcdbfolhaaa", sum := "21ed9f146e8abc8e8d4b644accfef2aeac5729630f61e0f4cdd4a7da525b2c8b", func := "bourne/bournelaw07.WalTells", spec := "walTells", inPlace := ["internal/abi.NoEscape"], unfollowed := true, recurses := true, apart := false }
def WalTellsSaid : Prop := walTellsRow.holds Try.pinned (OpenSpec.ofChange walTellsSpec)

/-- ITS FALSE NEIGHBOUR: 'it returns false'. Refute it at one input. -/
def walTellsWrong : ChangeSpec := { name := "walTells", fn := fun _ => fun
  | [d1, d2, d3, d4] => { results := [.lit (.bool false)], args := [d1, d2, d3, d4] }
  | _ => none }
def WalTellsWrongFalsely : Prop := walTellsRow.holds Try.pinned (OpenSpec.ofChange walTellsWrong)

/-- 'bournelaw07.WalLasts': WHATEVER THE INPUT: true; the input reads as it did. -/
def walLastsSpec : ChangeSpec := { name := "walLasts", fn := fun _ => fun
  | [d1, d2] => { results := [.lit (.bool true)], args := [d1, d2] }
  | _ => none }
def walLastsRow : OpenClaim := { program := "ytmnimcdbfolhaaa", sum := "21ed9f146e8abc8e8d4b644accfef2aeac5729630f61e0f4cdd4a7da525b2c8b", func := "bourne/bournelaw07.WalLasts", spec := "walLasts", inPlace := ["internal/abi.NoEscape"], unfollowed := true, recurses := true, apart := false }
def WalLastsSaid : Prop := walLastsRow.holds Try.pinned (OpenSpec.ofChange walLastsSpec)

/-- ITS FALSE NEIGHBOUR: 'it returns false'. Refute it at one input. -/
def walLastsWrong : ChangeSpec := { name := "walLasts", fn := fun _ => fun
  | [d1, d2] => { results := [.lit (.bool false)], args := [d1, d2] }
  | _ => none }
def WalLastsWrongFalsely : Prop := walLastsRow.holds Try.pinned (OpenSpec.ofChange walLastsWrong)

/- THE SECOND FORM. 'bulk': how many values and letters a reading holds, each counted each time it is reached (what is shared counts as often as it is met; a slice's spare places count too). A statement '..UptoSaid' is the law's where the arguments, and the package variables that the reading takes, are together of bulk at most 1048576: NARROWER than '..Said'. Prove '..Said' where nothing that the law and all that it calls make is longer than what came in: it says more and counts as full. Else prove '..UptoSaid'. A law counts once. -/
mutual
def uptoBulk {H : Type} : DataW H → Nat
  | .lit (.string bytes) => bytes.length + 1
  | .lit _ => 1
  | .nil => 1
  | .ptr d => uptoBulk d + 1
  | .slice elems spare => uptoBulkAll elems + uptoBulkAll spare + 1
  | .agg parts => uptoBulkAll parts + 1
  | .iface _ d => uptoBulk d + 1
  | .map entries => uptoBulkEntries entries + 1
  | .held _ => 1
def uptoBulkAll {H : Type} : List (DataW H) → Nat
  | [] => 0
  | d :: r => uptoBulk d + uptoBulkAll r
def uptoBulkEntries {H : Type} : List (Lit × DataW H) → Nat
  | [] => 0
  | x :: r => uptoBulkEntry x + uptoBulkEntries r
def uptoBulkEntry {H : Type} : Lit × DataW H → Nat
  | (.string bytes, d) => bytes.length + uptoBulk d + 1
  | (_, d) => uptoBulk d + 1
 end
def uptoSmall : (H : Type) → List (DataW H) → Bool := fun _ ds => decide (uptoBulkAll ds ≤ 1048576)
def OpenSpec.upto (s : _root_.Go.ChangeSpec) : _root_.Go.OpenSpec := { _root_.Go.OpenSpec.ofChange s with cond := some uptoSmall }

/-- 'bournelaw07.WalTorn', WHERE WHAT IT READS IS OF BULK AT MOST 1048576: true; the input reads as it did. -/
def walTornUptoRow : OpenClaim := { program := "ytmnimcdbfolhaaa", sum := "21ed9f146e8abc8e8d4b644accfef2aeac5729630f61e0f4cdd4a7da525b2c8b", func := "bourne/bournelaw07.WalTorn", spec := "walTorn", inPlace := ["internal/abi.NoEscape"], unfollowed := true, recurses := true, apart := false, narrowed := true }
def WalTornUptoSaid : Prop := walTornUptoRow.holds Try.pinned (OpenSpec.upto walTornSpec)

/-- 'bournelaw07.WalJoins', WHERE WHAT IT READS IS OF BULK AT MOST 1048576: true; the input reads as it did. -/
def walJoinsUptoRow : OpenClaim := { program := "ytmnimcdbfolhaaa", sum := "21ed9f146e8abc8e8d4b644accfef2aeac5729630f61e0f4cdd4a7da525b2c8b", func := "bourne/bournelaw07.WalJoins", spec := "walJoins", inPlace := ["internal/abi.NoEscape"], unfollowed := true, recurses := true, apart := false, narrowed := true }
def WalJoinsUptoSaid : Prop := walJoinsUptoRow.holds Try.pinned (OpenSpec.upto walJoinsSpec)

/-- 'bournelaw07.WalSkips', WHERE WHAT IT READS IS OF BULK AT MOST 1048576: true; the input reads as it did. -/
def walSkipsUptoRow : OpenClaim := { program := "ytmnimcdbfolhaaa", sum := "21ed9f146e8abc8e8d4b644accfef2aeac5729630f61e0f4cdd4a7da525b2c8b", func := "bourne/bournelaw07.WalSkips", spec := "walSkips", inPlace := ["internal/abi.NoEscape"], unfollowed := true, recurses := true, apart := false, narrowed := true }
def WalSkipsUptoSaid : Prop := walSkipsUptoRow.holds Try.pinned (OpenSpec.upto walSkipsSpec)

/-- 'bournelaw07.WalAlone', WHERE WHAT IT READS IS OF BULK AT MOST 1048576: true; the input reads as it did. -/
def walAloneUptoRow : OpenClaim := { program := "ytmnimcdbfolhaaa", sum := "21ed9f146e8abc8e8d4b644accfef2aeac5729630f61e0f4cdd4a7da525b2c8b", func := "bourne/bournelaw07.WalAlone", spec := "walAlone", inPlace := ["internal/abi.NoEscape"], unfollowed := true, recurses := true, apart := false, narrowed := true }
def WalAloneUptoSaid : Prop := walAloneUptoRow.holds Try.pinned (OpenSpec.upto walAloneSpec)

/-- 'bournelaw07.WalTells', WHERE WHAT IT READS IS OF BULK AT MOST 1048576: true; the input reads as it did. -/
def walTellsUptoRow : OpenClaim := { program := "ytmnimcdbfolhaaa", sum := "21ed9f146e8abc8e8d4b644accfef2aeac5729630f61e0f4cdd4a7da525b2c8b", func := "bourne/bournelaw07.WalTells", spec := "walTells", inPlace := ["internal/abi.NoEscape"], unfollowed := true, recurses := true, apart := false, narrowed := true }
def WalTellsUptoSaid : Prop := walTellsUptoRow.holds Try.pinned (OpenSpec.upto walTellsSpec)

/-- 'bournelaw07.WalLasts', WHERE WHAT IT READS IS OF BULK AT MOST 1048576: true; the input reads as it did. -/
def walLastsUptoRow : OpenClaim := { program := "ytmnimcdbfolhaaa", sum := "21ed9f146e8abc8e8d4b644accfef2aeac5729630f61e0f4cdd4a7da525b2c8b", func := "bourne/bournelaw07.WalLasts", spec := "walLasts", inPlace := ["internal/abi.NoEscape"], unfollowed := true, recurses := true, apart := false, narrowed := true }
def WalLastsUptoSaid : Prop := walLastsUptoRow.holds Try.pinned (OpenSpec.upto walLastsSpec)

end Rows
end Go.Proofs.Ytmnimcdbfolhaaa
