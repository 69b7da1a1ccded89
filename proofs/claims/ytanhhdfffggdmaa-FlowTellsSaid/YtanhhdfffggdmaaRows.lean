/-
  No cell of these rows narrows 'for every input' (looked for: loops, veiled, ifaces, maps, wideKeys, modest, calm, conditions, laid).
  DERIVED. THE GIVEN ROWS OF THIS SEAT. 5 by the template 'for every input the law returns true; each argument reads behind the call as it read before'; 0 by the template 'total and deterministic' (their statements: YtanhhdfffggdmaaTotals.lean).
  GIVEN WITH THE SEED: the statements are not yours to turn. If you find one false, say at which input.
  Laid BY PROGRAM, IN A SANDBOX (cutbox-rows.mjs): the forced cells as the released guide's own fill.sh prints them over the translation a0b15d6e3af08b67… (all of the seat's roots in one cut). By AI agents, Wed Nov 11 2026. No macro, syntax, notation, axiom, sorry.
-/
import Derived.Test.YtanhhdfffggdmaaChecked
import GoSem.Claim
import GoSem.ClaimJoined
import GoSem.ClaimMapViews
import Derived.JoinedTies
import Derived.KernelRfl
namespace Go.Proofs.Ytanhhdfffggdmaa
/- THE CELL 'sum', in the pinned program and in every row, IS THE sha256 OF THE DUMP (.gsa) THAT YtanhhdfffggdmaaProg.lean LOADS. Nothing in Lean hashes anything: it is a label: what it is worth is what the hold of that sum in a sandbox is worth. -/
noncomputable def Try.pinned : Pinned := { name := "ytanhhdfffggdmaa", sum := "a0b15d6e3af08b67a35abfe5b80b55f34ea8edffd0499ce0bcb7d0ed3b0e6d35", checked := Try.checked }
namespace Rows
def none {H : Type} : Left H := { results := [], args := [] }

/-- 'bournelaw12.FlowTells': WHATEVER THE INPUT: true; the input reads as it did. -/
def flowTellsSpec : ChangeSpec := { name := "flowTells", fn := fun _ => fun
  | [d1, d2, d3, d4, d5, d6] => { results := [.lit (.bool true)], args := [d1, d2, d3, d4, d5, d6] }
  | _ => none }
def flowTellsRow : OpenClaim := { program := "ytanhhdfffggdmaa", sum := "a0b15d6e3af08b67a35abfe5b80b55f34ea8edffd0499ce0bcb7d0ed3b0e6d35", func := "bourne/bournelaw12.FlowTells", spec := "flowTells", unfollowed := true, recurses := true, apart := false }
def FlowTellsSaid : Prop := flowTellsRow.holds Try.pinned (OpenSpec.ofChange flowTellsSpec)

/-- ITS FALSE NEIGHBOUR: 'it returns false'. Refute it at one input. -/
def flowTellsWrong : ChangeSpec := { name := "flowTells", fn := fun _ => fun
  | [d1, d2, d3, d4, d5, d6] => { results := [.lit (.bool false)], args := [d1, d2, d3, d4, d5, d6] }
  | _ => none }
def FlowTellsWrongFalsely : Prop := flowTellsRow.holds Try.pinned (OpenSpec.ofChange flowTellsWrong)

/-- 'bournelaw12.FlowProves': WHATEVER THE INPUT: true; the input reads as it did. -/
def flowProvesSpec : ChangeSpec := { name := "flowProves", fn := fun _ => fun
  | [d1, d2, d3, d4, d5, d6] => { results := [.lit (.bool true)], args := [d1, d2, d3, d4, d5, d6] }
  | _ => none }
def flowProvesRow : OpenClaim := { program := "ytanhhdfffggdmaa", sum := "a0b15d6e3af08b67a35abfe5b80b55f34ea8edffd0499ce0bcb7d0ed3b0e6d35", func := "bourne/bournelaw12.FlowProves", spec := "flowProves", unfollowed := true, recurses := true, apart := false }
def FlowProvesSaid : Prop := flowProvesRow.holds Try.pinned (OpenSpec.ofChange flowProvesSpec)

/-- ITS FALSE NEIGHBOUR: 'it returns false'. Refute it at one input. -/
def flowProvesWrong : ChangeSpec := { name := "flowProves", fn := fun _ => fun
  | [d1, d2, d3, d4, d5, d6] => { results := [.lit (.bool false)], args := [d1, d2, d3, d4, d5, d6] }
  | _ => none }
def FlowProvesWrongFalsely : Prop := flowProvesRow.holds Try.pinned (OpenSpec.ofChange flowProvesWrong)

/-- 'bournelaw12.FlowNearest': WHATEVER THE INPUT: true; the input reads as it did. -/
def flowNearestSpec : ChangeSpec := { name := "flowNearest", fn := fun _ => fun
  | [d1, d2, d3, d4, d5] => { results := [.lit (.bool true)], args := [d1, d2, d3, d4, d5] }
  | _ => none }
def flowNearestRow : OpenClaim := { program := "ytanhhdfffggdmaa", sum := "a0b15d6e3af08b67a35abfe5b80b55f34ea8edffd0499ce0bcb7d0ed3b0e6d35", func := "bourne/bournelaw12.FlowNearest", spec := "flowNearest", unfollowed := true, recurses := true, apart := false }
def FlowNearestSaid : Prop := flowNearestRow.holds Try.pinned (OpenSpec.ofChange flowNearestSpec)

/-- ITS FALSE NEIGHBOUR: 'it returns false'. Refute it at one input. -/
def flowNearestWrong : ChangeSpec := { name := "flowNearest", fn := fun _ => fun
  | [d1, d2, d3, d4, d5] => { results := [.lit (.bool false)], args := [d1, d2, d3, d4, d5] }
  | _ => none }
def FlowNearestWrongFalsely : Prop := flowNearestRow.holds Try.pinned (OpenSpec.ofChange flowNearestWrong)

/-- 'bournelaw12.FlowGrows': WHATEVER THE INPUT: true; the input reads as it did. -/
def flowGrowsSpec : ChangeSpec := { name := "flowGrows", fn := fun _ => fun
  | [d1, d2, d3, d4, d5, d6] => { results := [.lit (.bool true)], args := [d1, d2, d3, d4, d5, d6] }
  | _ => none }
def flowGrowsRow : OpenClaim := { program := "ytanhhdfffggdmaa", sum := "a0b15d6e3af08b67a35abfe5b80b55f34ea8edffd0499ce0bcb7d0ed3b0e6d35", func := "bourne/bournelaw12.FlowGrows", spec := "flowGrows", unfollowed := true, recurses := true, apart := false }
def FlowGrowsSaid : Prop := flowGrowsRow.holds Try.pinned (OpenSpec.ofChange flowGrowsSpec)

/-- ITS FALSE NEIGHBOUR: 'it returns false'. Refute it at one input. -/
def flowGrowsWrong : ChangeSpec := { name := "flowGrows", fn := fun _ => fun
  | [d1, d2, d3, d4, d5, d6] => { results := [.lit (.bool false)], args := [d1, d2, d3, d4, d5, d6] }
  | _ => none }
def FlowGrowsWrongFalsely : Prop := flowGrowsRow.holds Try.pinned (OpenSpec.ofChange flowGrowsWrong)

/-- 'bournelaw12.FlowTurns': WHATEVER THE INPUT: true; the input reads as it did. -/
def flowTurnsSpec : ChangeSpec := { name := "flowTurns", fn := fun _ => fun
  | [d1, d2, d3, d4, d5, d6] => { results := [.lit (.bool true)], args := [d1, d2, d3, d4, d5, d6] }
  | _ => none }
def flowTurnsRow : OpenClaim := { program := "ytanhhdfffggdmaa", sum := "a0b15d6e3af08b67a35abfe5b80b55f34ea8edffd0499ce0bcb7d0ed3b0e6d35", func := "bourne/bournelaw12.FlowTurns", spec := "flowTurns", unfollowed := true, recurses := true, apart := false }
def FlowTurnsSaid : Prop := flowTurnsRow.holds Try.pinned (OpenSpec.ofChange flowTurnsSpec)

/-- ITS FALSE NEIGHBOUR: 'it returns false'. Refute it at one input. -/
def flowTurnsWrong : ChangeSpec := { name := "flowTurns", fn := fun _ => fun
  | [d1, d2, d3, d4, d5, d6] => { results := [.lit (.bool false)], args := [d1, d2, d3, d4, d5, d6] }
  | _ => none }
def FlowTurnsWrongFalsely : Prop := flowTurnsRow.holds Try.pinned (OpenSpec.ofChange flowTurnsWrong)

/- THE SECOND FORM. 'bulk': how many values and letters a reading holds, each counted each time it is reached (what is shared counts as often as it is met; a slice's spare places count too). A statement '..UptoSaid' is the law's where the arguments, and the package variables that the reading takes, are together of bulk at most 1048576: NARROWER than '..Said'. Prove '..Said' where nothing that the law and all that it calls make is longer than what came in: it says more and counts as full. Else prove '..UptoSaid'. A law counts once. -/
mutual
def uptoBulk {H : Type} : DataW H → Nat
  | .lit (.string bytes) => bytes.length + 1
  | .lit _ => 1
  | .nil => 1
  | .ptr d => uptoBulk d + 1
  | .slice elems spare => uptoBulkAll elems + uptoBulkAll spare + 1
  | .agg parts => uptoBulkAll parts + 1
  | .iface _ d => uptoBulk d + 1
  | .map entries => uptoBulkEntries entries + 1
  | .held _ => 1
def uptoBulkAll {H : Type} : List (DataW H) → Nat
  | [] => 0
  | d :: r => uptoBulk d + uptoBulkAll r
def uptoBulkEntries {H : Type} : List (Lit × DataW H) → Nat
  | [] => 0
  | x :: r => uptoBulkEntry x + uptoBulkEntries r
def uptoBulkEntry {H : Type} : Lit × DataW H → Nat
  | (.string bytes, d) => bytes.length + uptoBulk d + 1
  | (_, d) => uptoBulk d + 1
 end
def uptoSmall : (H : Type) → List (DataW H) → Bool := fun _ ds => decide (uptoBulkAll ds ≤ 1048576)
def OpenSpec.upto (s : _root_.Go.ChangeSpec) : _root_.Go.OpenSpec := { _root_.Go.OpenSpec.ofChange s with cond := some uptoSmall }

/-- 'bournelaw12.FlowTells', WHERE WHAT IT READS IS OF BULK AT MOST 1048576: true; the input reads as it did. -/
def flowTellsUptoRow : OpenClaim := { program := "ytanhhdfffggdmaa", sum := "a0b15d6e3af08b67a35abfe5b80b55f34ea8edffd0499ce0bcb7d0ed3b0e6d35", func := "bourne/bournelaw12.FlowTells", spec := "flowTells", unfollowed := true, recurses := true, apart := false, narrowed := true }
def FlowTellsUptoSaid : Prop := flowTellsUptoRow.holds Try.pinned (OpenSpec.upto flowTellsSpec)

/-- 'bournelaw12.FlowProves', WHERE WHAT IT READS IS OF BULK AT MOST 1048576: true; the input reads as it did. -/
def flowProvesUptoRow : OpenClaim := { program := "ytanhhdfffggdmaa", sum := "a0b15d6e3af08b67a35abfe5b80b55f34ea8edffd0499ce0bcb7d0ed3b0e6d35", func := "bourne/bournelaw12.FlowProves", spec := "flowProves", unfollowed := true, recurses := true, apart := false, narrowed := true }
def FlowProvesUptoSaid : Prop := flowProvesUptoRow.holds Try.pinned (OpenSpec.upto flowProvesSpec)

/-- 'bournelaw12.FlowNearest', WHERE WHAT IT READS IS OF BULK AT MOST 1048576: true; the input reads as it did. -/
def flowNearestUptoRow : OpenClaim := { program := "ytanhhdfffggdmaa", sum := "a0b15d6e3af08b67a35abfe5b80b55f34ea8edffd0499ce0bcb7d0ed3b0e6d35", func := "bourne/bournelaw12.FlowNearest", spec := "flowNearest", unfollowed := true, recurses := true, apart := false, narrowed := true }
def FlowNearestUptoSaid : Prop := flowNearestUptoRow.holds Try.pinned (OpenSpec.upto flowNearestSpec)

/-- 'bournelaw12.FlowGrows', WHERE WHAT IT READS IS OF BULK AT MOST 1048576: true; the input reads as it did. -/
def flowGrowsUptoRow : OpenClaim := { program := "ytanhhdfffggdmaa", sum := "a0b15d6e3af08b67a35abfe5b80b55f34ea8edffd0499ce0bcb7d0ed3b0e6d35", func := "bourne/bournelaw12.FlowGrows", spec := "flowGrows", unfollowed := true, recurses := true, apart := false, narrowed := true }
def FlowGrowsUptoSaid : Prop := flowGrowsUptoRow.holds Try.pinned (OpenSpec.upto flowGrowsSpec)

/-- 'bournelaw12.FlowTurns', WHERE WHAT IT READS IS OF BULK AT MOST 1048576: true; the input reads as it did. -/
def flowTurnsUptoRow : OpenClaim := { program := "ytanhhdfffggdmaa", sum := "a0b15d6e3af08b67a35abfe5b80b55f34ea8edffd0499ce0bcb7d0ed3b0e6d35", func := "bourne/bournelaw12.FlowTurns", spec := "flowTurns", unfollowed := true, recurses := true, apart := false, narrowed := true }
def FlowTurnsUptoSaid : Prop := flowTurnsUptoRow.holds Try.pinned (OpenSpec.upto flowTurnsSpec)

end Rows
end Go.Proofs.Ytanhhdfffggdmaa
