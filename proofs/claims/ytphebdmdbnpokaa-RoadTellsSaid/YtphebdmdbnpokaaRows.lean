/-
  No cell of these rows narrows 'for every input' (looked for: loops, veiled, ifaces, maps, wideKeys, modest, calm, conditions, laid).
  DERIVED. THE GIVEN ROWS OF THIS SEAT. 4 by the template 'for every input the law returns true; each argument reads behind the call as it read before'; 0 by the template 'total and deterministic' (their statements: YtphebdmdbnpokaaTotals.lean).
  GIVEN WITH THE SEED: the statements are not yours to turn. If you find one false, say at which input.
  Laid BY PROGRAM, IN A SANDBOX (cutbox-rows.mjs): the forced cells as the released guide's own fill.sh prints them over the translation ecc8e41d00a8ed90… (all of the seat's roots in one cut). By AI agents, Wed Nov 11 2026. No macro, syntax, notation, axiom, sorry.
-/
import Derived.Test.YtphebdmdbnpokaaChecked
import GoSem.Claim
import GoSem.ClaimJoined
import GoSem.ClaimMapViews
import Derived.JoinedTies
import Derived.KernelRfl
namespace Go.Proofs.Ytphebdmdbnpokaa
/- THE CELL 'sum', in the pinned program and in every row, IS THE sha256 OF THE DUMP (.gsa) THAT YtphebdmdbnpokaaProg.lean LOADS. Nothing in Lean hashes anything: it is a label: what it is worth is what the hold of that sum in a sandbox is worth. -/
noncomputable def Try.pinned : Pinned := { name := "ytphebdmdbnpokaa", sum := "ecc8e41d00a8ed901c2fea0327826038546130b99fa891a18698f9858ad4ef34", checked := Try.checked }
namespace Rows
def none {H : Type} : Left H := { results := [], args := [] }

/-- 'bournelaw42.RoadTells': WHATEVER THE INPUT: true; the input reads as it did. -/
def roadTellsSpec : ChangeSpec := { name := "roadTells", fn := fun _ => fun
  | [d1, d2, d3, d4, d5, d6] => { results := [.lit (.bool true)], args := [d1, d2, d3, d4, d5, d6] }
  | _ => none }
def roadTellsRow : OpenClaim := { program := "ytphebdmdbnpokaa", sum := "ecc8e41d00a8ed901c2fea0327826038546130b99fa891a18698f9858ad4ef34", func := "bourne/bournelaw42.RoadTells", spec := "roadTells", unfollowed := true, recurses := true, apart := false }
def RoadTellsSaid : Prop := roadTellsRow.holds Try.pinned (OpenSpec.ofChange roadTellsSpec)

/-- ITS FALSE NEIGHBOUR: 'it returns false'. Refute it at one input. -/
def roadTellsWrong : ChangeSpec := { name := "roadTells", fn := fun _ => fun
  | [d1, d2, d3, d4, d5, d6] => { results := [.lit (.bool false)], args := [d1, d2, d3, d4, d5, d6] }
  | _ => none }
def RoadTellsWrongFalsely : Prop := roadTellsRow.holds Try.pinned (OpenSpec.ofChange roadTellsWrong)

/-- 'bournelaw42.RoadWays': WHATEVER THE INPUT: true; the input reads as it did. -/
def roadWaysSpec : ChangeSpec := { name := "roadWays", fn := fun _ => fun
  | [d1, d2, d3, d4] => { results := [.lit (.bool true)], args := [d1, d2, d3, d4] }
  | _ => none }
def roadWaysRow : OpenClaim := { program := "ytphebdmdbnpokaa", sum := "ecc8e41d00a8ed901c2fea0327826038546130b99fa891a18698f9858ad4ef34", func := "bourne/bournelaw42.RoadWays", spec := "roadWays", unfollowed := true, recurses := true, apart := false }
def RoadWaysSaid : Prop := roadWaysRow.holds Try.pinned (OpenSpec.ofChange roadWaysSpec)

/-- ITS FALSE NEIGHBOUR: 'it returns false'. Refute it at one input. -/
def roadWaysWrong : ChangeSpec := { name := "roadWays", fn := fun _ => fun
  | [d1, d2, d3, d4] => { results := [.lit (.bool false)], args := [d1, d2, d3, d4] }
  | _ => none }
def RoadWaysWrongFalsely : Prop := roadWaysRow.holds Try.pinned (OpenSpec.ofChange roadWaysWrong)

/-- 'bournelaw42.RoadFloods': WHATEVER THE INPUT: true; the input reads as it did. -/
def roadFloodsSpec : ChangeSpec := { name := "roadFloods", fn := fun _ => fun
  | [d1, d2, d3, d4, d5] => { results := [.lit (.bool true)], args := [d1, d2, d3, d4, d5] }
  | _ => none }
def roadFloodsRow : OpenClaim := { program := "ytphebdmdbnpokaa", sum := "ecc8e41d00a8ed901c2fea0327826038546130b99fa891a18698f9858ad4ef34", func := "bourne/bournelaw42.RoadFloods", spec := "roadFloods", unfollowed := true, recurses := true, apart := false }
def RoadFloodsSaid : Prop := roadFloodsRow.holds Try.pinned (OpenSpec.ofChange roadFloodsSpec)

/-- ITS FALSE NEIGHBOUR: 'it returns false'. Refute it at one input. -/
def roadFloodsWrong : ChangeSpec := { name := "roadFloods", fn := fun _ => fun
  | [d1, d2, d3, d4, d5] => { results := [.lit (.bool false)], args := [d1, d2, d3, d4, d5] }
  | _ => none }
def RoadFloodsWrongFalsely : Prop := roadFloodsRow.holds Try.pinned (OpenSpec.ofChange roadFloodsWrong)

/-- 'bournelaw42.RoadRoom': WHATEVER THE INPUT: true; the input reads as it did. -/
def roadRoomSpec : ChangeSpec := { name := "roadRoom", fn := fun _ => fun
  | [d1, d2, d3, d4] => { results := [.lit (.bool true)], args := [d1, d2, d3, d4] }
  | _ => none }
def roadRoomRow : OpenClaim := { program := "ytphebdmdbnpokaa", sum := "ecc8e41d00a8ed901c2fea0327826038546130b99fa891a18698f9858ad4ef34", func := "bourne/bournelaw42.RoadRoom", spec := "roadRoom", unfollowed := true, recurses := true, apart := false }
def RoadRoomSaid : Prop := roadRoomRow.holds Try.pinned (OpenSpec.ofChange roadRoomSpec)

/-- ITS FALSE NEIGHBOUR: 'it returns false'. Refute it at one input. -/
def roadRoomWrong : ChangeSpec := { name := "roadRoom", fn := fun _ => fun
  | [d1, d2, d3, d4] => { results := [.lit (.bool false)], args := [d1, d2, d3, d4] }
  | _ => none }
def RoadRoomWrongFalsely : Prop := roadRoomRow.holds Try.pinned (OpenSpec.ofChange roadRoomWrong)

/- THE SECOND FORM. 'bulk': how many values and letters a reading holds, each counted each time it is reached (what is shared counts as often as it is met; a slice's spare places count too). A statement '..UptoSaid' is the law's where the arguments, and the package variables that the reading takes, are together of bulk at most 1048576: NARROWER than '..Said'. Prove '..Said' where nothing that the law and all that it calls make is longer than what came in: it says more and counts as full. Else prove '..UptoSaid'. A law counts once. -/
mutual
def uptoBulk {H : Type} : DataW H → Nat
  | .lit (.string bytes) => bytes.length + 1
  | .lit _ => 1
  | .nil => 1
  | .ptr d => uptoBulk d + 1
  | .slice elems spare => uptoBulkAll elems + uptoBulkAll spare + 1
  | .agg parts => uptoBulkAll parts + 1
  | .iface _ d => uptoBulk d + 1
  | .map entries => uptoBulkEntries entries + 1
  | .held _ => 1
def uptoBulkAll {H : Type} : List (DataW H) → Nat
  | [] => 0
  | d :: r => uptoBulk d + uptoBulkAll r
def uptoBulkEntries {H : Type} : List (Lit × DataW H) → Nat
  | [] => 0
  | x :: r => uptoBulkEntry x + uptoBulkEntries r
def uptoBulkEntry {H : Type} : Lit × DataW H → Nat
  | (.string bytes, d) => bytes.length + uptoBulk d + 1
  | (_, d) => uptoBulk d + 1
 end
def uptoSmall : (H : Type) → List (DataW H) → Bool := fun _ ds => decide (uptoBulkAll ds ≤ 1048576)
def OpenSpec.upto (s : _root_.Go.ChangeSpec) : _root_.Go.OpenSpec := { _root_.Go.OpenSpec.ofChange s with cond := some uptoSmall }

/-- 'bournelaw42.RoadTells', WHERE WHAT IT READS IS OF BULK AT MOST 1048576: true; the input reads as it did. -/
def roadTellsUptoRow : OpenClaim := { program := "ytphebdmdbnpokaa", sum := "ecc8e41d00a8ed901c2fea0327826038546130b99fa891a18698f9858ad4ef34", func := "bourne/bournelaw42.RoadTells", spec := "roadTells", unfollowed := true, recurses := true, apart := false, narrowed := true }
def RoadTellsUptoSaid : Prop := roadTellsUptoRow.holds Try.pinned (OpenSpec.upto roadTellsSpec)

/-- 'bournelaw42.RoadWays', WHERE WHAT IT READS IS OF BULK AT MOST 1048576: true; the input reads as it did. -/
def roadWaysUptoRow : OpenClaim := { program := "ytphebdmdbnpokaa", sum := "ecc8e41d00a8ed901c2fea0327826038546130b99fa891a18698f9858ad4ef34", func := "bourne/bournelaw42.RoadWays", spec := "roadWays", unfollowed := true, recurses := true, apart := false, narrowed := true }
def RoadWaysUptoSaid : Prop := roadWaysUptoRow.holds Try.pinned (OpenSpec.upto roadWaysSpec)

/-- 'bournelaw42.RoadFloods', WHERE WHAT IT READS IS OF BULK AT MOST 1048576: true; the input reads as it did. -/
def roadFloodsUptoRow : OpenClaim := { program := "ytphebdmdbnpokaa", sum := "ecc8e41d00a8ed901c2fea0327826038546130b99fa891a18698f9858ad4ef34", func := "bourne/bournelaw42.RoadFloods", spec := "roadFloods", unfollowed := true, recurses := true, apart := false, narrowed := true }
def RoadFloodsUptoSaid : Prop := roadFloodsUptoRow.holds Try.pinned (OpenSpec.upto roadFloodsSpec)

/-- 'bournelaw42.RoadRoom', WHERE WHAT IT READS IS OF BULK AT MOST 1048576: true; the input reads as it did. -/
def roadRoomUptoRow : OpenClaim := { program := "ytphebdmdbnpokaa", sum := "ecc8e41d00a8ed901c2fea0327826038546130b99fa891a18698f9858ad4ef34", func := "bourne/bournelaw42.RoadRoom", spec := "roadRoom", unfollowed := true, recurses := true, apart := false, narrowed := true }
def RoadRoomUptoSaid : Prop := roadRoomUptoRow.holds Try.pinned (OpenSpec.upto roadRoomSpec)

end Rows
end Go.Proofs.Ytphebdmdbnpokaa
