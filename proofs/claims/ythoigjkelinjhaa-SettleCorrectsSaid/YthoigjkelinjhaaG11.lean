/- The walk of sizes. (Printed by gen_g11.py.) -/
import Derived.Deep.Cut
import Derived.Deep.CutRange
import Derived.Test.YthoigjkelinjhaaG7
set_option linter.unusedSimpArgs false
set_option linter.unusedVariables false
namespace Go.Proofs.Ythoigjkelinjhaa.RT
open Go.RowKit BV
attribute [local go_sem] alloc_drewN setCell_drewN shape_drewN
def SizesIs (n l7 l8 : Nat) (w : World) (e : Ending) (w' : World) : Prop := ∃ b : Bool, e = .returned (.bool b) ∧ Below w.heap.size w w' ∧ (b = true → n = 3 ∧ l7 ≤ 128 ∧ l8 ≤ 40)
/-- A truth value that bounds two lengths. -/
def IsB2 (l7 l8 : Nat) (v : Value) : Prop := ∃ b : Bool, v = .bool b ∧ (b = true → l7 ≤ 128 ∧ l8 ≤ 40)
set_option maxRecDepth 100000 in
set_option maxHeartbeats 8000000 in
theorem sizes_any (X : Bas) (pl : CM.Pl) (w : World) (hX : BasOk w w.heap.size X pl) : Calls Try.prog 28 #[.agg #[.string X.nm, .slice X.a1 X.l1 X.c1, .int .i64 X.cl, .slice X.P pl.length X.cP, .slice X.a4 X.l4 X.c4, .slice X.a5 X.l5 X.c5, .slice X.a6 X.l6 X.c6, .slice X.a7 X.l7 X.c7, .slice X.a8 X.l8 X.c8, .slice X.a9 X.l9 X.c9, .int .i64 X.er]] w (SizesIs X.l9 X.l7 X.l8 w) := by
  have n9 := hX.roo.1
  have n3 := hX.pla.1
  have n1 := hX.own.1
  have n4 := hX.lnk.1
  have n5 := hX.twn.1
  have n6 := hX.gau.1
  have n7 := hX.roa.1
  have n8 := hX.she.1
  clear hX
  obtain ⟨nm, a1, l1, c1, cl, P, cP, a4, l4, c4, a5, l5, c5, a6, l6, c6, a7, l7, c7, a8, l8, c8, a9, l9, c9, er⟩ := X
  dsimp only at *
  have hB0 : Below w.heap.size w (w.alloc (.cells (#[.string nm, .slice a1 l1 c1, .int .i64 cl, .slice P pl.length cP, .slice a4 l4 c4, .slice a5 l5 c5, .slice a6 l6 c6, .slice a7 l7 c7, .slice a8 l8 c8, .slice a9 l9 c9, .int .i64 er]) 31)) := (Below.refl _ _).alloc (Nat.le_refl _) _
  have hX0 : Box (w.alloc (.cells (#[.string nm, .slice a1 l1 c1, .int .i64 cl, .slice P pl.length cP, .slice a4 l4 c4, .slice a5 l5 c5, .slice a6 l6 c6, .slice a7 l7 c7, .slice a8 l8 c8, .slice a9 l9 c9, .int .i64 er]) 31)) w.heap.size (#[.string nm, .slice a1 l1 c1, .int .i64 cl, .slice P pl.length cP, .slice a4 l4 c4, .slice a5 l5 c5, .slice a6 l6 c6, .slice a7 l7 c7, .slice a8 l8 c8, .slice a9 l9 c9, .int .i64 er]) 31 := Box.new w _ _
  have KI := Lib.hid (fun n lo hi wx => in_any n lo hi wx)
  go_enter Try.func28, Try.ntmps28
  go_upto_region 1 with fail
  generalize (w.alloc (.cells (#[.string nm, .slice a1 l1 c1, .int .i64 cl, .slice P pl.length cP, .slice a4 l4 c4, .slice a5 l5 c5, .slice a6 l6 c6, .slice a7 l7 c7, .slice a8 l8 c8, .slice a9 l9 c9, .int .i64 er]) 31)) = W at hB0 hX0 ⊢
  have x0 : W.cell? ⟨w.heap.size, 0, none⟩ = some (.string nm) := hX0.cell rfl
  have x1 : W.cell? ⟨w.heap.size, 1, none⟩ = some (.slice a1 l1 c1) := hX0.cell rfl
  have x2 : W.cell? ⟨w.heap.size, 2, none⟩ = some (.int .i64 cl) := hX0.cell rfl
  have x3 : W.cell? ⟨w.heap.size, 3, none⟩ = some (.slice P pl.length cP) := hX0.cell rfl
  have x4 : W.cell? ⟨w.heap.size, 4, none⟩ = some (.slice a4 l4 c4) := hX0.cell rfl
  have x5 : W.cell? ⟨w.heap.size, 5, none⟩ = some (.slice a5 l5 c5) := hX0.cell rfl
  have x6 : W.cell? ⟨w.heap.size, 6, none⟩ = some (.slice a6 l6 c6) := hX0.cell rfl
  have x7 : W.cell? ⟨w.heap.size, 7, none⟩ = some (.slice a7 l7 c7) := hX0.cell rfl
  have x8 : W.cell? ⟨w.heap.size, 8, none⟩ = some (.slice a8 l8 c8) := hX0.cell rfl
  have x9 : W.cell? ⟨w.heap.size, 9, none⟩ = some (.slice a9 l9 c9) := hX0.cell rfl
  have x10 : W.cell? ⟨w.heap.size, 10, none⟩ = some (.int .i64 er) := hX0.cell rfl
  go_cut [3] from 5 to 26 (fun s3 wx => IsB s3 ∧ wx = W)
  case first =>
    go_wp2_with (first | (go_at_call 31; (with_reducible refine (KI.out _ _ _ _).mono ?_); rintro e5 w5 ⟨b, rfl, rfl, _⟩; cases b) | fail)
    all_goals
      go_meet
      exact ⟨⟨_, rfl⟩, by first | rfl | trivial⟩
  case rest =>
    obtain ⟨⟨b3, rfl⟩, rfl⟩ := hcut
    go_upto_region 2 with fail
    go_cut [4] from 26 to 48 (fun s4 wx => IsB2 l7 l8 s4 ∧ wx = wc)
    case first =>
      go_wp2_with fail
      all_goals
        go_meet
        first
          | exact ⟨⟨false, rfl, fun h => by cases h⟩, by first | rfl | trivial⟩
          | exact ⟨⟨_, rfl, fun h => by have := of_decide_eq_true h; omega⟩, by first | rfl | trivial⟩
    case rest =>
      obtain ⟨⟨b4, rfl, hb4⟩, rfl⟩ := hcut
      have Hb4 := Lib.hid hb4
      clear hb4
      cases b3
      · go_wp2_with fail
        go_ret
        exact ⟨false, rfl, hB0, fun h => by cases h⟩
      · cases b4
        · go_wp2_with fail
          go_ret
          exact ⟨false, rfl, hB0, fun h => by cases h⟩
        · by_cases h9 : l9 = 3
          · subst h9
            go_wp2_with fail
            go_ret
            exact ⟨_, rfl, hB0, fun _ => ⟨rfl, Hb4.out (by first | rfl | trivial)⟩⟩
          · have e9 : ((l9 : Int) == 3) = false := by simp; omega
            have e9' : (l9 == 3) = false := by simpa using h9
            go_wp2_with fail
            go_ret
            exact ⟨false, rfl, hB0, fun h => by cases h⟩
end Go.Proofs.Ythoigjkelinjhaa.RT
