/- Joined of: SM V11 LP0 V15 LT AppAny LO0 DW1. -/
import Derived.Below
import Derived.Laws.OwnMore
import Derived.Deep.AppendLies
import Derived.Deep.Draws
import Derived.Maps.AppendAt
import Derived.RegionTactic
import Derived.OwnWalk
import Derived.WalkKit
import Derived.WalkSpells
import Derived.WalkLawsBesides
import Derived.Lib.Hide
import Derived.BigQuiet
import Derived.Test.YtkbceeobnbbfbaaDoorG10
import Derived.Test.YtkbceeobnbbfbaaDoorG08
import Derived.Test.YtkbceeobnbbfbaaDoorG09
import Derived.Test.YtkbceeobnbbfbaaDoorG05
import Derived.Test.YtkbceeobnbbfbaaDoorG07
import Derived.Test.YtkbceeobnbbfbaaDoorRows
import Derived.Test.YtkbceeobnbbfbaaDoorG01
/- The walk of small: the fixed example has its documented results. -/
set_option linter.unusedSimpArgs false
set_option linter.unusedVariables false
namespace Go.Proofs.YtkbceeobnbbfbaaDoor
open Go.RowKit CM
attribute [local go_sem] alloc_drewN setCell_drewN shape_drewN

def XB (b : Nat) : Bas := X0 (some ⟨b, 0, none⟩)
set_option maxRecDepth 100000 in
set_option maxHeartbeats 8000000 in
theorem small_any (w : World) : Calls Tryd.prog 4 #[] w (BoolIs true w) := by
  have K0 := Lib.hid (fun wx => fork_any wx)
  go_enter Tryd.func4, Tryd.ntmps4
  go_upto_region 4 with (first | (go_at_call 11; ((with_reducible refine (K0.out _).mono ?_); rintro e1 w1 ⟨b, rfl, hP1, hb1⟩)) | fail)
  clear K0
  have hbP : b < w1.heap.size := by
    obtain ⟨b', off, e, hb, _⟩ := hP1 (by decide)
    injection e with e; injection e with e1 e2; omega
  have bA : ((((w1.alloc (.cells #[.string ⟨#[]⟩, .slice none 0 0, .int .i64 0, .slice (some ⟨b, 0, none⟩) 4 4, .slice none 0 0, .slice none 0 0, .slice none 0 0, .slice none 0 0, .slice none 0 0, .slice none 0 0, .int .i64 0] 31)).alloc (.cells (R0.flatMap Rt.cells).toArray 36)).alloc (.cells (S0.map (Value.int .i64)).toArray 3)).drew).heap[w1.heap.size]? = _ := new3_0 w1 _ _ _
  have bR : ((((w1.alloc (.cells #[.string ⟨#[]⟩, .slice none 0 0, .int .i64 0, .slice (some ⟨b, 0, none⟩) 4 4, .slice none 0 0, .slice none 0 0, .slice none 0 0, .slice none 0 0, .slice none 0 0, .slice none 0 0, .int .i64 0] 31)).alloc (.cells (R0.flatMap Rt.cells).toArray 36)).alloc (.cells (S0.map (Value.int .i64)).toArray 3)).drew).heap[w1.heap.size + 1]? = _ := new3_1 w1 _ _ _
  have bS : ((((w1.alloc (.cells #[.string ⟨#[]⟩, .slice none 0 0, .int .i64 0, .slice (some ⟨b, 0, none⟩) 4 4, .slice none 0 0, .slice none 0 0, .slice none 0 0, .slice none 0 0, .slice none 0 0, .slice none 0 0, .int .i64 0] 31)).alloc (.cells (R0.flatMap Rt.cells).toArray 36)).alloc (.cells (S0.map (Value.int .i64)).toArray 3)).drew).heap[w1.heap.size + 1 + 1]? = _ := new3_2 w1 _ _ _
  have hbw : Below w1.heap.size w1 ((((w1.alloc (.cells #[.string ⟨#[]⟩, .slice none 0 0, .int .i64 0, .slice (some ⟨b, 0, none⟩) 4 4, .slice none 0 0, .slice none 0 0, .slice none 0 0, .slice none 0 0, .slice none 0 0, .slice none 0 0, .int .i64 0] 31)).alloc (.cells (R0.flatMap Rt.cells).toArray 36)).alloc (.cells (S0.map (Value.int .i64)).toArray 3))) := ((((Below.refl _ _).alloc (Nat.le_refl _) _).alloc (by simp) _).alloc (by simp; omega) _)
  have hsz : w1.heap.size + 1 + 1 < (((w1.alloc (.cells #[.string ⟨#[]⟩, .slice none 0 0, .int .i64 0, .slice (some ⟨b, 0, none⟩) 4 4, .slice none 0 0, .slice none 0 0, .slice none 0 0, .slice none 0 0, .slice none 0 0, .slice none 0 0, .int .i64 0] 31)).alloc (.cells (R0.flatMap Rt.cells).toArray 36)).alloc (.cells (S0.map (Value.int .i64)).toArray 3)).heap.size := by simp
  change _ = _ at bA bR bS
  show Code.wp _ _ _ _ (((w1.alloc (.cells #[.string ⟨#[]⟩, .slice none 0 0, .int .i64 0, .slice (some ⟨b, 0, none⟩) 4 4, .slice none 0 0, .slice none 0 0, .slice none 0 0, .slice none 0 0, .slice none 0 0, .slice none 0 0, .int .i64 0] 31)).alloc (.cells (R0.flatMap Rt.cells).toArray 36)).alloc (.cells (S0.map (Value.int .i64)).toArray 3))
  have bA : (((w1.alloc (.cells #[.string ⟨#[]⟩, .slice none 0 0, .int .i64 0, .slice (some ⟨b, 0, none⟩) 4 4, .slice none 0 0, .slice none 0 0, .slice none 0 0, .slice none 0 0, .slice none 0 0, .slice none 0 0, .int .i64 0] 31)).alloc (.cells (R0.flatMap Rt.cells).toArray 36)).alloc (.cells (S0.map (Value.int .i64)).toArray 3)).heap[w1.heap.size]? = some (.cells #[.string ⟨#[]⟩, .slice none 0 0, .int .i64 0, .slice (some ⟨b, 0, none⟩) 4 4, .slice none 0 0, .slice none 0 0, .slice none 0 0, .slice none 0 0, .slice none 0 0, .slice none 0 0, .int .i64 0] 31 (0, 0)) := bA
  have bR : (((w1.alloc (.cells #[.string ⟨#[]⟩, .slice none 0 0, .int .i64 0, .slice (some ⟨b, 0, none⟩) 4 4, .slice none 0 0, .slice none 0 0, .slice none 0 0, .slice none 0 0, .slice none 0 0, .slice none 0 0, .int .i64 0] 31)).alloc (.cells (R0.flatMap Rt.cells).toArray 36)).alloc (.cells (S0.map (Value.int .i64)).toArray 3)).heap[w1.heap.size + 1]? = some (.cells (R0.flatMap Rt.cells).toArray 36 (0, 0)) := bR
  have bS : (((w1.alloc (.cells #[.string ⟨#[]⟩, .slice none 0 0, .int .i64 0, .slice (some ⟨b, 0, none⟩) 4 4, .slice none 0 0, .slice none 0 0, .slice none 0 0, .slice none 0 0, .slice none 0 0, .slice none 0 0, .int .i64 0] 31)).alloc (.cells (R0.flatMap Rt.cells).toArray 36)).alloc (.cells (S0.map (Value.int .i64)).toArray 3)).heap[w1.heap.size + 1 + 1]? = some (.cells (S0.map (Value.int .i64)).toArray 3 (0, 0)) := bS
  have hbw0 := hbw
  generalize (((w1.alloc (.cells #[.string ⟨#[]⟩, .slice none 0 0, .int .i64 0, .slice (some ⟨b, 0, none⟩) 4 4, .slice none 0 0, .slice none 0 0, .slice none 0 0, .slice none 0 0, .slice none 0 0, .slice none 0 0, .int .i64 0] 31)).alloc (.cells (R0.flatMap Rt.cells).toArray 36)).alloc (.cells (S0.map (Value.int .i64)).toArray 3)) = w2 at bA bR bS hbw hbw0 hsz ⊢
  have hP2 : PlacesAt w2 w2.heap.size (some ⟨b, 0, none⟩) pl0 := (hP1.below hbw).more hbw.size
  have hR2 : RightsAt w2 w2.heap.size (some ⟨w1.heap.size + 1, 0, none⟩) R0 := rights_of_block bR (by omega)
  have hS2 : IntsAt w2 w2.heap.size (some ⟨w1.heap.size + 1 + 1, 0, none⟩) S0 := ints_of_block bS (by omega)
  have y : ∀ i, w2.cell? ⟨w1.heap.size, i, none⟩ = (#[.string ⟨#[]⟩, .slice none 0 0, .int .i64 0, .slice (some ⟨b, 0, none⟩) 4 4, .slice none 0 0, .slice none 0 0, .slice none 0 0, .slice none 0 0, .slice none 0 0, .slice none 0 0, .int .i64 0] : Array Value)[i]? := cell_whole bA
  have KD0 : Hid (∀ wx, Below w2.heap.size w2 wx → Calls Tryd.prog 7 #[.agg #[.string ⟨#[]⟩, .slice none 0 0, .int .i64 0, .slice (some ⟨b, 0, none⟩) 4 4, .slice none 0 0, .slice none 0 0, .slice none 0 0, .slice none 0 0, .slice none 0 0, .slice none 0 0, .int .i64 0], .slice (some ⟨w1.heap.size + 1, 0, none⟩) 4 4, .slice (some ⟨w1.heap.size + 1 + 1, 0, none⟩) 4 4] wx (fun e w' => ∃ D cg, e = .returned (.tuple #[.slice D 4 cg, .slice (some ⟨wx.heap.size + 1 + 1, 0, none⟩) 4 4]) ∧ PairsAt w' w'.heap.size D G0 ∧ Below wx.heap.size wx w')) := fun wx h =>
    (day_any (XB b) pl0 R0 S0 _ 4 _ 4 wx (B := w2.heap.size) (hP2.below h) (hR2.below h) (hS2.below h) h.size (by decide) (by decide) (by decide) S0_in).mono fun e w' ⟨v, he, ho, _, hb, _⟩ => by
      change w'.ownsRow _ _ 2 v R0.length (rowP (dayLs pl0 R0 S0)) at ho
      rw [day0] at ho
      have ho : w'.ownsRow _ _ 2 v G0.length (rowP G0) := ho
      obtain ⟨D, cg, rfl, hG⟩ := pairs_of_owns ho
      exact ⟨D, cg, he, hG, hb⟩
  have KE0 : Hid (∀ D cg wx, PairsAt wx wx.heap.size D G0 → Below w2.heap.size w2 wx → Calls Tryd.prog 10 #[.agg #[.string ⟨#[]⟩, .slice none 0 0, .int .i64 0, .slice (some ⟨b, 0, none⟩) 4 4, .slice none 0 0, .slice none 0 0, .slice none 0 0, .slice none 0 0, .slice none 0 0, .slice none 0 0, .int .i64 0], .slice (some ⟨w1.heap.size + 1, 0, none⟩) 4 4, .slice (some ⟨w1.heap.size + 1 + 1, 0, none⟩) 4 4, .slice D 4 cg] wx (fun e w' => ∃ F cf, e = .returned (.slice F 2 cf) ∧ 2 ≤ cf ∧ PairsAt w' w'.heap.size F x0L ∧ Below wx.heap.size wx w')) := fun D cg wx hD h =>
    (excuses_any (XB b) pl0 R0 S0 G0 _ 4 _ 4 D cg wx (B := wx.heap.size) ((hP2.below h).more h.size) ((hR2.below h).more h.size) ((hS2.below h).more h.size) hD (Nat.le_refl _) (by decide) (by decide) (by decide) (by decide) S0_in).mono fun e w' ⟨F, cf, he, hc, hF, hb⟩ => by
      rw [exc0] at he hc hF
      exact ⟨F, cf, he, hc, hF, hb⟩
  have hsz0 : w1.heap.size < w2.heap.size := by omega
  clear hP1 hbw
  have bA1 := Lib.hid bA
  have bR1 := Lib.hid bR
  clear bA bR bS
  have bA := bA1
  have bR := bR1
  clear bA1 bR1
  go_upto_region 7 with (first | (go_at_call 7; ((with_reducible refine (KD0.out _ (Below.refl _ _)).mono ?_); rintro e3 w3 ⟨D, cg, rfl, hG3, hb3⟩; have kc3 := (bcell hb3).1)) | (go_at_call 10; ((with_reducible refine (KE0.out _ _ _ hG3 hb3).mono ?_); rintro e4 w4 ⟨F, cf, rfl, hcf, hF4, hb4⟩)) | fail)
  clear KD0 KE0 y
  have bA := bA.out
  have bR := bR.out
  have bW : (w4.alloc (.cells (rowP x0L).toArray 51)).heap[w4.heap.size]? = some (.cells (rowP x0L).toArray 51 (0, 0)) := heap_alloc_new w4 _
  have hb47 : Below w4.heap.size w4 (w4.alloc (.cells (rowP x0L).toArray 51)) := (Below.refl _ _).alloc (Nat.le_refl _) _
  have hz47 : w4.heap.size < (w4.alloc (.cells (rowP x0L).toArray 51)).heap.size := by simp
  show Code.wp _ _ _ _ (w4.alloc (.cells (rowP x0L).toArray 51))
  generalize w4.alloc (.cells (rowP x0L).toArray 51) = w7 at bW hb47 hz47 ⊢
  have hb24 : Below w2.heap.size w2 w4 := hb3.trans (hb4.mono hb3.size)
  have hb27 : Below w2.heap.size w2 w7 := hb24.trans (hb47.mono hb24.size)
  have hb37 : Below w3.heap.size w3 w7 := hb4.trans (hb47.mono hb4.size)
  have hP7 := (hP2.below hb27).more hb27.size
  have hR7 := (hR2.below hb27).more hb27.size
  have hS7 := (hS2.below hb27).more hb27.size
  have hG7 := (hG3.below hb37).more hb37.size
  have hF7 := (hF4.below hb47).more hb47.size
  have hW7 : PairsAt w7 w7.heap.size (some ⟨w4.heap.size, 0, none⟩) x0L := pairs_of_block bW hz47
  have hB7 : Below w.heap.size w w7 := (hb1.trans (hbw0.mono hb1.size)).trans (hb27.mono (by have := hb1.size; omega))
  have x0 : w7.cell? ⟨w1.heap.size, 0, none⟩ = some (.string ⟨#[]⟩) := by rw [hb27.cell (p := ⟨w1.heap.size, 0, none⟩) (by show w1.heap.size < _; omega), cell_whole bA]; rfl
  have x1 : w7.cell? ⟨w1.heap.size, 1, none⟩ = some (.slice none 0 0) := by rw [hb27.cell (p := ⟨w1.heap.size, 1, none⟩) (by show w1.heap.size < _; omega), cell_whole bA]; rfl
  have x2 : w7.cell? ⟨w1.heap.size, 2, none⟩ = some (.int .i64 0) := by rw [hb27.cell (p := ⟨w1.heap.size, 2, none⟩) (by show w1.heap.size < _; omega), cell_whole bA]; rfl
  have x3 : w7.cell? ⟨w1.heap.size, 3, none⟩ = some (.slice (some ⟨b, 0, none⟩) 4 4) := by rw [hb27.cell (p := ⟨w1.heap.size, 3, none⟩) (by show w1.heap.size < _; omega), cell_whole bA]; rfl
  have x4 : w7.cell? ⟨w1.heap.size, 4, none⟩ = some (.slice none 0 0) := by rw [hb27.cell (p := ⟨w1.heap.size, 4, none⟩) (by show w1.heap.size < _; omega), cell_whole bA]; rfl
  have x5 : w7.cell? ⟨w1.heap.size, 5, none⟩ = some (.slice none 0 0) := by rw [hb27.cell (p := ⟨w1.heap.size, 5, none⟩) (by show w1.heap.size < _; omega), cell_whole bA]; rfl
  have x6 : w7.cell? ⟨w1.heap.size, 6, none⟩ = some (.slice none 0 0) := by rw [hb27.cell (p := ⟨w1.heap.size, 6, none⟩) (by show w1.heap.size < _; omega), cell_whole bA]; rfl
  have x7 : w7.cell? ⟨w1.heap.size, 7, none⟩ = some (.slice none 0 0) := by rw [hb27.cell (p := ⟨w1.heap.size, 7, none⟩) (by show w1.heap.size < _; omega), cell_whole bA]; rfl
  have x8 : w7.cell? ⟨w1.heap.size, 8, none⟩ = some (.slice none 0 0) := by rw [hb27.cell (p := ⟨w1.heap.size, 8, none⟩) (by show w1.heap.size < _; omega), cell_whole bA]; rfl
  have x9 : w7.cell? ⟨w1.heap.size, 9, none⟩ = some (.slice none 0 0) := by rw [hb27.cell (p := ⟨w1.heap.size, 9, none⟩) (by show w1.heap.size < _; omega), cell_whole bA]; rfl
  have x10 : w7.cell? ⟨w1.heap.size, 10, none⟩ = some (.int .i64 0) := by rw [hb27.cell (p := ⟨w1.heap.size, 10, none⟩) (by show w1.heap.size < _; omega), cell_whole bA]; rfl
  have r18 : w7.cell? ⟨w1.heap.size + 1, 18, none⟩ = some (.int .i64 3) := by rw [hb27.cell (p := ⟨w1.heap.size + 1, 18, none⟩) (by show w1.heap.size + 1 < _; omega), cell_whole bR]; rfl
  have r19 : w7.cell? ⟨w1.heap.size + 1, 19, none⟩ = some (.int .i64 0) := by rw [hb27.cell (p := ⟨w1.heap.size + 1, 19, none⟩) (by show w1.heap.size + 1 < _; omega), cell_whole bR]; rfl
  have r20 : w7.cell? ⟨w1.heap.size + 1, 20, none⟩ = some (.int .i64 0) := by rw [hb27.cell (p := ⟨w1.heap.size + 1, 20, none⟩) (by show w1.heap.size + 1 < _; omega), cell_whole bR]; rfl
  have r21 : w7.cell? ⟨w1.heap.size + 1, 21, none⟩ = some (.int .i64 1) := by rw [hb27.cell (p := ⟨w1.heap.size + 1, 21, none⟩) (by show w1.heap.size + 1 < _; omega), cell_whole bR]; rfl
  have r22 : w7.cell? ⟨w1.heap.size + 1, 22, none⟩ = some (.int .i64 8) := by rw [hb27.cell (p := ⟨w1.heap.size + 1, 22, none⟩) (by show w1.heap.size + 1 < _; omega), cell_whole bR]; rfl
  have r23 : w7.cell? ⟨w1.heap.size + 1, 23, none⟩ = some (.int .i64 0) := by rw [hb27.cell (p := ⟨w1.heap.size + 1, 23, none⟩) (by show w1.heap.size + 1 < _; omega), cell_whole bR]; rfl
  have r24 : w7.cell? ⟨w1.heap.size + 1, 24, none⟩ = some (.int .i64 0) := by rw [hb27.cell (p := ⟨w1.heap.size + 1, 24, none⟩) (by show w1.heap.size + 1 < _; omega), cell_whole bR]; rfl
  have r25 : w7.cell? ⟨w1.heap.size + 1, 25, none⟩ = some (.int .i64 0) := by rw [hb27.cell (p := ⟨w1.heap.size + 1, 25, none⟩) (by show w1.heap.size + 1 < _; omega), cell_whole bR]; rfl
  have r26 : w7.cell? ⟨w1.heap.size + 1, 26, none⟩ = some (.int .i64 0) := by rw [hb27.cell (p := ⟨w1.heap.size + 1, 26, none⟩) (by show w1.heap.size + 1 < _; omega), cell_whole bR]; rfl
  have r27 : w7.cell? ⟨w1.heap.size + 1, 27, none⟩ = some (.int .i64 4) := by rw [hb27.cell (p := ⟨w1.heap.size + 1, 27, none⟩) (by show w1.heap.size + 1 < _; omega), cell_whole bR]; rfl
  have r28 : w7.cell? ⟨w1.heap.size + 1, 28, none⟩ = some (.int .i64 0) := by rw [hb27.cell (p := ⟨w1.heap.size + 1, 28, none⟩) (by show w1.heap.size + 1 < _; omega), cell_whole bR]; rfl
  have r29 : w7.cell? ⟨w1.heap.size + 1, 29, none⟩ = some (.int .i64 0) := by rw [hb27.cell (p := ⟨w1.heap.size + 1, 29, none⟩) (by show w1.heap.size + 1 < _; omega), cell_whole bR]; rfl
  have r30 : w7.cell? ⟨w1.heap.size + 1, 30, none⟩ = some (.int .i64 3) := by rw [hb27.cell (p := ⟨w1.heap.size + 1, 30, none⟩) (by show w1.heap.size + 1 < _; omega), cell_whole bR]; rfl
  have r31 : w7.cell? ⟨w1.heap.size + 1, 31, none⟩ = some (.int .i64 3) := by rw [hb27.cell (p := ⟨w1.heap.size + 1, 31, none⟩) (by show w1.heap.size + 1 < _; omega), cell_whole bR]; rfl
  have r32 : w7.cell? ⟨w1.heap.size + 1, 32, none⟩ = some (.int .i64 0) := by rw [hb27.cell (p := ⟨w1.heap.size + 1, 32, none⟩) (by show w1.heap.size + 1 < _; omega), cell_whole bR]; rfl
  have r33 : w7.cell? ⟨w1.heap.size + 1, 33, none⟩ = some (.int .i64 0) := by rw [hb27.cell (p := ⟨w1.heap.size + 1, 33, none⟩) (by show w1.heap.size + 1 < _; omega), cell_whole bR]; rfl
  have r34 : w7.cell? ⟨w1.heap.size + 1, 34, none⟩ = some (.int .i64 0) := by rw [hb27.cell (p := ⟨w1.heap.size + 1, 34, none⟩) (by show w1.heap.size + 1 < _; omega), cell_whole bR]; rfl
  have r35 : w7.cell? ⟨w1.heap.size + 1, 35, none⟩ = some (.int .i64 0) := by rw [hb27.cell (p := ⟨w1.heap.size + 1, 35, none⟩) (by show w1.heap.size + 1 < _; omega), cell_whole bR]; rfl
  have hcf1 : 1 ≤ cf := by omega
  have hcf2 : (1 : Int) ≤ (cf : Int) := by omega
  have hs7 := hb27.size
  have hw7 : w.heap.size ≤ w7.heap.size := hB7.size
  have z0 : w1.heap.size < w7.heap.size := by omega
  have z1 : w1.heap.size + 1 < w7.heap.size := by omega
  have KS : Hid (∀ wx, Below w7.heap.size w7 wx → Calls Tryd.prog 13 #[.agg #[.string ⟨#[]⟩, .slice none 0 0, .int .i64 0, .slice (some ⟨b, 0, none⟩) 4 4, .slice none 0 0, .slice none 0 0, .slice none 0 0, .slice none 0 0, .slice none 0 0, .slice none 0 0, .int .i64 0], .slice (some ⟨w1.heap.size + 1, 0, none⟩) 4 4, .slice D 4 cg] wx (fun e w' => ∃ C cc, e = .returned (.slice C 2 cc) ∧ IntsAt w' w'.heap.size C [2, 3] ∧ Below wx.heap.size wx w')) := fun wx h =>
    (shorts_any (XB b) pl0 R0 G0 _ 4 D cg wx (B := w7.heap.size) (hR7.below h) (hG7.below h) h.size (by decide) (by decide) (by decide)).mono fun e w' ⟨C, cc, he, hI, hb⟩ => by
      rw [short0] at he hI
      exact ⟨C, cc, he, hI, hb⟩
  have KI : Hid (∀ C cc E ce wx, IntsAt wx wx.heap.size C [2, 3] → IntsAt wx wx.heap.size E [2, 3] → Calls Tryd.prog 12 #[.slice C 2 cc, .slice E 2 ce] wx (fun e w' => e = .returned (.bool true) ∧ Below wx.heap.size wx w')) := fun C cc E ce wx h1 h2 =>
    (sameInts_any [2, 3] [2, 3] C E cc ce wx h1 h2 (by decide) (by decide)).mono fun e w' ⟨he, n, hw⟩ => ⟨he, by rw [hw]; exact below_drewN (Below.refl _ _) n⟩
  have KT1 : Hid (∀ wx, Below w7.heap.size w7 wx → Calls Tryd.prog 14 #[.agg #[.string ⟨#[]⟩, .slice none 0 0, .int .i64 0, .slice (some ⟨b, 0, none⟩) 4 4, .slice none 0 0, .slice none 0 0, .slice none 0 0, .slice none 0 0, .slice none 0 0, .slice none 0 0, .int .i64 0], .slice (some ⟨w1.heap.size + 1, 0, none⟩) 4 4, .slice (some ⟨w1.heap.size + 1 + 1, 0, none⟩) 4 4, .slice D 4 cg, .int .i64 1] wx (fun e w' => e = .returned (.int .i64 2) ∧ Below wx.heap.size wx w')) := fun wx h =>
    (Stop_any (XB b) pl0 R0 S0 G0 _ 4 _ 4 D cg 1 wx (B := w7.heap.size) (hP7.below h) (hR7.below h) (hS7.below h) (hG7.below h) h.size (by decide) (by decide) (by decide) (by decide) S0_in).mono fun e w' ⟨he, hb⟩ => ⟨by rw [he, stop01], hb⟩
  have KT3 : Hid (∀ wx, Below w7.heap.size w7 wx → Calls Tryd.prog 14 #[.agg #[.string ⟨#[]⟩, .slice none 0 0, .int .i64 0, .slice (some ⟨b, 0, none⟩) 4 4, .slice none 0 0, .slice none 0 0, .slice none 0 0, .slice none 0 0, .slice none 0 0, .slice none 0 0, .int .i64 0], .slice (some ⟨w1.heap.size + 1, 0, none⟩) 4 4, .slice (some ⟨w1.heap.size + 1 + 1, 0, none⟩) 4 4, .slice D 4 cg, .int .i64 3] wx (fun e w' => e = .returned (.int .i64 (-1)) ∧ Below wx.heap.size wx w')) := fun wx h =>
    (Stop_any (XB b) pl0 R0 S0 G0 _ 4 _ 4 D cg 3 wx (B := w7.heap.size) (hP7.below h) (hR7.below h) (hS7.below h) (hG7.below h) h.size (by decide) (by decide) (by decide) (by decide) S0_in).mono fun e w' ⟨he, hb⟩ => ⟨by rw [he, stop03], hb⟩
  have KX : Hid (∀ wx, Below w7.heap.size w7 wx → Calls Tryd.prog 15 #[.slice F 2 cf, .slice (some ⟨w4.heap.size, 0, none⟩) 2 2] wx (fun e w' => e = .returned (.bool true) ∧ Below wx.heap.size wx w')) := fun wx h =>
    (same38_any x0L x0L F _ cf 2 wx (hF7.below h) (hW7.below h) (by decide) (by decide)).mono fun e w' ⟨he, n, hw⟩ => ⟨he, by rw [hw]; exact below_drewN (Below.refl _ _) n⟩
  have KC : Hid (∀ wx, Below w7.heap.size w7 wx → Calls Tryd.prog 9 #[.agg #[.string ⟨#[]⟩, .slice none 0 0, .int .i64 0, .slice (some ⟨b, 0, none⟩) 4 4, .slice none 0 0, .slice none 0 0, .slice none 0 0, .slice none 0 0, .slice none 0 0, .slice none 0 0, .int .i64 0], .slice (some ⟨w1.heap.size + 1, 0, none⟩) 4 4, .slice (some ⟨w1.heap.size + 1 + 1, 0, none⟩) 4 4, .slice D 4 cg, .slice F 2 cf] wx (fun e w' => e = .returned (.bool true) ∧ Below wx.heap.size wx w')) := fun wx h =>
    (check_any (XB b) pl0 R0 S0 G0 x0L _ 4 _ 4 D cg F cf wx (B := w7.heap.size) (hP7.below h) (hR7.below h) (hS7.below h) (hG7.below h) (hF7.below h) h.size (by decide) (by decide) (by decide) (by decide) (by decide) S0_in).mono fun e w' ⟨he, hb⟩ => ⟨by rw [he, chk0], hb⟩
  have KD : Hid (∀ wx, Below w7.heap.size w7 wx → Calls Tryd.prog 9 #[.agg #[.string ⟨#[]⟩, .slice none 0 0, .int .i64 0, .slice (some ⟨b, 0, none⟩) 4 4, .slice none 0 0, .slice none 0 0, .slice none 0 0, .slice none 0 0, .slice none 0 0, .slice none 0 0, .int .i64 0], .slice (some ⟨w1.heap.size + 1, 0, none⟩) 4 4, .slice (some ⟨w1.heap.size + 1 + 1, 0, none⟩) 4 4, .slice D 4 cg, .slice F 1 cf] wx (fun e w' => e = .returned (.bool false) ∧ Below wx.heap.size wx w')) := fun wx h =>
    (check_any (XB b) pl0 R0 S0 G0 [(2, 4)] _ 4 _ 4 D cg F cf wx (B := w7.heap.size) (hP7.below h) (hR7.below h) (hS7.below h) (hG7.below h) ((hF7.take 1).below h) h.size (by decide) (by decide) (by decide) (by decide) (by decide) S0_in).mono fun e w' ⟨he, hb⟩ => ⟨by rw [he, chk1], hb⟩
  have KF3 : Hid (∀ wx, Below w7.heap.size w7 wx → Calls Tryd.prog 16 #[.agg #[.string ⟨#[]⟩, .slice none 0 0, .int .i64 0, .slice (some ⟨b, 0, none⟩) 4 4, .slice none 0 0, .slice none 0 0, .slice none 0 0, .slice none 0 0, .slice none 0 0, .slice none 0 0, .int .i64 0], .int .i64 2, .agg #[.int .i64 4, .int .i64 0, .int .i64 0, .int .i64 3, .int .i64 3, .int .i64 0, .int .i64 0, .int .i64 0, .int .i64 0]] wx (fun e w' => e = .returned (.bool true) ∧ Below wx.heap.size wx w')) := fun wx h =>
    (futile_any (XB b) pl0 2 ⟨4, 0, 0, 3, 3, 0, 0, 0, 0⟩ wx (B := w7.heap.size) (hP7.below h) h.size (by decide)).mono fun e w' ⟨he, hb⟩ => ⟨by rw [he, fut3], hb⟩
  have KF2 : Hid (∀ wx, Below w7.heap.size w7 wx → Calls Tryd.prog 16 #[.agg #[.string ⟨#[]⟩, .slice none 0 0, .int .i64 0, .slice (some ⟨b, 0, none⟩) 4 4, .slice none 0 0, .slice none 0 0, .slice none 0 0, .slice none 0 0, .slice none 0 0, .slice none 0 0, .int .i64 0], .int .i64 2, .agg #[.int .i64 3, .int .i64 0, .int .i64 0, .int .i64 1, .int .i64 8, .int .i64 0, .int .i64 0, .int .i64 0, .int .i64 0]] wx (fun e w' => e = .returned (.bool false) ∧ Below wx.heap.size wx w')) := fun wx h =>
    (futile_any (XB b) pl0 2 ⟨3, 0, 0, 1, 8, 0, 0, 0, 0⟩ wx (B := w7.heap.size) (hP7.below h) h.size (by decide)).mono fun e w' ⟨he, hb⟩ => ⟨by rw [he, fut2], hb⟩
  clear bA bR bW hb24 hb27 hb37 hb47 hP7 hR7 hS7 hG7 hF7 hW7 hP2 hR2 hS2 hG3 hF4 hb3 hb4 kc3 hbw0
  have kB0 : Below w7.heap.size w7 w7.drew := (Below.refl _ _).drew
  refine Plan.wp_region_tree (.rd 0 (.rd 1 (.rd 2 (.two 3 (.wr 4 (.wr 5 (.rd 6 (.rd 7 (.rd 8 (.rd 9 (.rd 10 (.wr 11 (.rd 12 (.rd 13 (.rd 14 (.rd 15 (.rd 16 (.rd 17 (.rd 18 (.wr 19 (.rd 20 (.rd 21 (.rd 22 (.rd 23 (.rd 24 (.wr 25 (.rd 26 (.rd 27 (.rd 28 (.rd 29 (.rd 30 (.rd 31 (.rd 32 (.wr 33 (.rd 34 (.rd 35 (.rd 36 (.rd 37 (.rd 38 (.rd 39 (.rd 40 (.rd 41 (.wr 42 (.rd 43 (.rd 44 (.rd 45 (.rd 46 (.rd 47 (.rd 48 (.rd 49 (.wr 50 (.rd 51 (.rd 52 (.rd 53 (.rd 54 (.rd 55 (.rd 56 (.wr 57 (.rd 58 (.rd 59 (.rd 60 .done))))))))))))))))))))))))))))))))))))))))))))))))))))))))) 4 (.wr 3 (.wr 5 (.rd 6 (.rd 7 (.rd 8 (.rd 9 (.rd 10 (.wr 11 (.rd 12 (.rd 13 (.rd 14 (.rd 15 (.rd 16 (.rd 17 (.rd 18 (.wr 19 (.rd 20 (.rd 21 (.rd 22 (.rd 23 (.rd 24 (.wr 25 (.rd 26 (.rd 27 (.rd 28 (.rd 29 (.rd 30 (.rd 31 (.rd 32 (.wr 33 (.rd 34 (.rd 35 (.rd 36 (.rd 37 (.rd 38 (.rd 39 (.rd 40 (.rd 41 (.wr 42 (.rd 43 (.rd 44 (.rd 45 (.rd 46 (.rd 47 (.rd 48 (.rd 49 (.wr 50 (.rd 51 (.rd 52 (.rd 53 (.rd 54 (.rd 55 (.rd 56 (.wr 57 (.rd 58 (.rd 59 (.rd 60 .done))))))))))))))))))))))))))))))))))))))))))))))))))))))))))))) (by kernel_rfl) (by kernel_rfl) ?_
  (repeat (first | (refine Plan.tree_read (v := ?_) rfl rfl ?_ ?_; rotate_left; (focus ((intro wS hSw; have hkS := (bcell hSw).1; try (have hkT := fun (b o : Nat) (h : b < w.heap.size) => hkS b o (by first | omega | (simp; omega) | (simp; done))); go_simp); try with_reducible rfl)); simp only [Act.put, List.setIfInBounds_toArray, List.set_cons_zero, List.set_cons_succ]) | (refine Plan.tree_skip rfl rfl ?_; simp only [Act.put, List.setIfInBounds_toArray, List.set_cons_zero, List.set_cons_succ])))
  refine Plan.tree_two rfl rfl (fun K hK => ?_) (fun K hK => ?_)
  · (try go_simp)
    go_at_call 13
    (with_reducible refine (KS.out _ kB0).mono ?_)
    rintro e10 w10 ⟨C1, c1, rfl, hI1, hb10⟩
    have kB10 := Plan.below_go kB0 hb10
    (try go_simp)
    (refine hK.out _ _ (kB10) ?_; clear hK K; try simp only [Act.put, List.setIfInBounds_toArray, List.set_cons_zero, List.set_cons_succ])
    (repeat (first | (refine Plan.tree_read (v := ?_) rfl rfl ?_ ?_; rotate_left; (focus ((intro wS hSw; have hkS := (bcell hSw).1; try (have hkT := fun (b o : Nat) (h : b < w.heap.size) => hkS b o (by first | omega | (simp; omega) | (simp; done))); go_simp); try with_reducible rfl)); simp only [Act.put, List.setIfInBounds_toArray, List.set_cons_zero, List.set_cons_succ]) | (refine Plan.tree_skip rfl rfl ?_; simp only [Act.put, List.setIfInBounds_toArray, List.set_cons_zero, List.set_cons_succ])))
    (refine Plan.tree_write rfl (fun K hK => ?_); try go_simp)
    have kBb := kB10.alloc kB10.size (.cells (([2, 3] : List Int).map (Value.int .i64)).toArray 3)
    refine hK.out _ _ kBb ?_
    clear hK K
    try simp only [Act.put, List.setIfInBounds_toArray, List.set_cons_zero, List.set_cons_succ]
    have hIw : IntsAt (w10.alloc (.cells (([2, 3] : List Int).map (Value.int .i64)).toArray 3)) (w10.alloc (.cells (([2, 3] : List Int).map (Value.int .i64)).toArray 3)).heap.size (some ⟨w10.heap.size, 0, none⟩) [2, 3] := ints_of_block (heap_alloc_new w10 _) (by simp)
    have hIs : IntsAt (w10.alloc (.cells (([2, 3] : List Int).map (Value.int .i64)).toArray 3)) (w10.alloc (.cells (([2, 3] : List Int).map (Value.int .i64)).toArray 3)).heap.size C1 [2, 3] := (hI1.below ((Below.refl _ _).alloc (Nat.le_refl _) _)).more (by simp)
    show Plan.wpTree _ _ _ _ _ _ (w10.alloc (.cells (([2, 3] : List Int).map (Value.int .i64)).toArray 3))
    generalize w10.alloc (.cells (([2, 3] : List Int).map (Value.int .i64)).toArray 3) = wb at kBb hIw hIs ⊢
    clear hI1 hb10
    (repeat (first | (refine Plan.tree_read (v := ?_) rfl rfl ?_ ?_; rotate_left; (focus ((intro wS hSw; have hkS := (bcell hSw).1; try (have hkT := fun (b o : Nat) (h : b < w.heap.size) => hkS b o (by first | omega | (simp; omega) | (simp; done))); go_simp); try with_reducible rfl)); simp only [Act.put, List.setIfInBounds_toArray, List.set_cons_zero, List.set_cons_succ]) | (refine Plan.tree_skip rfl rfl ?_; simp only [Act.put, List.setIfInBounds_toArray, List.set_cons_zero, List.set_cons_succ])))
    (refine Plan.tree_write rfl (fun K hK => ?_); try go_simp)
    go_at_call 12
    (with_reducible refine (KI.out _ _ _ _ _ hIs hIw).mono ?_)
    rintro e11 w11 ⟨rfl, hb11⟩
    have kB11 := Plan.below_go kBb hb11
    (try go_simp)
    (refine hK.out _ _ (kB11) ?_; clear hK K; try simp only [Act.put, List.setIfInBounds_toArray, List.set_cons_zero, List.set_cons_succ])
    (repeat (first | (refine Plan.tree_read (v := ?_) rfl rfl ?_ ?_; rotate_left; (focus ((intro wS hSw; have hkS := (bcell hSw).1; try (have hkT := fun (b o : Nat) (h : b < w.heap.size) => hkS b o (by first | omega | (simp; omega) | (simp; done))); go_simp); try with_reducible rfl)); simp only [Act.put, List.setIfInBounds_toArray, List.set_cons_zero, List.set_cons_succ]) | (refine Plan.tree_skip rfl rfl ?_; simp only [Act.put, List.setIfInBounds_toArray, List.set_cons_zero, List.set_cons_succ])))
    (refine Plan.tree_write rfl (fun K hK => ?_); try go_simp)
    go_at_call 14
    (with_reducible refine (KT1.out _ kB11).mono ?_)
    rintro e12 w12 ⟨rfl, hb12⟩
    have kB12 := Plan.below_go kB11 hb12
    (try go_simp)
    (refine hK.out _ _ (kB12) ?_; clear hK K; try simp only [Act.put, List.setIfInBounds_toArray, List.set_cons_zero, List.set_cons_succ])
    (repeat (first | (refine Plan.tree_read (v := ?_) rfl rfl ?_ ?_; rotate_left; (focus ((intro wS hSw; have hkS := (bcell hSw).1; try (have hkT := fun (b o : Nat) (h : b < w.heap.size) => hkS b o (by first | omega | (simp; omega) | (simp; done))); go_simp); try with_reducible rfl)); simp only [Act.put, List.setIfInBounds_toArray, List.set_cons_zero, List.set_cons_succ]) | (refine Plan.tree_skip rfl rfl ?_; simp only [Act.put, List.setIfInBounds_toArray, List.set_cons_zero, List.set_cons_succ])))
    (refine Plan.tree_write rfl (fun K hK => ?_); try go_simp)
    go_at_call 14
    (with_reducible refine (KT3.out _ kB12).mono ?_)
    rintro e13 w13 ⟨rfl, hb13⟩
    have kB13 := Plan.below_go kB12 hb13
    (try go_simp)
    (refine hK.out _ _ (kB13) ?_; clear hK K; try simp only [Act.put, List.setIfInBounds_toArray, List.set_cons_zero, List.set_cons_succ])
    (repeat (first | (refine Plan.tree_read (v := ?_) rfl rfl ?_ ?_; rotate_left; (focus ((intro wS hSw; have hkS := (bcell hSw).1; try (have hkT := fun (b o : Nat) (h : b < w.heap.size) => hkS b o (by first | omega | (simp; omega) | (simp; done))); go_simp); try with_reducible rfl)); simp only [Act.put, List.setIfInBounds_toArray, List.set_cons_zero, List.set_cons_succ]) | (refine Plan.tree_skip rfl rfl ?_; simp only [Act.put, List.setIfInBounds_toArray, List.set_cons_zero, List.set_cons_succ])))
    (refine Plan.tree_write rfl (fun K hK => ?_); try go_simp)
    go_at_call 15
    (with_reducible refine (KX.out _ kB13).mono ?_)
    rintro e14 w14 ⟨rfl, hb14⟩
    have kB14 := Plan.below_go kB13 hb14
    (try go_simp)
    (refine hK.out _ _ (kB14) ?_; clear hK K; try simp only [Act.put, List.setIfInBounds_toArray, List.set_cons_zero, List.set_cons_succ])
    (repeat (first | (refine Plan.tree_read (v := ?_) rfl rfl ?_ ?_; rotate_left; (focus ((intro wS hSw; have hkS := (bcell hSw).1; try (have hkT := fun (b o : Nat) (h : b < w.heap.size) => hkS b o (by first | omega | (simp; omega) | (simp; done))); go_simp); try with_reducible rfl)); simp only [Act.put, List.setIfInBounds_toArray, List.set_cons_zero, List.set_cons_succ]) | (refine Plan.tree_skip rfl rfl ?_; simp only [Act.put, List.setIfInBounds_toArray, List.set_cons_zero, List.set_cons_succ])))
    (refine Plan.tree_write rfl (fun K hK => ?_); try go_simp)
    go_at_call 9
    (with_reducible refine (KC.out _ kB14).mono ?_)
    rintro e15 w15 ⟨rfl, hb15⟩
    have kB15 := Plan.below_go kB14 hb15
    (try go_simp)
    (refine hK.out _ _ (kB15) ?_; clear hK K; try simp only [Act.put, List.setIfInBounds_toArray, List.set_cons_zero, List.set_cons_succ])
    (repeat (first | (refine Plan.tree_read (v := ?_) rfl rfl ?_ ?_; rotate_left; (focus ((intro wS hSw; have hkS := (bcell hSw).1; try (have hkT := fun (b o : Nat) (h : b < w.heap.size) => hkS b o (by first | omega | (simp; omega) | (simp; done))); go_simp); try with_reducible rfl)); simp only [Act.put, List.setIfInBounds_toArray, List.set_cons_zero, List.set_cons_succ]) | (refine Plan.tree_skip rfl rfl ?_; simp only [Act.put, List.setIfInBounds_toArray, List.set_cons_zero, List.set_cons_succ])))
    (refine Plan.tree_write rfl (fun K hK => ?_); try go_simp)
    go_at_call 9
    (with_reducible refine (KD.out _ kB15).mono ?_)
    rintro e16 w16 ⟨rfl, hb16⟩
    have kB16 := Plan.below_go kB15 hb16
    (try go_simp)
    (refine hK.out _ _ (kB16) ?_; clear hK K; try simp only [Act.put, List.setIfInBounds_toArray, List.set_cons_zero, List.set_cons_succ])
    (repeat (first | (refine Plan.tree_read (v := ?_) rfl rfl ?_ ?_; rotate_left; (focus ((intro wS hSw; have hkS := (bcell hSw).1; try (have hkT := fun (b o : Nat) (h : b < w.heap.size) => hkS b o (by first | omega | (simp; omega) | (simp; done))); go_simp); try with_reducible rfl)); simp only [Act.put, List.setIfInBounds_toArray, List.set_cons_zero, List.set_cons_succ]) | (refine Plan.tree_skip rfl rfl ?_; simp only [Act.put, List.setIfInBounds_toArray, List.set_cons_zero, List.set_cons_succ])))
    (refine Plan.tree_write rfl (fun K hK => ?_); try go_simp)
    go_at_call 16
    (with_reducible refine (KF3.out _ kB16).mono ?_)
    rintro e17 w17 ⟨rfl, hb17⟩
    have kB17 := Plan.below_go kB16 hb17
    (try go_simp)
    (refine hK.out _ _ (kB17) ?_; clear hK K; try simp only [Act.put, List.setIfInBounds_toArray, List.set_cons_zero, List.set_cons_succ])
    (repeat (first | (refine Plan.tree_read (v := ?_) rfl rfl ?_ ?_; rotate_left; (focus ((intro wS hSw; have hkS := (bcell hSw).1; try (have hkT := fun (b o : Nat) (h : b < w.heap.size) => hkS b o (by first | omega | (simp; omega) | (simp; done))); go_simp); try with_reducible rfl)); simp only [Act.put, List.setIfInBounds_toArray, List.set_cons_zero, List.set_cons_succ]) | (refine Plan.tree_skip rfl rfl ?_; simp only [Act.put, List.setIfInBounds_toArray, List.set_cons_zero, List.set_cons_succ])))
    (refine Plan.tree_write rfl (fun K hK => ?_); try go_simp)
    go_at_call 16
    (with_reducible refine (KF2.out _ kB17).mono ?_)
    rintro e18 w18 ⟨rfl, hb18⟩
    have kB18 := Plan.below_go kB17 hb18
    (try go_simp)
    (refine hK.out _ _ (kB18) ?_; clear hK K; try simp only [Act.put, List.setIfInBounds_toArray, List.set_cons_zero, List.set_cons_succ])
    (repeat (first | (refine Plan.tree_read (v := ?_) rfl rfl ?_ ?_; rotate_left; (focus ((intro wS hSw; have hkS := (bcell hSw).1; try (have hkT := fun (b o : Nat) (h : b < w.heap.size) => hkS b o (by first | omega | (simp; omega) | (simp; done))); go_simp); try with_reducible rfl)); simp only [Act.put, List.setIfInBounds_toArray, List.set_cons_zero, List.set_cons_succ]) | (refine Plan.tree_skip rfl rfl ?_; simp only [Act.put, List.setIfInBounds_toArray, List.set_cons_zero, List.set_cons_succ])))
    refine Plan.tree_done ?_
    go_wp2_with fail
    go_ret
    exact ⟨ret_bool (by simp), hB7.trans (kB18.mono hw7)⟩
  · (try go_simp)
    have kB10 := kB0.alloc kB0.size (.cells (([2, 3] : List Int).map (Value.int .i64)).toArray 3)
    refine hK.out _ _ kB10 ?_
    clear hK K
    try simp only [Act.put, List.setIfInBounds_toArray, List.set_cons_zero, List.set_cons_succ]
    have hI0 : IntsAt (w7.drew.alloc (.cells (([2, 3] : List Int).map (Value.int .i64)).toArray 3)) (w7.drew.alloc (.cells (([2, 3] : List Int).map (Value.int .i64)).toArray 3)).heap.size (some ⟨w7.heap.size, 0, none⟩) [2, 3] := ints_of_block (heap_alloc_new w7.drew _) (by simp)
    show Plan.wpTree _ _ _ _ _ _ (w7.drew.alloc (.cells (([2, 3] : List Int).map (Value.int .i64)).toArray 3))
    generalize w7.drew.alloc (.cells (([2, 3] : List Int).map (Value.int .i64)).toArray 3) = wa at kB10 hI0 ⊢
    (repeat (first | (refine Plan.tree_read (v := ?_) rfl rfl ?_ ?_; rotate_left; (focus ((intro wS hSw; have hkS := (bcell hSw).1; try (have hkT := fun (b o : Nat) (h : b < w.heap.size) => hkS b o (by first | omega | (simp; omega) | (simp; done))); go_simp); try with_reducible rfl)); simp only [Act.put, List.setIfInBounds_toArray, List.set_cons_zero, List.set_cons_succ]) | (refine Plan.tree_skip rfl rfl ?_; simp only [Act.put, List.setIfInBounds_toArray, List.set_cons_zero, List.set_cons_succ])))
    (refine Plan.tree_write rfl (fun K hK => ?_); try go_simp)
    go_at_call 13
    (with_reducible refine (KS.out _ kB10).mono ?_)
    rintro e9 wb ⟨C1, c1, rfl, hIs, hb10⟩
    have kBb := Plan.below_go kB10 hb10
    have hIw := (hI0.below hb10).more hb10.size
    (try go_simp)
    (refine hK.out _ _ (kBb) ?_; clear hK K; try simp only [Act.put, List.setIfInBounds_toArray, List.set_cons_zero, List.set_cons_succ])
    (repeat (first | (refine Plan.tree_read (v := ?_) rfl rfl ?_ ?_; rotate_left; (focus ((intro wS hSw; have hkS := (bcell hSw).1; try (have hkT := fun (b o : Nat) (h : b < w.heap.size) => hkS b o (by first | omega | (simp; omega) | (simp; done))); go_simp); try with_reducible rfl)); simp only [Act.put, List.setIfInBounds_toArray, List.set_cons_zero, List.set_cons_succ]) | (refine Plan.tree_skip rfl rfl ?_; simp only [Act.put, List.setIfInBounds_toArray, List.set_cons_zero, List.set_cons_succ])))
    (refine Plan.tree_write rfl (fun K hK => ?_); try go_simp)
    go_at_call 12
    (with_reducible refine (KI.out _ _ _ _ _ hIs hIw).mono ?_)
    rintro e11 w11 ⟨rfl, hb11⟩
    have kB11 := Plan.below_go kBb hb11
    (try go_simp)
    (refine hK.out _ _ (kB11) ?_; clear hK K; try simp only [Act.put, List.setIfInBounds_toArray, List.set_cons_zero, List.set_cons_succ])
    (repeat (first | (refine Plan.tree_read (v := ?_) rfl rfl ?_ ?_; rotate_left; (focus ((intro wS hSw; have hkS := (bcell hSw).1; try (have hkT := fun (b o : Nat) (h : b < w.heap.size) => hkS b o (by first | omega | (simp; omega) | (simp; done))); go_simp); try with_reducible rfl)); simp only [Act.put, List.setIfInBounds_toArray, List.set_cons_zero, List.set_cons_succ]) | (refine Plan.tree_skip rfl rfl ?_; simp only [Act.put, List.setIfInBounds_toArray, List.set_cons_zero, List.set_cons_succ])))
    (refine Plan.tree_write rfl (fun K hK => ?_); try go_simp)
    go_at_call 14
    (with_reducible refine (KT1.out _ kB11).mono ?_)
    rintro e12 w12 ⟨rfl, hb12⟩
    have kB12 := Plan.below_go kB11 hb12
    (try go_simp)
    (refine hK.out _ _ (kB12) ?_; clear hK K; try simp only [Act.put, List.setIfInBounds_toArray, List.set_cons_zero, List.set_cons_succ])
    (repeat (first | (refine Plan.tree_read (v := ?_) rfl rfl ?_ ?_; rotate_left; (focus ((intro wS hSw; have hkS := (bcell hSw).1; try (have hkT := fun (b o : Nat) (h : b < w.heap.size) => hkS b o (by first | omega | (simp; omega) | (simp; done))); go_simp); try with_reducible rfl)); simp only [Act.put, List.setIfInBounds_toArray, List.set_cons_zero, List.set_cons_succ]) | (refine Plan.tree_skip rfl rfl ?_; simp only [Act.put, List.setIfInBounds_toArray, List.set_cons_zero, List.set_cons_succ])))
    (refine Plan.tree_write rfl (fun K hK => ?_); try go_simp)
    go_at_call 14
    (with_reducible refine (KT3.out _ kB12).mono ?_)
    rintro e13 w13 ⟨rfl, hb13⟩
    have kB13 := Plan.below_go kB12 hb13
    (try go_simp)
    (refine hK.out _ _ (kB13) ?_; clear hK K; try simp only [Act.put, List.setIfInBounds_toArray, List.set_cons_zero, List.set_cons_succ])
    (repeat (first | (refine Plan.tree_read (v := ?_) rfl rfl ?_ ?_; rotate_left; (focus ((intro wS hSw; have hkS := (bcell hSw).1; try (have hkT := fun (b o : Nat) (h : b < w.heap.size) => hkS b o (by first | omega | (simp; omega) | (simp; done))); go_simp); try with_reducible rfl)); simp only [Act.put, List.setIfInBounds_toArray, List.set_cons_zero, List.set_cons_succ]) | (refine Plan.tree_skip rfl rfl ?_; simp only [Act.put, List.setIfInBounds_toArray, List.set_cons_zero, List.set_cons_succ])))
    (refine Plan.tree_write rfl (fun K hK => ?_); try go_simp)
    go_at_call 15
    (with_reducible refine (KX.out _ kB13).mono ?_)
    rintro e14 w14 ⟨rfl, hb14⟩
    have kB14 := Plan.below_go kB13 hb14
    (try go_simp)
    (refine hK.out _ _ (kB14) ?_; clear hK K; try simp only [Act.put, List.setIfInBounds_toArray, List.set_cons_zero, List.set_cons_succ])
    (repeat (first | (refine Plan.tree_read (v := ?_) rfl rfl ?_ ?_; rotate_left; (focus ((intro wS hSw; have hkS := (bcell hSw).1; try (have hkT := fun (b o : Nat) (h : b < w.heap.size) => hkS b o (by first | omega | (simp; omega) | (simp; done))); go_simp); try with_reducible rfl)); simp only [Act.put, List.setIfInBounds_toArray, List.set_cons_zero, List.set_cons_succ]) | (refine Plan.tree_skip rfl rfl ?_; simp only [Act.put, List.setIfInBounds_toArray, List.set_cons_zero, List.set_cons_succ])))
    (refine Plan.tree_write rfl (fun K hK => ?_); try go_simp)
    go_at_call 9
    (with_reducible refine (KC.out _ kB14).mono ?_)
    rintro e15 w15 ⟨rfl, hb15⟩
    have kB15 := Plan.below_go kB14 hb15
    (try go_simp)
    (refine hK.out _ _ (kB15) ?_; clear hK K; try simp only [Act.put, List.setIfInBounds_toArray, List.set_cons_zero, List.set_cons_succ])
    (repeat (first | (refine Plan.tree_read (v := ?_) rfl rfl ?_ ?_; rotate_left; (focus ((intro wS hSw; have hkS := (bcell hSw).1; try (have hkT := fun (b o : Nat) (h : b < w.heap.size) => hkS b o (by first | omega | (simp; omega) | (simp; done))); go_simp); try with_reducible rfl)); simp only [Act.put, List.setIfInBounds_toArray, List.set_cons_zero, List.set_cons_succ]) | (refine Plan.tree_skip rfl rfl ?_; simp only [Act.put, List.setIfInBounds_toArray, List.set_cons_zero, List.set_cons_succ])))
    (refine Plan.tree_write rfl (fun K hK => ?_); try go_simp)
    go_at_call 9
    (with_reducible refine (KD.out _ kB15).mono ?_)
    rintro e16 w16 ⟨rfl, hb16⟩
    have kB16 := Plan.below_go kB15 hb16
    (try go_simp)
    (refine hK.out _ _ (kB16) ?_; clear hK K; try simp only [Act.put, List.setIfInBounds_toArray, List.set_cons_zero, List.set_cons_succ])
    (repeat (first | (refine Plan.tree_read (v := ?_) rfl rfl ?_ ?_; rotate_left; (focus ((intro wS hSw; have hkS := (bcell hSw).1; try (have hkT := fun (b o : Nat) (h : b < w.heap.size) => hkS b o (by first | omega | (simp; omega) | (simp; done))); go_simp); try with_reducible rfl)); simp only [Act.put, List.setIfInBounds_toArray, List.set_cons_zero, List.set_cons_succ]) | (refine Plan.tree_skip rfl rfl ?_; simp only [Act.put, List.setIfInBounds_toArray, List.set_cons_zero, List.set_cons_succ])))
    (refine Plan.tree_write rfl (fun K hK => ?_); try go_simp)
    go_at_call 16
    (with_reducible refine (KF3.out _ kB16).mono ?_)
    rintro e17 w17 ⟨rfl, hb17⟩
    have kB17 := Plan.below_go kB16 hb17
    (try go_simp)
    (refine hK.out _ _ (kB17) ?_; clear hK K; try simp only [Act.put, List.setIfInBounds_toArray, List.set_cons_zero, List.set_cons_succ])
    (repeat (first | (refine Plan.tree_read (v := ?_) rfl rfl ?_ ?_; rotate_left; (focus ((intro wS hSw; have hkS := (bcell hSw).1; try (have hkT := fun (b o : Nat) (h : b < w.heap.size) => hkS b o (by first | omega | (simp; omega) | (simp; done))); go_simp); try with_reducible rfl)); simp only [Act.put, List.setIfInBounds_toArray, List.set_cons_zero, List.set_cons_succ]) | (refine Plan.tree_skip rfl rfl ?_; simp only [Act.put, List.setIfInBounds_toArray, List.set_cons_zero, List.set_cons_succ])))
    (refine Plan.tree_write rfl (fun K hK => ?_); try go_simp)
    go_at_call 16
    (with_reducible refine (KF2.out _ kB17).mono ?_)
    rintro e18 w18 ⟨rfl, hb18⟩
    have kB18 := Plan.below_go kB17 hb18
    (try go_simp)
    (refine hK.out _ _ (kB18) ?_; clear hK K; try simp only [Act.put, List.setIfInBounds_toArray, List.set_cons_zero, List.set_cons_succ])
    (repeat (first | (refine Plan.tree_read (v := ?_) rfl rfl ?_ ?_; rotate_left; (focus ((intro wS hSw; have hkS := (bcell hSw).1; try (have hkT := fun (b o : Nat) (h : b < w.heap.size) => hkS b o (by first | omega | (simp; omega) | (simp; done))); go_simp); try with_reducible rfl)); simp only [Act.put, List.setIfInBounds_toArray, List.set_cons_zero, List.set_cons_succ]) | (refine Plan.tree_skip rfl rfl ?_; simp only [Act.put, List.setIfInBounds_toArray, List.set_cons_zero, List.set_cons_succ])))
    refine Plan.tree_done ?_
    go_wp2_with fail
    go_ret
    exact ⟨ret_bool (by simp), hB7.trans (kB18.mono hw7)⟩
end Go.Proofs.YtkbceeobnbbfbaaDoor

/- Walks of the reference's Has (excuses), few, modest, fork. -/
namespace Go.Proofs.YtkbceeobnbbfbaaDoor
open Go.RowKit CM
attribute [local go_sem] alloc_drewN setCell_drewN shape_drewN

def hasE (l : List (Int × Int)) (x : Int × Int) : Bool := decide (x ∈ l)
theorem hasE_no {l : List (Int × Int)} {n : Int × Int} (h : n ∉ l.take l.length) : hasE l n = false := by rw [List.take_length] at h; exact decide_eq_false h
def fewB (pl : Pl) (r g : Nat) : Bool := decide (pl.length ≤ 16) && (decide (r ≤ 14) && decide (g ≤ 20))
/-- modest's answer at the first k. -/
def modP (S : List Int) (n : Nat) : Prop := ∀ p, p < n → supF S p ≤ 1125899906842624
def modB (S : List Int) : Bool := decide (∀ p, p < min S.length 16 → supF S p ≤ 1125899906842624) && decide (posSum (supF S) (min S.length 16) ≤ 1125899906842624)
theorem posSum_bd (S : List Int) : ∀ n, n ≤ 16 → modP S n → 0 ≤ posSum (supF S) n ∧ posSum (supF S) n ≤ (n : Int) * 1125899906842624
  | 0, _, _ => ⟨Int.le_refl _, by simp [posSum]⟩
  | n + 1, h, hm => by
    have ih := posSum_bd S n (by omega) (fun p hp => hm p (by omega))
    have h1 := hm n (by omega)
    have e : posSum (supF S) (n + 1) = posSum (supF S) n + max 0 (supF S n) := rfl
    rw [e]
    have e2 : ((n + 1 : Nat) : Int) * 1125899906842624 = (n : Int) * 1125899906842624 + 1125899906842624 := by push_cast; omega
    omega
set_option maxHeartbeats 1000000 in
theorem modest_any (S : List Int) (C : Option Addr) (cc : Nat) (w : World) {B : Nat} (hC : IntsAt w B C S) (hl : S.length ≤ 9223372036854775807) : Calls Tryd.prog 5 #[.slice C S.length cc] w (BoolEq (modB S) w) := by
  go_enter Tryd.func5, Tryd.ntmps5
  go_wp2_with fail
  go_loop [3, 4] (fun n i => ∃ (k : Nat) (N : Int), k ≤ S.length ∧ k ≤ 16 ∧ i = .int .i64 k ∧ n = .int .i64 N ∧ Hid (N = posSum (supF S) k) ∧ Hid (modP S k)) (fun _ i => S.length - (intOf i).toNat)
  case atStart => exact ⟨0, 0, Nat.zero_le _, Nat.zero_le _, rfl, rfl, rfl, fun p hp => absurd hp (Nat.not_lt_zero _)⟩
  case round =>
    obtain ⟨k, N, hk, hk16, rfl, rfl, hN, hm⟩ := hrel
    have hbd := posSum_bd S k hk16 hm.out
    rw [← hN.out] at hbd
    have fin : min S.length 16 = k → Hid (modB S = decide (N ≤ 1125899906842624)) := fun e => by
      show _ = _
      unfold modB
      rw [e, hN.out, decide_eq_true (show ∀ p, p < k → supF S p ≤ 1125899906842624 from hm.out)]; rfl
    by_cases h1 : k < S.length
    case neg =>
      have hF := fin (by omega)
      clear fin
      go_wp2_with fail
      go_ret
      exact ⟨ret_bool hF.out.symm, rfl⟩
    by_cases h2 : k < 16
    case neg =>
      have hF := fin (by omega)
      have d2 : decide ((k : Int) < 16) = false := decide_eq_false (by omega)
      have d3 : decide (k < 16) = false := decide_eq_false h2
      clear fin
      go_wp2_with fail
      go_ret
      exact ⟨ret_bool hF.out.symm, rfl⟩
    obtain ⟨s, hx⟩ : ∃ s, S[k]? = some s := ⟨_, List.getElem?_eq_getElem h1⟩
    obtain ⟨b, off, rfl, hb, c0⟩ := hC.at_ hx
    have hsF : supF S k = s := by unfold supF; rw [List.getD_eq_getElem?_getD, hx]; rfl
    have d2 : decide (k < 16) = true := decide_eq_true h2
    clear hx fin
    by_cases h3 : s ≤ 1125899906842624
    case neg =>
      have hF : Hid (modB S = false) := by
        show _ = _
        unfold modB
        rw [decide_eq_false (fun h => h3 (by rw [← hsF]; exact h k (by omega)))]; rfl
      clear hsF hN hm
      go_wp2_with fail
      go_ret
      exact ⟨ret_bool hF.out.symm, rfl⟩
    obtain ⟨m, hmx⟩ : ∃ m, m = max 0 s := ⟨_, rfl⟩
    have e2 : max 0 s = m := hmx.symm
    have e3 : (if s < 0 then 0 else s) = m := by rw [hmx]; split <;> omega
    have e4 : (if (0 : Int) < s then s else 0) = m := by rw [hmx]; split <;> omega
    have hm0 : 0 ≤ m ∧ m ≤ 1125899906842624 := by omega
    have hN2 : Hid (N + m = posSum (supF S) (k + 1)) := by show _ = posSum (supF S) k + max 0 (supF S k); rw [hsF, e2, hN.out]
    have hm2 : Hid (modP S (k + 1)) := fun p hp => by
      by_cases g : p < k
      · exact hm.out p g
      · rw [show p = k by omega, hsF]; exact h3
    have hbd2 : N + m ≤ 9223372036854775807 := by omega
    clear hsF hN hm hmx
    go_wp2_with fail
    clear e2 e3 e4
    go_round
    case rel => exact ⟨k + 1, N + m, by omega, by omega, by go_num, rfl, hN2, hm2⟩
    case measure => simp [intOf]; omega
end Go.Proofs.YtkbceeobnbbfbaaDoor

/- Plain facts for the laws of call. -/
namespace Go.Proofs.YtkbceeobnbbfbaaDoor
open Go.RowKit CM
theorem posSum_mono (sup : Nat → Int) (n : Nat) : ∀ k, posSum sup n ≤ posSum sup (n + k)
  | 0 => Int.le_refl _
  | k + 1 => by
    have ih := posSum_mono sup n k
    have e : posSum sup (n + (k + 1)) = posSum sup (n + k) + max 0 (sup (n + k)) := rfl
    omega
section
variable {pl : Pl} {R : List Rt} {S : List Int} {G x : List (Int × Int)}
theorem modest_of (h : modB S = true) (h1 : pl.length ≤ 16) (h2 : R.length ≤ 14) : CM.Modest pl R (supF S) S.length := by
  unfold modB at h
  simp only [Bool.and_eq_true, decide_eq_true_eq] at h
  refine ⟨?_, by omega⟩
  have := posSum_mono (supF S) (min pl.length S.length) (min S.length 16 - min pl.length S.length)
  rw [show min pl.length S.length + (min S.length 16 - min pl.length S.length) = min S.length 16 by omega] at this
  omega
theorem chk_day (hM : CM.Modest pl R (supF S) S.length) (hx : ∀ e ∈ excN pl R S (dayLs pl R S), e ∈ x) : chkN pl R S (dayLs pl R S) x = true := hM.accepted hx
theorem chk_only (hM : CM.Modest pl R (supF S) S.length) (h : chkN pl R S G x = true) : G = dayLs pl R S := hM.only h
theorem chk_mem (h : chkN pl R S G x = true) : ∀ e ∈ excN pl R S G, e ∈ x := by
  intro e he
  obtain ⟨_, _, _, h4⟩ := chk_iff.1 h
  have he : e ∈ (List.range R.length).flatMap (excI pl R S G) := he
  obtain ⟨i, hi, he⟩ := List.mem_flatMap.1 he
  have hi := List.mem_range.1 hi
  unfold excI at he
  by_cases g : (shortF pl R G i && decide (0 ≤ stopN pl R S G i)) = true
  · rw [if_pos g] at he
    rw [Bool.and_eq_true] at g
    obtain ⟨j, hj, rfl⟩ := List.mem_map.1 he
    exact (h4 i hi g.1).2 j hj
  · rw [if_neg g] at he; cases he
theorem rest_no (hM : CM.Modest pl R (supF S) S.length) (hid : ∀ i j, i < R.length → j < R.length → (rtN R i).id = (rtN R j).id → i = j) {k : Nat} (hk : k < (excN pl R S (dayLs pl R S)).length) :
    chkN pl R S (dayLs pl R S) ((excN pl R S (dayLs pl R S)).take k ++ (excN pl R S (dayLs pl R S)).drop (k + 1)) = false := by
  cases hc : chkN pl R S (dayLs pl R S) ((excN pl R S (dayLs pl R S)).take k ++ (excN pl R S (dayLs pl R S)).drop (k + 1))
  · rfl
  · have h1 := chk_mem hc _ (List.getElem_mem hk)
    exact absurd h1 (rest_not (excL_nodup hid) (List.getElem?_eq_getElem hk))
/-- In the day's grants a short right has a stop, where nothing is left and which no later right with water reaches. -/
theorem stop_day (hM : CM.Modest pl R (supF S) S.length) {i : Nat} (hi : i < R.length) (hne : rcR pl R i ≠ []) (hs : litN pl R S i < rateR R i) :
    ∃ q : Nat, stopN pl R S (dayLs pl R S) i = q ∧ q ∈ rcR pl R i ∧ dayN pl R S R.length q = 0 ∧ ∀ j, i < j → j < R.length → 0 < litN pl R S j → q ∉ rcR pl R j := by
  have hgot : ∀ j, j < R.length → gotG (dayLs pl R S) j = litN pl R S j := fun j hj => dayList_got hj
  have hsh : shortF pl R (dayLs pl R S) i = true := shortF_rc.2 ⟨by rw [dayLs_len]; exact hi, by rw [hgot i hi]; exact hs, hne⟩
  obtain ⟨q, e, h1, h2, h3⟩ := hM.stops hi hsh
  exact ⟨q, e, h1, h2, h3⟩
end
end Go.Proofs.YtkbceeobnbbfbaaDoor

/- The walk of the reference's Check. -/
namespace Go.Proofs.YtkbceeobnbbfbaaDoor
open Go.RowKit CM
attribute [local go_sem] alloc_drewN setCell_drewN shape_drewN

def okI (pl : Pl) (R : List Rt) (S : List Int) (G x : List (Int × Int)) (i : Nat) : Prop :=
  lawfulF pl R G i = true ∧ (shortF pl R G i = true → 0 ≤ stopN pl R S G i ∧ ∀ j ∈ wetF G R.length (i + 1), ((rtN R i).id, (rtN R j).id) ∈ x)
section
variable {pl : Pl} {R : List Rt} {S : List Int} {G x : List (Int × Int)}
theorem chk_yes (h1 : G.length = R.length) (h2 : ∀ i, i < R.length → okI pl R S G x i) (h3 : ∀ q, q < pl.length → 0 ≤ lefW pl R S G R.length q) : chkN pl R S G x = true :=
  chk_iff.2 ⟨h1, fun i hi => (h2 i hi).1, h3, fun i hi => (h2 i hi).2⟩
theorem leftN_eq (hS : ∀ x ∈ S, In64 x) (q : Nat) : leftN pl R S G R.length q = lefW pl R S G R.length q := (leftR_eq (fun p => supF_in hS p) R.length q).1
theorem wetT_mem {i m j : Nat} : j ∈ wetT G i m ↔ j < m ∧ i ≤ j ∧ 0 < gotG G j := by
  unfold wetT
  rw [List.mem_filter, List.mem_range, Bool.and_eq_true, decide_eq_true_eq, wetB_got, decide_eq_true_eq]
theorem lt_succ_all {P : Nat → Prop} {k : Nat} (h : ∀ i, i < k → P i) (hk : P k) : ∀ i, i < k + 1 → P i := fun i hi => by
  by_cases g : i < k
  · exact h i g
  · rw [show i = k by omega]; exact hk
end
end Go.Proofs.YtkbceeobnbbfbaaDoor

/- CallTells: for every input the law answers true. -/
namespace Go.Proofs.YtkbceeobnbbfbaaDoor
open Go.RowKit CM
attribute [local go_sem] alloc_drewN setCell_drewN shape_drewN

theorem sameL_self {α : Type} [DecidableEq α] (A : List α) : SameL A A = true := decide_eq_true rfl
theorem same_below {α : Type} [DecidableEq α] {A : List α} {w : World} {e : Ending} {w' : World} (h : SameIs A A w e w') : e = .returned (.bool true) ∧ Below w.heap.size w w' := by
  obtain ⟨he, n, hw⟩ := h
  exact ⟨by rw [he, sameL_self], by rw [hw]; exact below_drewN (Below.refl _ _) n⟩
theorem pure_below {b : Bool} {w : World} {e : Ending} {w' : World} (h : BoolEq b w e w') : e = .returned (.bool b) ∧ Below w.heap.size w w' := ⟨h.1, h.2 ▸ Below.refl _ _⟩
theorem fewB_true {pl : Pl} {r g : Nat} (h : fewB pl r g = true) : pl.length ≤ 16 ∧ r ≤ 14 ∧ g ≤ 20 := by
  unfold fewB at h
  simpa using h
theorem excN_len (pl : Pl) (R : List Rt) (S : List Int) (G : List (Int × Int)) : (excN pl R S G).length ≤ R.length * R.length := excT_len R.length
theorem shortL_len (pl : Pl) (R : List Rt) (G : List (Int × Int)) : (shortL pl R G).length ≤ R.length := shortT_len pl R G R.length
end Go.Proofs.YtkbceeobnbbfbaaDoor

/- append onto a row of the call's own, the source nil, empty or not (after a page of the guide: lemmas to copy). -/
namespace Go.Proofs.YtkbceeobnbbfbaaDoor
open Go Go.RowKit
theorem block_of_add (a : Addr) (n : Nat) : (a.add n).block = a.block := by unfold Addr.add; split <;> rfl
theorem add_of_add (a : Addr) (i j : Nat) : (a.add i).add j = a.add (i + j) := by
  unfold Addr.add
  by_cases hi : i = 0 <;> by_cases hj : j = 0 <;> simp [hi, hj, Nat.add_assoc]

def Reads (w : World) (B size : Nat) (A : Option Addr) (n : Nat) (xs : List Value) : Prop :=
  xs.length = n * size ∧ (0 < n → ∃ ad, A = some ad ∧ ad.block < B ∧ ∀ j u, xs[j]? = some u → w.cell? (ad.add j) = some u)

section
variable {w w' : World} {B B' size n : Nat} {A : Option Addr} {xs : List Value}
theorem Reads.none_ : Reads w B size A 0 [] := ⟨by simp, fun h => absurd h (by omega)⟩
theorem Reads.at_ {k : Nat} (h : Reads w B 1 A n xs) (hk : k < n) : ∃ ad u, A = some ad ∧ ad.block < B ∧ xs[k]? = some u ∧ w.cell? (ad.add k) = some u := by
  obtain ⟨ad, e, hb, hc⟩ := h.2 (by omega)
  have hl : k < xs.length := by have := h.1; omega
  exact ⟨ad, xs[k], e, hb, List.getElem?_eq_getElem hl, hc k _ (List.getElem?_eq_getElem hl)⟩
theorem Reads.keep (h : Reads w B size A n xs) (hk : ∀ p : Addr, p.block < B → w'.cell? p = w.cell? p) : Reads w' B size A n xs :=
  ⟨h.1, fun hn => by
    obtain ⟨ad, e, hb, hc⟩ := h.2 hn
    exact ⟨ad, e, hb, fun j u hu => (hk _ (by rw [block_of_add]; exact hb)).trans (hc j u hu)⟩⟩
theorem Reads.more (h : Reads w B size A n xs) (hB : B ≤ B') : Reads w B' size A n xs :=
  ⟨h.1, fun hn => by
    obtain ⟨ad, e, hb, hc⟩ := h.2 hn
    exact ⟨ad, e, by omega, hc⟩⟩
theorem Reads.below (h : Reads w B size A n xs) (hb : Below B w w') : Reads w' B size A n xs := h.keep fun _ hp => hb.cell hp
theorem Reads.drew (h : Reads w B size A n xs) : Reads w.drew B size A n xs := h
theorem Reads.drewN (h : Reads w B size A n xs) (k : Nat) : Reads (w.drewN k) B size A n xs := h
theorem Reads.alloc (h : Reads w B size A n xs) (hB : B ≤ w.heap.size) (o : Obj) : Reads (w.alloc o) B size A n xs := h.keep fun p hp => World.cell?_alloc_lt w o p (by omega)
theorem Reads.setCell (h : Reads w B size A n xs) {p : Addr} (hB : B ≤ p.block) (u : Value) : Reads (w.setCell p u) B size A n xs :=
  h.keep fun q hq => World.cell?_setCell_other w p q u (fun e => by subst e; omega)
theorem Reads.grown (h : Reads w B size A n xs) {row : Option Nat} (hg : w.grownBy w' row) (hB : B ≤ w.heap.size) (hr : ∀ g, row = some g → B ≤ g) : Reads w' B size A n xs :=
  h.keep fun p hp => World.cell?_of_block (hg.block p.block (by omega) (fun e => by have := hr _ e.symm; omega))
theorem Reads.cut (h : Reads w B size A n xs) {k cap : Nat} (hk : k ≤ n) (hc : n ≤ cap) :
    Reads w B size (if cap = k then A else A.map (·.add (k * size))) (n - k) (xs.drop (k * size)) := by
  refine ⟨by rw [List.length_drop, h.1, Nat.sub_mul], fun hn => ?_⟩
  obtain ⟨ad, rfl, hb, hcell⟩ := h.2 (by omega)
  rw [if_neg (by omega)]
  refine ⟨ad.add (k * size), rfl, by rw [block_of_add]; exact hb, fun j u hu => ?_⟩
  rw [add_of_add]
  exact hcell _ u (by rw [← hu, List.getElem?_drop])
theorem Reads.of_own {base : Nat} {e : TypeId} {c : Nat} (h : w.ownsRow base e size (.slice A n c) n xs) : Reads w w.heap.size size A n xs := by
  refine ⟨h.1, fun hn => ?_⟩
  obtain ⟨g, cap, hv, _, hlt⟩ := h.form hn
  have hA : A = some ⟨g, 0, none⟩ := by injection hv
  subst hA
  exact ⟨_, rfl, hlt, h.cells (g := g) rfl⟩
end
section
variable {P : Program} (w : World)

theorem run_append_of_nil (base : Nat) (t ty e : TypeId) (i : TypeInfo) (size : Nat) (ht : P.underlying t = some (.slice e)) (hi : P.info? e = some i)
    (v : Value) (n : Nat) (xs : List Value) (hown : w.ownsRow base e size v n xs) (c : Nat) : (Builtin.append_ #[t, t] ty #[v, .slice none 0 c]).run P w = .ok v w := by
  rcases hown.2 with ⟨rfl, rfl⟩ | ⟨g, cap, cur, rfl, _, _, hnc, _⟩
  · simp [Builtin.append_, run_underlying ht, sizeOf, typeInfo, hi, Builtin.lenOf, Builtin.firstCells]
  · simp [Builtin.append_, run_underlying ht, sizeOf, typeInfo, hi, Builtin.lenOf, Builtin.firstCells, hnc, storeCells]

theorem run_append_any (base : Nat) (t ty e : TypeId) (i : TypeInfo) (z : Value) (size bytes : Nat) (ht : P.underlying t = some (.slice e)) (hi : P.info? e = some i) (hz : i.zero = some z)
    (hsize : i.size = size) (hby : i.bytes = bytes) (hzs : z.cells.size = size) (hsz : 0 < size)
    (v : Value) (n : Nat) (xs : List Value) (hown : w.ownsRow base e size v n xs)
    (B : Nat) (A : Option Addr) (m c : Nat) (news : List Value) (hr : Reads w B size A m news) (h1 : ∀ u ∈ news, u.oneCell' = true)
    (h63 : n + m ≤ maxLen) (hbytes : (n + m) * bytes ≤ 140737488355328) (hbase : base ≤ w.heap.size) :
    ∃ v' w', (Builtin.append_ #[t, t] ty #[v, .slice A m c]).run P w = .ok v' w' ∧ w'.ownsRow base e size v' (n + m) (xs ++ news) ∧ w.grownBy w' v.ownBlock ∧
      (v'.ownBlock = v.ownBlock ∨ v'.ownBlock = some w.heap.size) := by
  rcases A with _ | ad
  · have hm : m = 0 := by
      rcases Nat.eq_zero_or_pos m with h0 | h0
      · exact h0
      · obtain ⟨ad, h, _⟩ := hr.2 h0
        cases h
    subst hm
    have hn : news = [] := List.eq_nil_of_length_eq_zero (by simpa using hr.1)
    subst hn
    exact ⟨v, w, run_append_of_nil w base t ty e i size ht hi v n xs hown c, by simpa using hown, World.grownBy.refl w _, .inl rfl⟩
  · have hcells : ∀ j u, news[j]? = some u → w.cell? (ad.add j) = some u := by
      intro j u hu
      rcases Nat.eq_zero_or_pos m with h0 | h0
      · subst h0
        have hn : news = [] := List.eq_nil_of_length_eq_zero (by simpa using hr.1)
        subst hn
        simp at hu
      · obtain ⟨ad', h, _, hc⟩ := hr.2 h0
        injection h with h
        subst h
        exact hc j u hu
    obtain ⟨v', w', hrun, h2, h3, _, h5⟩ := run_append_own_at (P := P) w base t ty e i z size bytes ht hi hz hsize hby hzs hsz v n xs hown ad m c news hr.1 hcells h1 h63 hbytes hbase
    exact ⟨v', w', hrun, h2, h3, h5⟩

theorem wp_append_any {o : Oper} {a : Act} {K : Act → World → Prop} {Q : Exit → Act → World → Prop} (s x : Operand) (t : TypeId)
    (ho : o.op = .call { callee := .builtin .append, args := #[s, x], argTypes := #[t, t] })
    (base : Nat) (e : TypeId) (i : TypeInfo) (z : Value) (size bytes : Nat) (ht : P.underlying t = some (.slice e)) (hi : P.info? e = some i) (hz : i.zero = some z)
    (hsize : i.size = size) (hby : i.bytes = bytes) (hzs : z.cells.size = size) (hsz : 0 < size)
    (v : Value) (n : Nat) (xs : List Value) (hs : a.eval s = v) (hown : w.ownsRow base e size v n xs)
    (B : Nat) (A : Option Addr) (m c : Nat) (news : List Value) (hx : a.eval x = .slice A m c) (hr : Reads w B size A m news) (h1 : ∀ u ∈ news, u.oneCell' = true)
    (h63 : n + m ≤ maxLen) (hbytes : (n + m) * bytes ≤ 140737488355328) (hbase : base ≤ w.heap.size)
    (h : ∀ v' w', w'.ownsRow base e size v' (n + m) (xs ++ news) → w.grownBy w' v.ownBlock → (v'.ownBlock = v.ownBlock ∨ v'.ownBlock = some w.heap.size) → K (a.put o.dst v') w') : o.wp P a w K Q := by
  obtain ⟨v', w', hrun, h2, h3, h4⟩ := run_append_any (P := P) w base t o.type e i z size bytes ht hi hz hsize hby hzs hsz v n xs hown B A m c news hr h1 h63 hbytes hbase
  unfold Oper.wp execOp
  simp only [ho, resolve, invoke, builtin, Sem.run_bind, Sem.run_pure, Result.andThen_ok, List.map_toArray, List.map_cons, List.map_nil, hs, hx, hrun]
  exact h v' w' h2 h3 h4

theorem wpList_append_any {ops : Array Oper} {rest : List Oper} {o : Oper} {a : Act} {Q : Exit → Act → World → Prop} (hgd : o.guard = none) (s x : Operand) (t : TypeId)
    (ho : o.op = .call { callee := .builtin .append, args := #[s, x], argTypes := #[t, t] })
    (base : Nat) (e : TypeId) (i : TypeInfo) (z : Value) (size bytes : Nat) (ht : P.underlying t = some (.slice e)) (hi : P.info? e = some i) (hz : i.zero = some z)
    (hsize : i.size = size) (hby : i.bytes = bytes) (hzs : z.cells.size = size) (hsz : 0 < size)
    (v : Value) (n : Nat) (xs : List Value) (hs : a.eval s = v) (hown : w.ownsRow base e size v n xs)
    (B : Nat) (A : Option Addr) (m c : Nat) (news : List Value) (hx : a.eval x = .slice A m c) (hr : Reads w B size A m news) (h1 : ∀ u ∈ news, u.oneCell' = true)
    (h63 : n + m ≤ maxLen) (hbytes : (n + m) * bytes ≤ 140737488355328) (hbase : base ≤ w.heap.size)
    (h : ∀ v' w', w'.ownsRow base e size v' (n + m) (xs ++ news) → w.grownBy w' v.ownBlock → (v'.ownBlock = v.ownBlock ∨ v'.ownBlock = some w.heap.size) → wpList P ops Q rest (a.put o.dst v') w') : wpList P ops Q (o :: rest) a w :=
  wpList_plain hgd fun _ hK => wp_append_any w s x t ho base e i z size bytes ht hi hz hsize hby hzs hsz v n xs hs hown B A m c news hx hr h1 h63 hbytes hbase fun v' w' h2 h3 h4 => hK _ _ (h v' w' h2 h3 h4)

theorem step_append_any {ops : Array Oper} {o : Oper} {a : Act} {K : Act → World → Prop} {Q : Exit → Act → World → Prop} {E : Prop} (hgd : o.guard = none) (s x : Operand) (t : TypeId)
    (ho : o.op = .call { callee := .builtin .append, args := #[s, x], argTypes := #[t, t] })
    (base : Nat) (e : TypeId) (i : TypeInfo) (z : Value) (size bytes : Nat) (ht : P.underlying t = some (.slice e)) (hi : P.info? e = some i) (hz : i.zero = some z)
    (hsize : i.size = size) (hby : i.bytes = bytes) (hzs : z.cells.size = size) (hsz : 0 < size)
    (v : Value) (n : Nat) (xs : List Value) (hs : a.eval s = v) (hown : w.ownsRow base e size v n xs)
    (B : Nat) (A : Option Addr) (m c : Nat) (news : List Value) (hx : a.eval x = .slice A m c) (hr : Reads w B size A m news) (h1 : ∀ u ∈ news, u.oneCell' = true)
    (h63 : n + m ≤ maxLen) (hbytes : (n + m) * bytes ≤ 140737488355328) (hbase : base ≤ w.heap.size)
    (h : ∀ v' w', w'.ownsRow base e size v' (n + m) (xs ++ news) → w.grownBy w' v.ownBlock → (v'.ownBlock = v.ownBlock ∨ v'.ownBlock = some w.heap.size) → K (a.put o.dst v') w') :
    if Region.wanted o (yielded ops a.tmps) = true then Oper.wp P o a w K Q else E := by
  have hw : Region.wanted o (yielded ops a.tmps) = true := by simp [Region.wanted, hgd]
  rw [if_pos hw]
  exact wp_append_any w s x t ho base e i z size bytes ht hi hz hsize hby hzs hsz v n xs hs hown B A m c news hx hr h1 h63 hbytes hbase h
end
end Go.Proofs.YtkbceeobnbbfbaaDoor

/- What the laws of call share. -/
namespace Go.Proofs.YtkbceeobnbbfbaaDoor
open Go.RowKit CM
theorem reads_pairs {w : World} {B : Nat} {C : Option Addr} {A : List (Int × Int)} (h : PairsAt w B C A) : Reads w B 2 C A.length (rowP A) := by
  refine ⟨rowP_len A, fun hm => ?_⟩
  obtain ⟨b, off, e, hb, hc⟩ := h (by omega)
  refine ⟨_, e, hb, fun j u hj => ?_⟩
  have hlt : j < A.length * 2 := by have := (List.getElem?_eq_some_iff.1 hj).1; rw [rowP_len] at this; exact this
  rw [Addr.add_lit, hc j (by omega)]
  rw [rowP_get A j hlt] at hj
  exact hj
theorem rowP_one (A : List (Int × Int)) : ∀ u ∈ rowP A, u.oneCell' = true := by
  intro u hu
  obtain ⟨p, _, hp⟩ := List.mem_flatMap.1 hu
  simp [pairC] at hp
  rcases hp with rfl | rfl <;> rfl
theorem rowP_app (A B : List (Int × Int)) : rowP (A ++ B) = rowP A ++ rowP B := by simp [rowP]
/-- What Day hands back, read as a list. -/
theorem day_pairs {pl : Pl} {R : List Rt} {S : List Int} {w : World} {e : Ending} {w' : World} (h : DayIs pl R S w e w') : ∃ D cd, e = .returned (.tuple #[.slice D R.length cd, .slice (some ⟨w.heap.size + 1 + 1, 0, none⟩) pl.length pl.length]) ∧ PairsAt w' w'.heap.size D (dayLs pl R S) ∧
    Arr w' (w.heap.size + 1 + 1) pl.length (dayV pl R S R.length) ∧ Below w.heap.size w w' ∧ w.heap.size + 1 + 1 + 1 ≤ w'.heap.size := by
  obtain ⟨v, he, ho, hA, hb, hz⟩ := h
  have e1 := dayLs_len (pl := pl) (R := R) (S := S)
  rw [← e1] at ho
  obtain ⟨D, cd, rfl, hD⟩ := pairs_of_owns ho
  rw [e1] at he
  exact ⟨D, cd, he, hD, hA, hb, hz⟩
theorem grown_of_below {w w' : World} (h : Below w.heap.size w w') : w.grownBy w' none := ⟨h.1, h.2, h.3, h.4, fun i hi _ => h.5 i hi⟩
end Go.Proofs.YtkbceeobnbbfbaaDoor

/- Walks of the leaves of package date: leap, length, before; and of the reference: Length, Valid. -/
namespace Go.Proofs.YtkbceeobnbbfbaaDoor.RR
open Go.RowKit


def leapB (y : Int) : Bool := decide (DM.lp y = 1)
theorem leapB_eq (y : Int) : leapB y = decide (y % 4 = 0 ∧ (y % 100 ≠ 0 ∨ y % 400 = 0)) := by
  unfold leapB DM.lp; split <;> simp_all
theorem tmod_0 (y k : Int) (hk : 0 < k) : y.tmod k = 0 ↔ y % k = 0 := by
  constructor
  · intro h; exact Int.emod_eq_zero_of_dvd (Int.dvd_of_tmod_eq_zero h)
  · intro h; exact Int.tmod_eq_zero_of_dvd (Int.dvd_of_emod_eq_zero h)

set_option maxHeartbeats 400000 in
theorem leap_any (y : Int) (w : World) :
    Calls Tryd.prog 50 #[.int .i64 y] w fun e w' => e = .returned (.bool (leapB y)) ∧ w = w' := by
  have h4 := tmod_0 y 4 (by omega)
  have h1 := tmod_0 y 100 (by omega)
  have h40 := tmod_0 y 400 (by omega)
  have H : Hid ((y.tmod 4 = 0 ↔ y % 4 = 0) ∧ (y.tmod 100 = 0 ↔ y % 100 = 0) ∧ (y.tmod 400 = 0 ↔ y % 400 = 0)) := ⟨h4, h1, h40⟩
  clear h4 h1 h40
  go_enter Tryd.func50, Tryd.ntmps50
  go_wp2
  all_goals go_ret
  all_goals refine ⟨ret_bool ?_, rfl⟩
  all_goals obtain ⟨h4, h1, h40⟩ := H
  all_goals rw [leapB_eq]
  · show (y.tmod 400 == 0) = _
    rw [Bool.eq_iff_iff]; simp_all
  · show true = _
    simp_all
  · show false = _
    simp_all

/-- The cells of the variable months. -/
def mon (i : Nat) : Int := [31, 29, 31, 30, 31, 30, 31, 31, 30, 31, 30, 31].getD i 0
def Months (w : World) : Prop := ∀ i, i < 12 → w.cell? ⟨0, i, none⟩ = some (.int .i64 (mon i))
theorem mon_len (m : Int) (h1 : 1 ≤ m) (h2 : m ≤ 12) (y : Int) (h : m = 2 → leapB y = true) : mon (m - 1).toNat = DM.len y m := by
  have : m = 1 ∨ m = 2 ∨ m = 3 ∨ m = 4 ∨ m = 5 ∨ m = 6 ∨ m = 7 ∨ m = 8 ∨ m = 9 ∨ m = 10 ∨ m = 11 ∨ m = 12 := by omega
  rcases this with e | e | e | e | e | e | e | e | e | e | e | e <;> subst e <;> simp [mon, DM.len]
  have h3 := h rfl
  unfold leapB at h3; simp at h3; omega

set_option maxHeartbeats 400000 in
theorem length_any (y m : Int) (h1 : 1 ≤ m) (h2 : m ≤ 12) (w : World) (hm : Months w) :
    Calls Tryd.prog 46 #[.int .i64 y, .int .i64 m] w fun e w' => e = .returned (.int .i64 (DM.len y m)) ∧ w = w' := by
  have hc : w.cell? ⟨0, m.toNat - 1, none⟩ = some (.int .i64 (mon (m - 1).toNat)) := by
    have := hm (m - 1).toNat (by omega)
    rwa [show (m - 1).toNat = m.toNat - 1 by omega] at this ⊢
  clear hm
  by_cases hm : m = 2
  · subst hm
    have hc : w.cell? ⟨0, 1, none⟩ = some (.int .i64 (mon 1)) := hc
    by_cases hl : leapB y = true
    · have H := mon_len 2 (by omega) (by omega) y (fun _ => hl)
      have H : mon 1 = DM.len y 2 := H
      generalize mon 1 = mm at *
      have H2 := Lib.hid H
      clear H
      go_enter Tryd.func46, Tryd.ntmps46
      go_wp2_with (go_at_call 50; refine (leap_any _ _).mono ?_; rintro e w' ⟨rfl, rfl⟩)
      go_ret
      exact ⟨ret_int H2.out, rfl⟩
    · have hl' : leapB y = false := by simpa using hl
      clear hl
      have H : DM.len y 2 = 28 := by
        have := DM.lp_01 y
        unfold leapB at hl'; simp at hl'
        simp [DM.len]; omega
      have H2 := Lib.hid H
      clear H
      go_enter Tryd.func46, Tryd.ntmps46
      go_wp2_with (go_at_call 50; refine (leap_any _ _).mono ?_; rintro e w' ⟨rfl, rfl⟩)
      go_ret
      exact ⟨ret_int H2.out.symm, rfl⟩
  · have hm' : (m == 2) = false := by simpa using hm
    have H := Lib.hid (mon_len m h1 h2 y (fun h => absurd h hm))
    generalize mon (m - 1).toNat = mm at *
    go_enter Tryd.func46, Tryd.ntmps46
    go_wp2
    go_ret
    exact ⟨ret_int H.out, rfl⟩

set_option maxHeartbeats 400000 in
theorem before_any (y : Int) (h1 : 2000 ≤ y) (h2 : y ≤ 1000000) (w : World) :
    Calls Tryd.prog 45 #[.int .i64 y] w fun e w' => e = .returned (.int .i64 (DM.bef y)) ∧ w = w' := by
  go_enter Tryd.func45, Tryd.ntmps45
  go_wp2
  go_ret
  exact ⟨ret_int rfl, rfl⟩
end Go.Proofs.YtkbceeobnbbfbaaDoor.RR

