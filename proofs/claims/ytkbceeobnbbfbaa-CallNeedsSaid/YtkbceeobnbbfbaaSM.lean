/- The walk of small: the fixed example has its documented results. -/
import Derived.Test.YtkbceeobnbbfbaaSM0
import Derived.Test.YtkbceeobnbbfbaaBK
import Derived.Test.YtkbceeobnbbfbaaV16
set_option linter.unusedSimpArgs false
set_option linter.unusedVariables false
namespace Go.Proofs.Ytkbceeobnbbfbaa
open Go.RowKit CM
attribute [local go_sem] alloc_drewN setCell_drewN shape_drewN

def XB (b : Nat) : Bas := X0 (some ⟨b, 0, none⟩)
set_option maxRecDepth 100000 in
set_option maxHeartbeats 8000000 in
theorem small_any (w : World) : Calls Try.prog 8 #[] w (BoolIs true w) := by
  have K0 := Lib.hid (fun wx => fork_any wx)
  go_enter Try.func8, Try.ntmps8
  go_upto_region 4 with (first | (go_at_call 27; ((with_reducible refine (K0.out _).mono ?_); rintro e1 w1 ⟨b, rfl, hP1, hb1⟩)) | fail)
  clear K0
  have hbP : b < w1.heap.size := by
    obtain ⟨b', off, e, hb, _⟩ := hP1 (by decide)
    injection e with e; injection e with e1 e2; omega
  have bA : ((((w1.alloc (.cells #[.string ⟨#[]⟩, .slice none 0 0, .int .i64 0, .slice (some ⟨b, 0, none⟩) 4 4, .slice none 0 0, .slice none 0 0, .slice none 0 0, .slice none 0 0, .slice none 0 0, .slice none 0 0, .int .i64 0] 31)).alloc (.cells (R0.flatMap Rt.cells).toArray 39)).alloc (.cells (S0.map (Value.int .i64)).toArray 3)).drew).heap[w1.heap.size]? = _ := new3_0 w1 _ _ _
  have bR : ((((w1.alloc (.cells #[.string ⟨#[]⟩, .slice none 0 0, .int .i64 0, .slice (some ⟨b, 0, none⟩) 4 4, .slice none 0 0, .slice none 0 0, .slice none 0 0, .slice none 0 0, .slice none 0 0, .slice none 0 0, .int .i64 0] 31)).alloc (.cells (R0.flatMap Rt.cells).toArray 39)).alloc (.cells (S0.map (Value.int .i64)).toArray 3)).drew).heap[w1.heap.size + 1]? = _ := new3_1 w1 _ _ _
  have bS : ((((w1.alloc (.cells #[.string ⟨#[]⟩, .slice none 0 0, .int .i64 0, .slice (some ⟨b, 0, none⟩) 4 4, .slice none 0 0, .slice none 0 0, .slice none 0 0, .slice none 0 0, .slice none 0 0, .slice none 0 0, .int .i64 0] 31)).alloc (.cells (R0.flatMap Rt.cells).toArray 39)).alloc (.cells (S0.map (Value.int .i64)).toArray 3)).drew).heap[w1.heap.size + 1 + 1]? = _ := new3_2 w1 _ _ _
  have hbw : Below w1.heap.size w1 ((((w1.alloc (.cells #[.string ⟨#[]⟩, .slice none 0 0, .int .i64 0, .slice (some ⟨b, 0, none⟩) 4 4, .slice none 0 0, .slice none 0 0, .slice none 0 0, .slice none 0 0, .slice none 0 0, .slice none 0 0, .int .i64 0] 31)).alloc (.cells (R0.flatMap Rt.cells).toArray 39)).alloc (.cells (S0.map (Value.int .i64)).toArray 3))) := ((((Below.refl _ _).alloc (Nat.le_refl _) _).alloc (by simp) _).alloc (by simp; omega) _)
  have hsz : w1.heap.size + 1 + 1 < (((w1.alloc (.cells #[.string ⟨#[]⟩, .slice none 0 0, .int .i64 0, .slice (some ⟨b, 0, none⟩) 4 4, .slice none 0 0, .slice none 0 0, .slice none 0 0, .slice none 0 0, .slice none 0 0, .slice none 0 0, .int .i64 0] 31)).alloc (.cells (R0.flatMap Rt.cells).toArray 39)).alloc (.cells (S0.map (Value.int .i64)).toArray 3)).heap.size := by simp
  change _ = _ at bA bR bS
  show Code.wp _ _ _ _ (((w1.alloc (.cells #[.string ⟨#[]⟩, .slice none 0 0, .int .i64 0, .slice (some ⟨b, 0, none⟩) 4 4, .slice none 0 0, .slice none 0 0, .slice none 0 0, .slice none 0 0, .slice none 0 0, .slice none 0 0, .int .i64 0] 31)).alloc (.cells (R0.flatMap Rt.cells).toArray 39)).alloc (.cells (S0.map (Value.int .i64)).toArray 3))
  have bA : (((w1.alloc (.cells #[.string ⟨#[]⟩, .slice none 0 0, .int .i64 0, .slice (some ⟨b, 0, none⟩) 4 4, .slice none 0 0, .slice none 0 0, .slice none 0 0, .slice none 0 0, .slice none 0 0, .slice none 0 0, .int .i64 0] 31)).alloc (.cells (R0.flatMap Rt.cells).toArray 39)).alloc (.cells (S0.map (Value.int .i64)).toArray 3)).heap[w1.heap.size]? = some (.cells #[.string ⟨#[]⟩, .slice none 0 0, .int .i64 0, .slice (some ⟨b, 0, none⟩) 4 4, .slice none 0 0, .slice none 0 0, .slice none 0 0, .slice none 0 0, .slice none 0 0, .slice none 0 0, .int .i64 0] 31 (0, 0)) := bA
  have bR : (((w1.alloc (.cells #[.string ⟨#[]⟩, .slice none 0 0, .int .i64 0, .slice (some ⟨b, 0, none⟩) 4 4, .slice none 0 0, .slice none 0 0, .slice none 0 0, .slice none 0 0, .slice none 0 0, .slice none 0 0, .int .i64 0] 31)).alloc (.cells (R0.flatMap Rt.cells).toArray 39)).alloc (.cells (S0.map (Value.int .i64)).toArray 3)).heap[w1.heap.size + 1]? = some (.cells (R0.flatMap Rt.cells).toArray 39 (0, 0)) := bR
  have bS : (((w1.alloc (.cells #[.string ⟨#[]⟩, .slice none 0 0, .int .i64 0, .slice (some ⟨b, 0, none⟩) 4 4, .slice none 0 0, .slice none 0 0, .slice none 0 0, .slice none 0 0, .slice none 0 0, .slice none 0 0, .int .i64 0] 31)).alloc (.cells (R0.flatMap Rt.cells).toArray 39)).alloc (.cells (S0.map (Value.int .i64)).toArray 3)).heap[w1.heap.size + 1 + 1]? = some (.cells (S0.map (Value.int .i64)).toArray 3 (0, 0)) := bS
  have hbw0 := hbw
  generalize (((w1.alloc (.cells #[.string ⟨#[]⟩, .slice none 0 0, .int .i64 0, .slice (some ⟨b, 0, none⟩) 4 4, .slice none 0 0, .slice none 0 0, .slice none 0 0, .slice none 0 0, .slice none 0 0, .slice none 0 0, .int .i64 0] 31)).alloc (.cells (R0.flatMap Rt.cells).toArray 39)).alloc (.cells (S0.map (Value.int .i64)).toArray 3)) = w2 at bA bR bS hbw hbw0 hsz ⊢
  have hP2 : PlacesAt w2 w2.heap.size (some ⟨b, 0, none⟩) pl0 := (hP1.below hbw).more hbw.size
  have hR2 : RightsAt w2 w2.heap.size (some ⟨w1.heap.size + 1, 0, none⟩) R0 := rights_of_block bR (by omega)
  have hS2 : IntsAt w2 w2.heap.size (some ⟨w1.heap.size + 1 + 1, 0, none⟩) S0 := ints_of_block bS (by omega)
  have y : ∀ i, w2.cell? ⟨w1.heap.size, i, none⟩ = (#[.string ⟨#[]⟩, .slice none 0 0, .int .i64 0, .slice (some ⟨b, 0, none⟩) 4 4, .slice none 0 0, .slice none 0 0, .slice none 0 0, .slice none 0 0, .slice none 0 0, .slice none 0 0, .int .i64 0] : Array Value)[i]? := cell_whole bA
  have KD0 : Hid (∀ wx, Below w2.heap.size w2 wx → Calls Try.prog 23 #[.agg #[.string ⟨#[]⟩, .slice none 0 0, .int .i64 0, .slice (some ⟨b, 0, none⟩) 4 4, .slice none 0 0, .slice none 0 0, .slice none 0 0, .slice none 0 0, .slice none 0 0, .slice none 0 0, .int .i64 0], .slice (some ⟨w1.heap.size + 1, 0, none⟩) 4 4, .slice (some ⟨w1.heap.size + 1 + 1, 0, none⟩) 4 4] wx (fun e w' => ∃ D cg, e = .returned (.tuple #[.slice D 4 cg, .slice (some ⟨wx.heap.size + 1 + 1, 0, none⟩) 4 4]) ∧ PairsAt w' w'.heap.size D G0 ∧ Below wx.heap.size wx w')) := fun wx h =>
    (day_any (XB b) pl0 R0 S0 _ 4 _ 4 wx (B := w2.heap.size) (hP2.below h) (hR2.below h) (hS2.below h) h.size (by decide) (by decide) (by decide) S0_in).mono fun e w' ⟨v, he, ho, _, hb, _⟩ => by
      change w'.ownsRow _ _ 2 v R0.length (rowP (dayLs pl0 R0 S0)) at ho
      rw [day0] at ho
      have ho : w'.ownsRow _ _ 2 v G0.length (rowP G0) := ho
      obtain ⟨D, cg, rfl, hG⟩ := pairs_of_owns ho
      exact ⟨D, cg, he, hG, hb⟩
  have KE0 : Hid (∀ D cg wx, PairsAt wx wx.heap.size D G0 → Below w2.heap.size w2 wx → Calls Try.prog 16 #[.agg #[.string ⟨#[]⟩, .slice none 0 0, .int .i64 0, .slice (some ⟨b, 0, none⟩) 4 4, .slice none 0 0, .slice none 0 0, .slice none 0 0, .slice none 0 0, .slice none 0 0, .slice none 0 0, .int .i64 0], .slice (some ⟨w1.heap.size + 1, 0, none⟩) 4 4, .slice (some ⟨w1.heap.size + 1 + 1, 0, none⟩) 4 4, .slice D 4 cg] wx (fun e w' => ∃ F cf, e = .returned (.slice F 2 cf) ∧ 2 ≤ cf ∧ PairsAt w' w'.heap.size F x0L ∧ Below wx.heap.size wx w')) := fun D cg wx hD h =>
    (excuses_any (XB b) pl0 R0 S0 G0 _ 4 _ 4 D cg wx (B := wx.heap.size) ((hP2.below h).more h.size) ((hR2.below h).more h.size) ((hS2.below h).more h.size) hD (Nat.le_refl _) (by decide) (by decide) (by decide) (by decide) S0_in).mono fun e w' ⟨F, cf, he, hc, hF, hb⟩ => by
      rw [exc0] at he hc hF
      exact ⟨F, cf, he, hc, hF, hb⟩
  have hsz0 : w1.heap.size < w2.heap.size := by omega
  clear hP1 hbw
  have bA1 := Lib.hid bA
  have bR1 := Lib.hid bR
  clear bA bR bS
  have bA := bA1
  have bR := bR1
  clear bA1 bR1
  go_upto_region 7 with (first | (go_at_call 23; ((with_reducible refine (KD0.out _ (Below.refl _ _)).mono ?_); rintro e3 w3 ⟨D, cg, rfl, hG3, hb3⟩; have kc3 := (bcell hb3).1)) | (go_at_call 16; ((with_reducible refine (KE0.out _ _ _ hG3 hb3).mono ?_); rintro e4 w4 ⟨F, cf, rfl, hcf, hF4, hb4⟩)) | fail)
  clear KD0 KE0 y
  have bA := bA.out
  have bR := bR.out
  have bW : (w4.alloc (.cells (rowP x0L).toArray 60)).heap[w4.heap.size]? = some (.cells (rowP x0L).toArray 60 (0, 0)) := heap_alloc_new w4 _
  have hb47 : Below w4.heap.size w4 (w4.alloc (.cells (rowP x0L).toArray 60)) := (Below.refl _ _).alloc (Nat.le_refl _) _
  have hz47 : w4.heap.size < (w4.alloc (.cells (rowP x0L).toArray 60)).heap.size := by simp
  show Code.wp _ _ _ _ (w4.alloc (.cells (rowP x0L).toArray 60))
  generalize w4.alloc (.cells (rowP x0L).toArray 60) = w7 at bW hb47 hz47 ⊢
  have hb24 : Below w2.heap.size w2 w4 := hb3.trans (hb4.mono hb3.size)
  have hb27 : Below w2.heap.size w2 w7 := hb24.trans (hb47.mono hb24.size)
  have hb37 : Below w3.heap.size w3 w7 := hb4.trans (hb47.mono hb4.size)
  have hP7 := (hP2.below hb27).more hb27.size
  have hR7 := (hR2.below hb27).more hb27.size
  have hS7 := (hS2.below hb27).more hb27.size
  have hG7 := (hG3.below hb37).more hb37.size
  have hF7 := (hF4.below hb47).more hb47.size
  have hW7 : PairsAt w7 w7.heap.size (some ⟨w4.heap.size, 0, none⟩) x0L := pairs_of_block bW hz47
  have hB7 : Below w.heap.size w w7 := (hb1.trans (hbw0.mono hb1.size)).trans (hb27.mono (by have := hb1.size; omega))
  have x0 : w7.cell? ⟨w1.heap.size, 0, none⟩ = some (.string ⟨#[]⟩) := by rw [hb27.cell (p := ⟨w1.heap.size, 0, none⟩) (by show w1.heap.size < _; omega), cell_whole bA]; rfl
  have x1 : w7.cell? ⟨w1.heap.size, 1, none⟩ = some (.slice none 0 0) := by rw [hb27.cell (p := ⟨w1.heap.size, 1, none⟩) (by show w1.heap.size < _; omega), cell_whole bA]; rfl
  have x2 : w7.cell? ⟨w1.heap.size, 2, none⟩ = some (.int .i64 0) := by rw [hb27.cell (p := ⟨w1.heap.size, 2, none⟩) (by show w1.heap.size < _; omega), cell_whole bA]; rfl
  have x3 : w7.cell? ⟨w1.heap.size, 3, none⟩ = some (.slice (some ⟨b, 0, none⟩) 4 4) := by rw [hb27.cell (p := ⟨w1.heap.size, 3, none⟩) (by show w1.heap.size < _; omega), cell_whole bA]; rfl
  have x4 : w7.cell? ⟨w1.heap.size, 4, none⟩ = some (.slice none 0 0) := by rw [hb27.cell (p := ⟨w1.heap.size, 4, none⟩) (by show w1.heap.size < _; omega), cell_whole bA]; rfl
  have x5 : w7.cell? ⟨w1.heap.size, 5, none⟩ = some (.slice none 0 0) := by rw [hb27.cell (p := ⟨w1.heap.size, 5, none⟩) (by show w1.heap.size < _; omega), cell_whole bA]; rfl
  have x6 : w7.cell? ⟨w1.heap.size, 6, none⟩ = some (.slice none 0 0) := by rw [hb27.cell (p := ⟨w1.heap.size, 6, none⟩) (by show w1.heap.size < _; omega), cell_whole bA]; rfl
  have x7 : w7.cell? ⟨w1.heap.size, 7, none⟩ = some (.slice none 0 0) := by rw [hb27.cell (p := ⟨w1.heap.size, 7, none⟩) (by show w1.heap.size < _; omega), cell_whole bA]; rfl
  have x8 : w7.cell? ⟨w1.heap.size, 8, none⟩ = some (.slice none 0 0) := by rw [hb27.cell (p := ⟨w1.heap.size, 8, none⟩) (by show w1.heap.size < _; omega), cell_whole bA]; rfl
  have x9 : w7.cell? ⟨w1.heap.size, 9, none⟩ = some (.slice none 0 0) := by rw [hb27.cell (p := ⟨w1.heap.size, 9, none⟩) (by show w1.heap.size < _; omega), cell_whole bA]; rfl
  have x10 : w7.cell? ⟨w1.heap.size, 10, none⟩ = some (.int .i64 0) := by rw [hb27.cell (p := ⟨w1.heap.size, 10, none⟩) (by show w1.heap.size < _; omega), cell_whole bA]; rfl
  have r18 : w7.cell? ⟨w1.heap.size + 1, 18, none⟩ = some (.int .i64 3) := by rw [hb27.cell (p := ⟨w1.heap.size + 1, 18, none⟩) (by show w1.heap.size + 1 < _; omega), cell_whole bR]; rfl
  have r19 : w7.cell? ⟨w1.heap.size + 1, 19, none⟩ = some (.int .i64 0) := by rw [hb27.cell (p := ⟨w1.heap.size + 1, 19, none⟩) (by show w1.heap.size + 1 < _; omega), cell_whole bR]; rfl
  have r20 : w7.cell? ⟨w1.heap.size + 1, 20, none⟩ = some (.int .i64 0) := by rw [hb27.cell (p := ⟨w1.heap.size + 1, 20, none⟩) (by show w1.heap.size + 1 < _; omega), cell_whole bR]; rfl
  have r21 : w7.cell? ⟨w1.heap.size + 1, 21, none⟩ = some (.int .i64 1) := by rw [hb27.cell (p := ⟨w1.heap.size + 1, 21, none⟩) (by show w1.heap.size + 1 < _; omega), cell_whole bR]; rfl
  have r22 : w7.cell? ⟨w1.heap.size + 1, 22, none⟩ = some (.int .i64 8) := by rw [hb27.cell (p := ⟨w1.heap.size + 1, 22, none⟩) (by show w1.heap.size + 1 < _; omega), cell_whole bR]; rfl
  have r23 : w7.cell? ⟨w1.heap.size + 1, 23, none⟩ = some (.int .i64 0) := by rw [hb27.cell (p := ⟨w1.heap.size + 1, 23, none⟩) (by show w1.heap.size + 1 < _; omega), cell_whole bR]; rfl
  have r24 : w7.cell? ⟨w1.heap.size + 1, 24, none⟩ = some (.int .i64 0) := by rw [hb27.cell (p := ⟨w1.heap.size + 1, 24, none⟩) (by show w1.heap.size + 1 < _; omega), cell_whole bR]; rfl
  have r25 : w7.cell? ⟨w1.heap.size + 1, 25, none⟩ = some (.int .i64 0) := by rw [hb27.cell (p := ⟨w1.heap.size + 1, 25, none⟩) (by show w1.heap.size + 1 < _; omega), cell_whole bR]; rfl
  have r26 : w7.cell? ⟨w1.heap.size + 1, 26, none⟩ = some (.int .i64 0) := by rw [hb27.cell (p := ⟨w1.heap.size + 1, 26, none⟩) (by show w1.heap.size + 1 < _; omega), cell_whole bR]; rfl
  have r27 : w7.cell? ⟨w1.heap.size + 1, 27, none⟩ = some (.int .i64 4) := by rw [hb27.cell (p := ⟨w1.heap.size + 1, 27, none⟩) (by show w1.heap.size + 1 < _; omega), cell_whole bR]; rfl
  have r28 : w7.cell? ⟨w1.heap.size + 1, 28, none⟩ = some (.int .i64 0) := by rw [hb27.cell (p := ⟨w1.heap.size + 1, 28, none⟩) (by show w1.heap.size + 1 < _; omega), cell_whole bR]; rfl
  have r29 : w7.cell? ⟨w1.heap.size + 1, 29, none⟩ = some (.int .i64 0) := by rw [hb27.cell (p := ⟨w1.heap.size + 1, 29, none⟩) (by show w1.heap.size + 1 < _; omega), cell_whole bR]; rfl
  have r30 : w7.cell? ⟨w1.heap.size + 1, 30, none⟩ = some (.int .i64 3) := by rw [hb27.cell (p := ⟨w1.heap.size + 1, 30, none⟩) (by show w1.heap.size + 1 < _; omega), cell_whole bR]; rfl
  have r31 : w7.cell? ⟨w1.heap.size + 1, 31, none⟩ = some (.int .i64 3) := by rw [hb27.cell (p := ⟨w1.heap.size + 1, 31, none⟩) (by show w1.heap.size + 1 < _; omega), cell_whole bR]; rfl
  have r32 : w7.cell? ⟨w1.heap.size + 1, 32, none⟩ = some (.int .i64 0) := by rw [hb27.cell (p := ⟨w1.heap.size + 1, 32, none⟩) (by show w1.heap.size + 1 < _; omega), cell_whole bR]; rfl
  have r33 : w7.cell? ⟨w1.heap.size + 1, 33, none⟩ = some (.int .i64 0) := by rw [hb27.cell (p := ⟨w1.heap.size + 1, 33, none⟩) (by show w1.heap.size + 1 < _; omega), cell_whole bR]; rfl
  have r34 : w7.cell? ⟨w1.heap.size + 1, 34, none⟩ = some (.int .i64 0) := by rw [hb27.cell (p := ⟨w1.heap.size + 1, 34, none⟩) (by show w1.heap.size + 1 < _; omega), cell_whole bR]; rfl
  have r35 : w7.cell? ⟨w1.heap.size + 1, 35, none⟩ = some (.int .i64 0) := by rw [hb27.cell (p := ⟨w1.heap.size + 1, 35, none⟩) (by show w1.heap.size + 1 < _; omega), cell_whole bR]; rfl
  have hcf1 : 1 ≤ cf := by omega
  have hcf2 : (1 : Int) ≤ (cf : Int) := by omega
  have hs7 := hb27.size
  have hw7 : w.heap.size ≤ w7.heap.size := hB7.size
  have z0 : w1.heap.size < w7.heap.size := by omega
  have z1 : w1.heap.size + 1 < w7.heap.size := by omega
  have KS : Hid (∀ wx, Below w7.heap.size w7 wx → Calls Try.prog 13 #[.agg #[.string ⟨#[]⟩, .slice none 0 0, .int .i64 0, .slice (some ⟨b, 0, none⟩) 4 4, .slice none 0 0, .slice none 0 0, .slice none 0 0, .slice none 0 0, .slice none 0 0, .slice none 0 0, .int .i64 0], .slice (some ⟨w1.heap.size + 1, 0, none⟩) 4 4, .slice D 4 cg] wx (fun e w' => ∃ C cc, e = .returned (.slice C 2 cc) ∧ IntsAt w' w'.heap.size C [2, 3] ∧ Below wx.heap.size wx w')) := fun wx h =>
    (shorts_any (XB b) pl0 R0 G0 _ 4 D cg wx (B := w7.heap.size) (hR7.below h) (hG7.below h) h.size (by decide) (by decide) (by decide)).mono fun e w' ⟨C, cc, he, hI, hb⟩ => by
      rw [short0] at he hI
      exact ⟨C, cc, he, hI, hb⟩
  have KI : Hid (∀ C cc E ce wx, IntsAt wx wx.heap.size C [2, 3] → IntsAt wx wx.heap.size E [2, 3] → Calls Try.prog 12 #[.slice C 2 cc, .slice E 2 ce] wx (fun e w' => e = .returned (.bool true) ∧ Below wx.heap.size wx w')) := fun C cc E ce wx h1 h2 =>
    (sameInts_any [2, 3] [2, 3] C E cc ce wx h1 h2 (by decide) (by decide)).mono fun e w' ⟨he, n, hw⟩ => ⟨he, by rw [hw]; exact below_drewN (Below.refl _ _) n⟩
  have KT1 : Hid (∀ wx, Below w7.heap.size w7 wx → Calls Try.prog 18 #[.agg #[.string ⟨#[]⟩, .slice none 0 0, .int .i64 0, .slice (some ⟨b, 0, none⟩) 4 4, .slice none 0 0, .slice none 0 0, .slice none 0 0, .slice none 0 0, .slice none 0 0, .slice none 0 0, .int .i64 0], .slice (some ⟨w1.heap.size + 1, 0, none⟩) 4 4, .slice (some ⟨w1.heap.size + 1 + 1, 0, none⟩) 4 4, .slice D 4 cg, .int .i64 1] wx (fun e w' => e = .returned (.int .i64 2) ∧ Below wx.heap.size wx w')) := fun wx h =>
    (Stop_any (XB b) pl0 R0 S0 G0 _ 4 _ 4 D cg 1 wx (B := w7.heap.size) (hP7.below h) (hR7.below h) (hS7.below h) (hG7.below h) h.size (by decide) (by decide) (by decide) (by decide) S0_in).mono fun e w' ⟨he, hb⟩ => ⟨by rw [he, stop01], hb⟩
  have KT3 : Hid (∀ wx, Below w7.heap.size w7 wx → Calls Try.prog 18 #[.agg #[.string ⟨#[]⟩, .slice none 0 0, .int .i64 0, .slice (some ⟨b, 0, none⟩) 4 4, .slice none 0 0, .slice none 0 0, .slice none 0 0, .slice none 0 0, .slice none 0 0, .slice none 0 0, .int .i64 0], .slice (some ⟨w1.heap.size + 1, 0, none⟩) 4 4, .slice (some ⟨w1.heap.size + 1 + 1, 0, none⟩) 4 4, .slice D 4 cg, .int .i64 3] wx (fun e w' => e = .returned (.int .i64 (-1)) ∧ Below wx.heap.size wx w')) := fun wx h =>
    (Stop_any (XB b) pl0 R0 S0 G0 _ 4 _ 4 D cg 3 wx (B := w7.heap.size) (hP7.below h) (hR7.below h) (hS7.below h) (hG7.below h) h.size (by decide) (by decide) (by decide) (by decide) S0_in).mono fun e w' ⟨he, hb⟩ => ⟨by rw [he, stop03], hb⟩
  have KX : Hid (∀ wx, Below w7.heap.size w7 wx → Calls Try.prog 15 #[.slice F 2 cf, .slice (some ⟨w4.heap.size, 0, none⟩) 2 2] wx (fun e w' => e = .returned (.bool true) ∧ Below wx.heap.size wx w')) := fun wx h =>
    (same38_any x0L x0L F _ cf 2 wx (hF7.below h) (hW7.below h) (by decide) (by decide)).mono fun e w' ⟨he, n, hw⟩ => ⟨he, by rw [hw]; exact below_drewN (Below.refl _ _) n⟩
  have KC : Hid (∀ wx, Below w7.heap.size w7 wx → Calls Try.prog 20 #[.agg #[.string ⟨#[]⟩, .slice none 0 0, .int .i64 0, .slice (some ⟨b, 0, none⟩) 4 4, .slice none 0 0, .slice none 0 0, .slice none 0 0, .slice none 0 0, .slice none 0 0, .slice none 0 0, .int .i64 0], .slice (some ⟨w1.heap.size + 1, 0, none⟩) 4 4, .slice (some ⟨w1.heap.size + 1 + 1, 0, none⟩) 4 4, .slice D 4 cg, .slice F 2 cf] wx (fun e w' => e = .returned (.bool true) ∧ Below wx.heap.size wx w')) := fun wx h =>
    (check_any (XB b) pl0 R0 S0 G0 x0L _ 4 _ 4 D cg F cf wx (B := w7.heap.size) (hP7.below h) (hR7.below h) (hS7.below h) (hG7.below h) (hF7.below h) h.size (by decide) (by decide) (by decide) (by decide) (by decide) S0_in).mono fun e w' ⟨he, hb⟩ => ⟨by rw [he, chk0], hb⟩
  have KD : Hid (∀ wx, Below w7.heap.size w7 wx → Calls Try.prog 20 #[.agg #[.string ⟨#[]⟩, .slice none 0 0, .int .i64 0, .slice (some ⟨b, 0, none⟩) 4 4, .slice none 0 0, .slice none 0 0, .slice none 0 0, .slice none 0 0, .slice none 0 0, .slice none 0 0, .int .i64 0], .slice (some ⟨w1.heap.size + 1, 0, none⟩) 4 4, .slice (some ⟨w1.heap.size + 1 + 1, 0, none⟩) 4 4, .slice D 4 cg, .slice F 1 cf] wx (fun e w' => e = .returned (.bool false) ∧ Below wx.heap.size wx w')) := fun wx h =>
    (check_any (XB b) pl0 R0 S0 G0 [(2, 4)] _ 4 _ 4 D cg F cf wx (B := w7.heap.size) (hP7.below h) (hR7.below h) (hS7.below h) (hG7.below h) ((hF7.take 1).below h) h.size (by decide) (by decide) (by decide) (by decide) (by decide) S0_in).mono fun e w' ⟨he, hb⟩ => ⟨by rw [he, chk1], hb⟩
  have KF3 : Hid (∀ wx, Below w7.heap.size w7 wx → Calls Try.prog 10 #[.agg #[.string ⟨#[]⟩, .slice none 0 0, .int .i64 0, .slice (some ⟨b, 0, none⟩) 4 4, .slice none 0 0, .slice none 0 0, .slice none 0 0, .slice none 0 0, .slice none 0 0, .slice none 0 0, .int .i64 0], .int .i64 2, .agg #[.int .i64 4, .int .i64 0, .int .i64 0, .int .i64 3, .int .i64 3, .int .i64 0, .int .i64 0, .int .i64 0, .int .i64 0]] wx (fun e w' => e = .returned (.bool true) ∧ Below wx.heap.size wx w')) := fun wx h =>
    (futile_any (XB b) pl0 2 ⟨4, 0, 0, 3, 3, 0, 0, 0, 0⟩ wx (B := w7.heap.size) (hP7.below h) h.size (by decide)).mono fun e w' ⟨he, hb⟩ => ⟨by rw [he, fut3], hb⟩
  have KF2 : Hid (∀ wx, Below w7.heap.size w7 wx → Calls Try.prog 10 #[.agg #[.string ⟨#[]⟩, .slice none 0 0, .int .i64 0, .slice (some ⟨b, 0, none⟩) 4 4, .slice none 0 0, .slice none 0 0, .slice none 0 0, .slice none 0 0, .slice none 0 0, .slice none 0 0, .int .i64 0], .int .i64 2, .agg #[.int .i64 3, .int .i64 0, .int .i64 0, .int .i64 1, .int .i64 8, .int .i64 0, .int .i64 0, .int .i64 0, .int .i64 0]] wx (fun e w' => e = .returned (.bool false) ∧ Below wx.heap.size wx w')) := fun wx h =>
    (futile_any (XB b) pl0 2 ⟨3, 0, 0, 1, 8, 0, 0, 0, 0⟩ wx (B := w7.heap.size) (hP7.below h) h.size (by decide)).mono fun e w' ⟨he, hb⟩ => ⟨by rw [he, fut2], hb⟩
  clear bA bR bW hb24 hb27 hb37 hb47 hP7 hR7 hS7 hG7 hF7 hW7 hP2 hR2 hS2 hG3 hF4 hb3 hb4 kc3 hbw0
  have kB0 : Below w7.heap.size w7 w7.drew := (Below.refl _ _).drew
  refine Plan.wp_region_tree (.rd 0 (.rd 1 (.rd 2 (.two 3 (.wr 4 (.wr 5 (.rd 6 (.rd 7 (.rd 8 (.rd 9 (.rd 10 (.wr 11 (.rd 12 (.rd 13 (.rd 14 (.rd 15 (.rd 16 (.rd 17 (.rd 18 (.wr 19 (.rd 20 (.rd 21 (.rd 22 (.rd 23 (.rd 24 (.wr 25 (.rd 26 (.rd 27 (.rd 28 (.rd 29 (.rd 30 (.rd 31 (.rd 32 (.wr 33 (.rd 34 (.rd 35 (.rd 36 (.rd 37 (.rd 38 (.rd 39 (.rd 40 (.rd 41 (.wr 42 (.rd 43 (.rd 44 (.rd 45 (.rd 46 (.rd 47 (.rd 48 (.rd 49 (.wr 50 (.rd 51 (.rd 52 (.rd 53 (.rd 54 (.rd 55 (.rd 56 (.wr 57 (.rd 58 (.rd 59 (.rd 60 .done))))))))))))))))))))))))))))))))))))))))))))))))))))))))) 4 (.wr 3 (.wr 5 (.rd 6 (.rd 7 (.rd 8 (.rd 9 (.rd 10 (.wr 11 (.rd 12 (.rd 13 (.rd 14 (.rd 15 (.rd 16 (.rd 17 (.rd 18 (.wr 19 (.rd 20 (.rd 21 (.rd 22 (.rd 23 (.rd 24 (.wr 25 (.rd 26 (.rd 27 (.rd 28 (.rd 29 (.rd 30 (.rd 31 (.rd 32 (.wr 33 (.rd 34 (.rd 35 (.rd 36 (.rd 37 (.rd 38 (.rd 39 (.rd 40 (.rd 41 (.wr 42 (.rd 43 (.rd 44 (.rd 45 (.rd 46 (.rd 47 (.rd 48 (.rd 49 (.wr 50 (.rd 51 (.rd 52 (.rd 53 (.rd 54 (.rd 55 (.rd 56 (.wr 57 (.rd 58 (.rd 59 (.rd 60 .done))))))))))))))))))))))))))))))))))))))))))))))))))))))))))))) (by kernel_rfl) (by kernel_rfl) ?_
  (repeat (first | (refine Plan.tree_read (v := ?_) rfl rfl ?_ ?_; rotate_left; (focus ((intro wS hSw; have hkS := (bcell hSw).1; try (have hkT := fun (b o : Nat) (h : b < w.heap.size) => hkS b o (by first | omega | (simp; omega) | (simp; done))); go_simp); try with_reducible rfl)); simp only [Act.put, List.setIfInBounds_toArray, List.set_cons_zero, List.set_cons_succ]) | (refine Plan.tree_skip rfl rfl ?_; simp only [Act.put, List.setIfInBounds_toArray, List.set_cons_zero, List.set_cons_succ])))
  refine Plan.tree_two rfl rfl (fun K hK => ?_) (fun K hK => ?_)
  · (try go_simp)
    go_at_call 13
    (with_reducible refine (KS.out _ kB0).mono ?_)
    rintro e10 w10 ⟨C1, c1, rfl, hI1, hb10⟩
    have kB10 := Plan.below_go kB0 hb10
    (try go_simp)
    (refine hK.out _ _ (kB10) ?_; clear hK K; try simp only [Act.put, List.setIfInBounds_toArray, List.set_cons_zero, List.set_cons_succ])
    (repeat (first | (refine Plan.tree_read (v := ?_) rfl rfl ?_ ?_; rotate_left; (focus ((intro wS hSw; have hkS := (bcell hSw).1; try (have hkT := fun (b o : Nat) (h : b < w.heap.size) => hkS b o (by first | omega | (simp; omega) | (simp; done))); go_simp); try with_reducible rfl)); simp only [Act.put, List.setIfInBounds_toArray, List.set_cons_zero, List.set_cons_succ]) | (refine Plan.tree_skip rfl rfl ?_; simp only [Act.put, List.setIfInBounds_toArray, List.set_cons_zero, List.set_cons_succ])))
    (refine Plan.tree_write rfl (fun K hK => ?_); try go_simp)
    have kBb := kB10.alloc kB10.size (.cells (([2, 3] : List Int).map (Value.int .i64)).toArray 3)
    refine hK.out _ _ kBb ?_
    clear hK K
    try simp only [Act.put, List.setIfInBounds_toArray, List.set_cons_zero, List.set_cons_succ]
    have hIw : IntsAt (w10.alloc (.cells (([2, 3] : List Int).map (Value.int .i64)).toArray 3)) (w10.alloc (.cells (([2, 3] : List Int).map (Value.int .i64)).toArray 3)).heap.size (some ⟨w10.heap.size, 0, none⟩) [2, 3] := ints_of_block (heap_alloc_new w10 _) (by simp)
    have hIs : IntsAt (w10.alloc (.cells (([2, 3] : List Int).map (Value.int .i64)).toArray 3)) (w10.alloc (.cells (([2, 3] : List Int).map (Value.int .i64)).toArray 3)).heap.size C1 [2, 3] := (hI1.below ((Below.refl _ _).alloc (Nat.le_refl _) _)).more (by simp)
    show Plan.wpTree _ _ _ _ _ _ (w10.alloc (.cells (([2, 3] : List Int).map (Value.int .i64)).toArray 3))
    generalize w10.alloc (.cells (([2, 3] : List Int).map (Value.int .i64)).toArray 3) = wb at kBb hIw hIs ⊢
    clear hI1 hb10
    (repeat (first | (refine Plan.tree_read (v := ?_) rfl rfl ?_ ?_; rotate_left; (focus ((intro wS hSw; have hkS := (bcell hSw).1; try (have hkT := fun (b o : Nat) (h : b < w.heap.size) => hkS b o (by first | omega | (simp; omega) | (simp; done))); go_simp); try with_reducible rfl)); simp only [Act.put, List.setIfInBounds_toArray, List.set_cons_zero, List.set_cons_succ]) | (refine Plan.tree_skip rfl rfl ?_; simp only [Act.put, List.setIfInBounds_toArray, List.set_cons_zero, List.set_cons_succ])))
    (refine Plan.tree_write rfl (fun K hK => ?_); try go_simp)
    go_at_call 12
    (with_reducible refine (KI.out _ _ _ _ _ hIs hIw).mono ?_)
    rintro e11 w11 ⟨rfl, hb11⟩
    have kB11 := Plan.below_go kBb hb11
    (try go_simp)
    (refine hK.out _ _ (kB11) ?_; clear hK K; try simp only [Act.put, List.setIfInBounds_toArray, List.set_cons_zero, List.set_cons_succ])
    (repeat (first | (refine Plan.tree_read (v := ?_) rfl rfl ?_ ?_; rotate_left; (focus ((intro wS hSw; have hkS := (bcell hSw).1; try (have hkT := fun (b o : Nat) (h : b < w.heap.size) => hkS b o (by first | omega | (simp; omega) | (simp; done))); go_simp); try with_reducible rfl)); simp only [Act.put, List.setIfInBounds_toArray, List.set_cons_zero, List.set_cons_succ]) | (refine Plan.tree_skip rfl rfl ?_; simp only [Act.put, List.setIfInBounds_toArray, List.set_cons_zero, List.set_cons_succ])))
    (refine Plan.tree_write rfl (fun K hK => ?_); try go_simp)
    go_at_call 18
    (with_reducible refine (KT1.out _ kB11).mono ?_)
    rintro e12 w12 ⟨rfl, hb12⟩
    have kB12 := Plan.below_go kB11 hb12
    (try go_simp)
    (refine hK.out _ _ (kB12) ?_; clear hK K; try simp only [Act.put, List.setIfInBounds_toArray, List.set_cons_zero, List.set_cons_succ])
    (repeat (first | (refine Plan.tree_read (v := ?_) rfl rfl ?_ ?_; rotate_left; (focus ((intro wS hSw; have hkS := (bcell hSw).1; try (have hkT := fun (b o : Nat) (h : b < w.heap.size) => hkS b o (by first | omega | (simp; omega) | (simp; done))); go_simp); try with_reducible rfl)); simp only [Act.put, List.setIfInBounds_toArray, List.set_cons_zero, List.set_cons_succ]) | (refine Plan.tree_skip rfl rfl ?_; simp only [Act.put, List.setIfInBounds_toArray, List.set_cons_zero, List.set_cons_succ])))
    (refine Plan.tree_write rfl (fun K hK => ?_); try go_simp)
    go_at_call 18
    (with_reducible refine (KT3.out _ kB12).mono ?_)
    rintro e13 w13 ⟨rfl, hb13⟩
    have kB13 := Plan.below_go kB12 hb13
    (try go_simp)
    (refine hK.out _ _ (kB13) ?_; clear hK K; try simp only [Act.put, List.setIfInBounds_toArray, List.set_cons_zero, List.set_cons_succ])
    (repeat (first | (refine Plan.tree_read (v := ?_) rfl rfl ?_ ?_; rotate_left; (focus ((intro wS hSw; have hkS := (bcell hSw).1; try (have hkT := fun (b o : Nat) (h : b < w.heap.size) => hkS b o (by first | omega | (simp; omega) | (simp; done))); go_simp); try with_reducible rfl)); simp only [Act.put, List.setIfInBounds_toArray, List.set_cons_zero, List.set_cons_succ]) | (refine Plan.tree_skip rfl rfl ?_; simp only [Act.put, List.setIfInBounds_toArray, List.set_cons_zero, List.set_cons_succ])))
    (refine Plan.tree_write rfl (fun K hK => ?_); try go_simp)
    go_at_call 15
    (with_reducible refine (KX.out _ kB13).mono ?_)
    rintro e14 w14 ⟨rfl, hb14⟩
    have kB14 := Plan.below_go kB13 hb14
    (try go_simp)
    (refine hK.out _ _ (kB14) ?_; clear hK K; try simp only [Act.put, List.setIfInBounds_toArray, List.set_cons_zero, List.set_cons_succ])
    (repeat (first | (refine Plan.tree_read (v := ?_) rfl rfl ?_ ?_; rotate_left; (focus ((intro wS hSw; have hkS := (bcell hSw).1; try (have hkT := fun (b o : Nat) (h : b < w.heap.size) => hkS b o (by first | omega | (simp; omega) | (simp; done))); go_simp); try with_reducible rfl)); simp only [Act.put, List.setIfInBounds_toArray, List.set_cons_zero, List.set_cons_succ]) | (refine Plan.tree_skip rfl rfl ?_; simp only [Act.put, List.setIfInBounds_toArray, List.set_cons_zero, List.set_cons_succ])))
    (refine Plan.tree_write rfl (fun K hK => ?_); try go_simp)
    go_at_call 20
    (with_reducible refine (KC.out _ kB14).mono ?_)
    rintro e15 w15 ⟨rfl, hb15⟩
    have kB15 := Plan.below_go kB14 hb15
    (try go_simp)
    (refine hK.out _ _ (kB15) ?_; clear hK K; try simp only [Act.put, List.setIfInBounds_toArray, List.set_cons_zero, List.set_cons_succ])
    (repeat (first | (refine Plan.tree_read (v := ?_) rfl rfl ?_ ?_; rotate_left; (focus ((intro wS hSw; have hkS := (bcell hSw).1; try (have hkT := fun (b o : Nat) (h : b < w.heap.size) => hkS b o (by first | omega | (simp; omega) | (simp; done))); go_simp); try with_reducible rfl)); simp only [Act.put, List.setIfInBounds_toArray, List.set_cons_zero, List.set_cons_succ]) | (refine Plan.tree_skip rfl rfl ?_; simp only [Act.put, List.setIfInBounds_toArray, List.set_cons_zero, List.set_cons_succ])))
    (refine Plan.tree_write rfl (fun K hK => ?_); try go_simp)
    go_at_call 20
    (with_reducible refine (KD.out _ kB15).mono ?_)
    rintro e16 w16 ⟨rfl, hb16⟩
    have kB16 := Plan.below_go kB15 hb16
    (try go_simp)
    (refine hK.out _ _ (kB16) ?_; clear hK K; try simp only [Act.put, List.setIfInBounds_toArray, List.set_cons_zero, List.set_cons_succ])
    (repeat (first | (refine Plan.tree_read (v := ?_) rfl rfl ?_ ?_; rotate_left; (focus ((intro wS hSw; have hkS := (bcell hSw).1; try (have hkT := fun (b o : Nat) (h : b < w.heap.size) => hkS b o (by first | omega | (simp; omega) | (simp; done))); go_simp); try with_reducible rfl)); simp only [Act.put, List.setIfInBounds_toArray, List.set_cons_zero, List.set_cons_succ]) | (refine Plan.tree_skip rfl rfl ?_; simp only [Act.put, List.setIfInBounds_toArray, List.set_cons_zero, List.set_cons_succ])))
    (refine Plan.tree_write rfl (fun K hK => ?_); try go_simp)
    go_at_call 10
    (with_reducible refine (KF3.out _ kB16).mono ?_)
    rintro e17 w17 ⟨rfl, hb17⟩
    have kB17 := Plan.below_go kB16 hb17
    (try go_simp)
    (refine hK.out _ _ (kB17) ?_; clear hK K; try simp only [Act.put, List.setIfInBounds_toArray, List.set_cons_zero, List.set_cons_succ])
    (repeat (first | (refine Plan.tree_read (v := ?_) rfl rfl ?_ ?_; rotate_left; (focus ((intro wS hSw; have hkS := (bcell hSw).1; try (have hkT := fun (b o : Nat) (h : b < w.heap.size) => hkS b o (by first | omega | (simp; omega) | (simp; done))); go_simp); try with_reducible rfl)); simp only [Act.put, List.setIfInBounds_toArray, List.set_cons_zero, List.set_cons_succ]) | (refine Plan.tree_skip rfl rfl ?_; simp only [Act.put, List.setIfInBounds_toArray, List.set_cons_zero, List.set_cons_succ])))
    (refine Plan.tree_write rfl (fun K hK => ?_); try go_simp)
    go_at_call 10
    (with_reducible refine (KF2.out _ kB17).mono ?_)
    rintro e18 w18 ⟨rfl, hb18⟩
    have kB18 := Plan.below_go kB17 hb18
    (try go_simp)
    (refine hK.out _ _ (kB18) ?_; clear hK K; try simp only [Act.put, List.setIfInBounds_toArray, List.set_cons_zero, List.set_cons_succ])
    (repeat (first | (refine Plan.tree_read (v := ?_) rfl rfl ?_ ?_; rotate_left; (focus ((intro wS hSw; have hkS := (bcell hSw).1; try (have hkT := fun (b o : Nat) (h : b < w.heap.size) => hkS b o (by first | omega | (simp; omega) | (simp; done))); go_simp); try with_reducible rfl)); simp only [Act.put, List.setIfInBounds_toArray, List.set_cons_zero, List.set_cons_succ]) | (refine Plan.tree_skip rfl rfl ?_; simp only [Act.put, List.setIfInBounds_toArray, List.set_cons_zero, List.set_cons_succ])))
    refine Plan.tree_done ?_
    go_wp2_with fail
    go_ret
    exact ⟨ret_bool (by simp), hB7.trans (kB18.mono hw7)⟩
  · (try go_simp)
    have kB10 := kB0.alloc kB0.size (.cells (([2, 3] : List Int).map (Value.int .i64)).toArray 3)
    refine hK.out _ _ kB10 ?_
    clear hK K
    try simp only [Act.put, List.setIfInBounds_toArray, List.set_cons_zero, List.set_cons_succ]
    have hI0 : IntsAt (w7.drew.alloc (.cells (([2, 3] : List Int).map (Value.int .i64)).toArray 3)) (w7.drew.alloc (.cells (([2, 3] : List Int).map (Value.int .i64)).toArray 3)).heap.size (some ⟨w7.heap.size, 0, none⟩) [2, 3] := ints_of_block (heap_alloc_new w7.drew _) (by simp)
    show Plan.wpTree _ _ _ _ _ _ (w7.drew.alloc (.cells (([2, 3] : List Int).map (Value.int .i64)).toArray 3))
    generalize w7.drew.alloc (.cells (([2, 3] : List Int).map (Value.int .i64)).toArray 3) = wa at kB10 hI0 ⊢
    (repeat (first | (refine Plan.tree_read (v := ?_) rfl rfl ?_ ?_; rotate_left; (focus ((intro wS hSw; have hkS := (bcell hSw).1; try (have hkT := fun (b o : Nat) (h : b < w.heap.size) => hkS b o (by first | omega | (simp; omega) | (simp; done))); go_simp); try with_reducible rfl)); simp only [Act.put, List.setIfInBounds_toArray, List.set_cons_zero, List.set_cons_succ]) | (refine Plan.tree_skip rfl rfl ?_; simp only [Act.put, List.setIfInBounds_toArray, List.set_cons_zero, List.set_cons_succ])))
    (refine Plan.tree_write rfl (fun K hK => ?_); try go_simp)
    go_at_call 13
    (with_reducible refine (KS.out _ kB10).mono ?_)
    rintro e9 wb ⟨C1, c1, rfl, hIs, hb10⟩
    have kBb := Plan.below_go kB10 hb10
    have hIw := (hI0.below hb10).more hb10.size
    (try go_simp)
    (refine hK.out _ _ (kBb) ?_; clear hK K; try simp only [Act.put, List.setIfInBounds_toArray, List.set_cons_zero, List.set_cons_succ])
    (repeat (first | (refine Plan.tree_read (v := ?_) rfl rfl ?_ ?_; rotate_left; (focus ((intro wS hSw; have hkS := (bcell hSw).1; try (have hkT := fun (b o : Nat) (h : b < w.heap.size) => hkS b o (by first | omega | (simp; omega) | (simp; done))); go_simp); try with_reducible rfl)); simp only [Act.put, List.setIfInBounds_toArray, List.set_cons_zero, List.set_cons_succ]) | (refine Plan.tree_skip rfl rfl ?_; simp only [Act.put, List.setIfInBounds_toArray, List.set_cons_zero, List.set_cons_succ])))
    (refine Plan.tree_write rfl (fun K hK => ?_); try go_simp)
    go_at_call 12
    (with_reducible refine (KI.out _ _ _ _ _ hIs hIw).mono ?_)
    rintro e11 w11 ⟨rfl, hb11⟩
    have kB11 := Plan.below_go kBb hb11
    (try go_simp)
    (refine hK.out _ _ (kB11) ?_; clear hK K; try simp only [Act.put, List.setIfInBounds_toArray, List.set_cons_zero, List.set_cons_succ])
    (repeat (first | (refine Plan.tree_read (v := ?_) rfl rfl ?_ ?_; rotate_left; (focus ((intro wS hSw; have hkS := (bcell hSw).1; try (have hkT := fun (b o : Nat) (h : b < w.heap.size) => hkS b o (by first | omega | (simp; omega) | (simp; done))); go_simp); try with_reducible rfl)); simp only [Act.put, List.setIfInBounds_toArray, List.set_cons_zero, List.set_cons_succ]) | (refine Plan.tree_skip rfl rfl ?_; simp only [Act.put, List.setIfInBounds_toArray, List.set_cons_zero, List.set_cons_succ])))
    (refine Plan.tree_write rfl (fun K hK => ?_); try go_simp)
    go_at_call 18
    (with_reducible refine (KT1.out _ kB11).mono ?_)
    rintro e12 w12 ⟨rfl, hb12⟩
    have kB12 := Plan.below_go kB11 hb12
    (try go_simp)
    (refine hK.out _ _ (kB12) ?_; clear hK K; try simp only [Act.put, List.setIfInBounds_toArray, List.set_cons_zero, List.set_cons_succ])
    (repeat (first | (refine Plan.tree_read (v := ?_) rfl rfl ?_ ?_; rotate_left; (focus ((intro wS hSw; have hkS := (bcell hSw).1; try (have hkT := fun (b o : Nat) (h : b < w.heap.size) => hkS b o (by first | omega | (simp; omega) | (simp; done))); go_simp); try with_reducible rfl)); simp only [Act.put, List.setIfInBounds_toArray, List.set_cons_zero, List.set_cons_succ]) | (refine Plan.tree_skip rfl rfl ?_; simp only [Act.put, List.setIfInBounds_toArray, List.set_cons_zero, List.set_cons_succ])))
    (refine Plan.tree_write rfl (fun K hK => ?_); try go_simp)
    go_at_call 18
    (with_reducible refine (KT3.out _ kB12).mono ?_)
    rintro e13 w13 ⟨rfl, hb13⟩
    have kB13 := Plan.below_go kB12 hb13
    (try go_simp)
    (refine hK.out _ _ (kB13) ?_; clear hK K; try simp only [Act.put, List.setIfInBounds_toArray, List.set_cons_zero, List.set_cons_succ])
    (repeat (first | (refine Plan.tree_read (v := ?_) rfl rfl ?_ ?_; rotate_left; (focus ((intro wS hSw; have hkS := (bcell hSw).1; try (have hkT := fun (b o : Nat) (h : b < w.heap.size) => hkS b o (by first | omega | (simp; omega) | (simp; done))); go_simp); try with_reducible rfl)); simp only [Act.put, List.setIfInBounds_toArray, List.set_cons_zero, List.set_cons_succ]) | (refine Plan.tree_skip rfl rfl ?_; simp only [Act.put, List.setIfInBounds_toArray, List.set_cons_zero, List.set_cons_succ])))
    (refine Plan.tree_write rfl (fun K hK => ?_); try go_simp)
    go_at_call 15
    (with_reducible refine (KX.out _ kB13).mono ?_)
    rintro e14 w14 ⟨rfl, hb14⟩
    have kB14 := Plan.below_go kB13 hb14
    (try go_simp)
    (refine hK.out _ _ (kB14) ?_; clear hK K; try simp only [Act.put, List.setIfInBounds_toArray, List.set_cons_zero, List.set_cons_succ])
    (repeat (first | (refine Plan.tree_read (v := ?_) rfl rfl ?_ ?_; rotate_left; (focus ((intro wS hSw; have hkS := (bcell hSw).1; try (have hkT := fun (b o : Nat) (h : b < w.heap.size) => hkS b o (by first | omega | (simp; omega) | (simp; done))); go_simp); try with_reducible rfl)); simp only [Act.put, List.setIfInBounds_toArray, List.set_cons_zero, List.set_cons_succ]) | (refine Plan.tree_skip rfl rfl ?_; simp only [Act.put, List.setIfInBounds_toArray, List.set_cons_zero, List.set_cons_succ])))
    (refine Plan.tree_write rfl (fun K hK => ?_); try go_simp)
    go_at_call 20
    (with_reducible refine (KC.out _ kB14).mono ?_)
    rintro e15 w15 ⟨rfl, hb15⟩
    have kB15 := Plan.below_go kB14 hb15
    (try go_simp)
    (refine hK.out _ _ (kB15) ?_; clear hK K; try simp only [Act.put, List.setIfInBounds_toArray, List.set_cons_zero, List.set_cons_succ])
    (repeat (first | (refine Plan.tree_read (v := ?_) rfl rfl ?_ ?_; rotate_left; (focus ((intro wS hSw; have hkS := (bcell hSw).1; try (have hkT := fun (b o : Nat) (h : b < w.heap.size) => hkS b o (by first | omega | (simp; omega) | (simp; done))); go_simp); try with_reducible rfl)); simp only [Act.put, List.setIfInBounds_toArray, List.set_cons_zero, List.set_cons_succ]) | (refine Plan.tree_skip rfl rfl ?_; simp only [Act.put, List.setIfInBounds_toArray, List.set_cons_zero, List.set_cons_succ])))
    (refine Plan.tree_write rfl (fun K hK => ?_); try go_simp)
    go_at_call 20
    (with_reducible refine (KD.out _ kB15).mono ?_)
    rintro e16 w16 ⟨rfl, hb16⟩
    have kB16 := Plan.below_go kB15 hb16
    (try go_simp)
    (refine hK.out _ _ (kB16) ?_; clear hK K; try simp only [Act.put, List.setIfInBounds_toArray, List.set_cons_zero, List.set_cons_succ])
    (repeat (first | (refine Plan.tree_read (v := ?_) rfl rfl ?_ ?_; rotate_left; (focus ((intro wS hSw; have hkS := (bcell hSw).1; try (have hkT := fun (b o : Nat) (h : b < w.heap.size) => hkS b o (by first | omega | (simp; omega) | (simp; done))); go_simp); try with_reducible rfl)); simp only [Act.put, List.setIfInBounds_toArray, List.set_cons_zero, List.set_cons_succ]) | (refine Plan.tree_skip rfl rfl ?_; simp only [Act.put, List.setIfInBounds_toArray, List.set_cons_zero, List.set_cons_succ])))
    (refine Plan.tree_write rfl (fun K hK => ?_); try go_simp)
    go_at_call 10
    (with_reducible refine (KF3.out _ kB16).mono ?_)
    rintro e17 w17 ⟨rfl, hb17⟩
    have kB17 := Plan.below_go kB16 hb17
    (try go_simp)
    (refine hK.out _ _ (kB17) ?_; clear hK K; try simp only [Act.put, List.setIfInBounds_toArray, List.set_cons_zero, List.set_cons_succ])
    (repeat (first | (refine Plan.tree_read (v := ?_) rfl rfl ?_ ?_; rotate_left; (focus ((intro wS hSw; have hkS := (bcell hSw).1; try (have hkT := fun (b o : Nat) (h : b < w.heap.size) => hkS b o (by first | omega | (simp; omega) | (simp; done))); go_simp); try with_reducible rfl)); simp only [Act.put, List.setIfInBounds_toArray, List.set_cons_zero, List.set_cons_succ]) | (refine Plan.tree_skip rfl rfl ?_; simp only [Act.put, List.setIfInBounds_toArray, List.set_cons_zero, List.set_cons_succ])))
    (refine Plan.tree_write rfl (fun K hK => ?_); try go_simp)
    go_at_call 10
    (with_reducible refine (KF2.out _ kB17).mono ?_)
    rintro e18 w18 ⟨rfl, hb18⟩
    have kB18 := Plan.below_go kB17 hb18
    (try go_simp)
    (refine hK.out _ _ (kB18) ?_; clear hK K; try simp only [Act.put, List.setIfInBounds_toArray, List.set_cons_zero, List.set_cons_succ])
    (repeat (first | (refine Plan.tree_read (v := ?_) rfl rfl ?_ ?_; rotate_left; (focus ((intro wS hSw; have hkS := (bcell hSw).1; try (have hkT := fun (b o : Nat) (h : b < w.heap.size) => hkS b o (by first | omega | (simp; omega) | (simp; done))); go_simp); try with_reducible rfl)); simp only [Act.put, List.setIfInBounds_toArray, List.set_cons_zero, List.set_cons_succ]) | (refine Plan.tree_skip rfl rfl ?_; simp only [Act.put, List.setIfInBounds_toArray, List.set_cons_zero, List.set_cons_succ])))
    refine Plan.tree_done ?_
    go_wp2_with fail
    go_ret
    exact ⟨ret_bool (by simp), hB7.trans (kB18.mono hw7)⟩
end Go.Proofs.Ytkbceeobnbbfbaa
