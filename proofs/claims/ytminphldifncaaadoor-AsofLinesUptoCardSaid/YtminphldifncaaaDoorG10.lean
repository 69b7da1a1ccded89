/- Joined of: A6 A7. -/
import Derived.Test.YtminphldifncaaaDoorA5
import Derived.Test.YtminphldifncaaaDoorPL
import Derived.Test.YtminphldifncaaaDoorW14
/- The walk of small. -/
set_option linter.unusedSimpArgs false
set_option linter.unusedVariables false
namespace Go.Proofs.YtminphldifncaaaDoor
open Go.RowKit LG
attribute [local go_sem] alloc_drewN setCell_drewN shape_drewN

def exL : List Et := [⟨3, 80, 1, 2, 50, 0, 0⟩, ⟨3, 80, -1, 2, -50, 0, 0⟩, ⟨3, 200, 1, 2, -8, 1, 0⟩, ⟨3, 200, -1, 2, 8, 1, 0⟩]
def exO : List Bts := [[112, 117, 98, 108, 105, 99], [109, 105, 108, 108]]
def exP : List Bts := [[], [], [98, 114, 111, 111, 107]]
def exW : Bts := [97, 99, 99, 111, 117, 110, 116, 32, 109, 105, 108, 108, 32, 50, 48, 48, 48, 45, 48, 49, 45, 48, 49, 32, 50, 48, 48, 48, 45, 48, 49, 45, 49, 48, 32, 107, 110, 111, 119, 110, 32, 50, 48, 48, 48, 45, 48, 49, 45, 49, 51, 32, 49, 50, 104, 10, 111, 112, 101, 110, 105, 110, 103, 32, 43, 48, 10, 50, 48, 48, 48, 45, 48, 49, 45, 48, 52, 32, 98, 114, 111, 111, 107, 32, 43, 53, 48, 32, 103, 114, 97, 110, 116, 32, 43, 48, 10, 50, 48, 48, 48, 45, 48, 49, 45, 48, 52, 32, 98, 114, 111, 111, 107, 32, 45, 56, 32, 99, 111, 114, 114, 101, 99, 116, 32, 43, 48, 10, 99, 108, 111, 115, 105, 110, 103, 32, 43, 52, 50, 10]
theorem ex_text0 : dayL 0 = [50, 48, 48, 48, 45, 48, 49, 45, 48, 49] := by
  unfold dayL
  rw [textR_eq (y := 2000) (m := 1) (d := 1) (by omega) (by unfold DM.vld; decide) (by decide)]
  decide
theorem ex_text9 : dayL 9 = [50, 48, 48, 48, 45, 48, 49, 45, 49, 48] := by
  unfold dayL
  rw [textR_eq (y := 2000) (m := 1) (d := 10) (by omega) (by unfold DM.vld; decide) (by decide)]
  decide
theorem ex_text3 : dayL 3 = [50, 48, 48, 48, 45, 48, 49, 45, 48, 52] := by
  unfold dayL
  rw [textR_eq (y := 2000) (m := 1) (d := 4) (by omega) (by unfold DM.vld; decide) (by decide)]
  decide
theorem ex_text300 : textR 300 = [50, 48, 48, 48, 45, 48, 49, 45, 49, 51, 32, 49, 50, 104] := by
  rw [textR_eq (y := 2000) (m := 1) (d := 13) (by omega) (by unfold DM.vld; decide) (by decide)]
  decide
theorem ex_change : changeR exL 1 9 100 300 = [⟨3, 200, 1, 2, -8, 1, 0⟩] := by
  have h1 : exL.filter (chgB 1 9 100 300) = [⟨3, 200, 1, 2, -8, 1, 0⟩] := by decide
  unfold changeR
  rw [h1]
  exact ST.Stab.eq ltKnown swoKnown (ST.insSort_stab ltKnown swoKnown _) (ST.Stab.refl ltKnown (List.pairwise_singleton _ _))
theorem ex_lines : linesR exL 1 0 9 300 = [⟨3, 80, 1, 2, 50, 0, 0⟩, ⟨3, 200, 1, 2, -8, 1, 0⟩] := by
  have h1 : exL.filter (lineB 1 0 9 300) = [⟨3, 80, 1, 2, 50, 0, 0⟩, ⟨3, 200, 1, 2, -8, 1, 0⟩] := by decide
  unfold linesR
  rw [h1]
  exact ST.Stab.eq ltDay swoDay (ST.insSort_stab ltDay swoDay _) (ST.Stab.refl ltDay (by unfold ST.Asc; decide))
theorem ex_at1 : account exL 1 (-1) 3 100 = 50 := by decide
theorem ex_at2 : account exL 1 2 3 200 = 42 := by decide
theorem ex_at3 : account exL 1 (-1) (-1) 300 = 0 := by decide
theorem ex_at4 : account exL 1 (-1) 9 300 = 42 := by decide
theorem ex_stmt : stmtL exO exP exL 1 0 9 300 = exW := by
  unfold stmtL
  rw [if_neg (by decide), ex_lines]
  unfold headL
  rw [ex_text0, ex_text9, ex_text300, show ((0 : Int) - 1) = -1 by decide, ex_at3, ex_at4]
  simp only [List.flatMap_cons, List.flatMap_nil, rowL, ex_text3]
  decide +kernel
theorem bs_toList (x : Bts) : (bs x).toList = x := by rw [ByteArray.toList_eq, bs_list]
theorem entries_any (w : World) : Calls Tryd.prog 30 #[] w fun e w' => e = .returned (.slice (some ⟨w.heap.size, 0, none⟩) 4 4) ∧ EntsAt w' w'.heap.size (some ⟨w.heap.size, 0, none⟩) exL ∧ Below w.heap.size w w' := by
  go_enter Tryd.func30, Tryd.ntmps30
  go_wp2_with fail
  go_ret
  refine ⟨rfl, fun _ => ⟨w.heap.size, 0, rfl, by simp, fun k r hk j v hj => ?_⟩, below_new _ _⟩
  have h1 := rowE_get exL k r hk j (by have := (List.getElem?_eq_some_iff.1 hj).1; simpa [Et.cells] using this)
  rw [hj] at h1
  have := cells_at (w := w) rfl 34 (rowE exL) (k * 7 + j) v h1
  rw [Addr.add_lit] at this
  exact this
def exN (b1 b2 : Nat) : List Value := [.string ⟨#[]⟩, .slice (some ⟨b1, 0, none⟩) 2 2, .int .i64 0, .slice (some ⟨b2, 0, none⟩) 3 3, .slice none 0 0, .slice none 0 0, .slice none 0 0, .slice none 0 0, .slice none 0 0, .slice none 0 0, .int .i64 0]
def exR : List Value := [.string ⟨#[]⟩, .int .i64 0, .int .i64 0, .int .i64 0, .slice none 0 0, .slice none 0 0, .int .i64 0, .int .i64 0, .int .i64 0, .int .i64 0, .int .i64 0, .slice none 0 0, .string ⟨#[]⟩, .int .i64 0, .int .i64 0, .int .i64 0, .slice none 0 0, .slice none 0 0, .int .i64 0, .int .i64 0, .int .i64 0, .int .i64 0, .int .i64 0, .slice none 0 0, .string ⟨#[98, 114, 111, 111, 107]⟩, .int .i64 0, .int .i64 0, .int .i64 0, .slice none 0 0, .slice none 0 0, .int .i64 0, .int .i64 0, .int .i64 0, .int .i64 0, .int .i64 0, .slice none 0 0]
def exS : List Value := [.string ⟨#[112, 117, 98, 108, 105, 99]⟩, .string ⟨#[109, 105, 108, 108]⟩]
/-- The world in which small's basin lies. -/
def exB (w : World) : World := ((w.alloc (.cells exS.toArray 9)).alloc (.cells exR.toArray 63)).alloc (.cells (exN w.heap.size (w.heap.size + 1)).toArray 31)
theorem exB_below (w : World) : Below w.heap.size w (exB w) := (((Below.refl _ _).alloc (Nat.le_refl _) _).alloc (by simp) _).alloc (by simp; omega) _
theorem exB_size (w : World) : (exB w).heap.size = w.heap.size + 1 + 1 + 1 := by simp [exB]
theorem exB_basin (w : World) (j : Nat) (u : Value) (h : (exN w.heap.size (w.heap.size + 1))[j]? = some u) : (exB w).cell? ⟨w.heap.size + 1 + 1, j, none⟩ = some u := by
  have := cells_at (w := (w.alloc (.cells exS.toArray 9)).alloc (.cells exR.toArray 63)) (b := w.heap.size + 1 + 1) (by simp) 31 _ j u h
  rw [Addr.add_lit, Nat.zero_add] at this
  exact this
theorem exB_row (w : World) (j : Nat) (u : Value) (h : exR[j]? = some u) : (exB w).cell? ⟨w.heap.size + 1, j, none⟩ = some u := by
  have := cells_at (w := w.alloc (.cells exS.toArray 9)) (b := w.heap.size + 1) (by simp) 63 _ j u h
  rw [Addr.add_lit, Nat.zero_add] at this
  exact ((below_new ((w.alloc (.cells exS.toArray 9)).alloc (.cells exR.toArray 63)) (.cells (exN w.heap.size (w.heap.size + 1)).toArray 31)).cell (p := ⟨w.heap.size + 1, j, none⟩) (by simp)).trans this
theorem exB_strs (w : World) (j : Nat) (u : Value) (h : exS[j]? = some u) : (exB w).cell? ⟨w.heap.size, j, none⟩ = some u := by
  have := cells_at (w := w) (b := w.heap.size) rfl 9 _ j u h
  rw [Addr.add_lit, Nat.zero_add] at this
  have hb : Below (w.alloc (.cells exS.toArray 9)).heap.size (w.alloc (.cells exS.toArray 9)) (exB w) := ((Below.refl _ _).alloc (Nat.le_refl _) _).alloc (by simp) _
  exact (hb.cell (p := ⟨w.heap.size, j, none⟩) (by simp)).trans this
theorem exB_own (w : World) : StrsAt (exB w) (w.heap.size + 1 + 1) (some ⟨w.heap.size, 0, none⟩) exO := fun _ => ⟨w.heap.size, 0, rfl, by omega, fun j hj => by
  have hj2 : j < 2 := hj
  rw [Nat.zero_add]
  refine exB_strs w j _ ?_
  have : j = 0 ∨ j = 1 := by omega
  rcases this with rfl | rfl <;> rfl⟩
theorem exB_names (w : World) : NamesAt (exB w) (w.heap.size + 1 + 1) (some ⟨w.heap.size + 1, 0, none⟩) exP := fun _ => ⟨w.heap.size + 1, 0, rfl, by omega, fun j x hx => by
  have hj3 : j < 3 := (List.getElem?_eq_some_iff.1 hx).1
  rw [Nat.zero_add]
  refine exB_row w _ _ ?_
  have : j = 0 ∨ j = 1 ∨ j = 2 := by omega
  rcases this with rfl | rfl | rfl
  · obtain rfl : [] = x := by simpa [exP] using hx
    rfl
  · obtain rfl : [] = x := by simpa [exP] using hx
    rfl
  · obtain rfl : [98, 114, 111, 111, 107] = x := by simpa [exP] using hx
    rfl⟩
theorem add_ex (base xb mb : Nat) (A : Option Addr) (w : World) {B : Nat} (h : IxAt w base xb mb []) (hC : EntsAt w B A exL) (hB : B ≤ mb) :
    Calls Tryd.prog 18 #[.pointer (some ⟨xb, 0, none⟩), .slice A 4 4] w fun e w' => e = .returned (.tuple #[]) ∧ IxAt w' base xb mb exL ∧ OnlyX base xb mb w w' :=
  add_any base xb mb [] exL A 4 w h hC hB (by decide) (by decide)
theorem at_ex (A : Option Addr) (owner place day known n : Int) (w : World) {B : Nat} (hC : EntsAt w B A exL) (hB : B ≤ w.heap.size) (hI : LitsIn exL) (hn : account exL owner place day known = n) :
    Calls Tryd.prog 16 #[.slice A 4 4, .int .i64 owner, .int .i64 place, .int .i64 day, .int .i64 known] w (IntBe n w) := by
  have := at_any exL A 4 owner place day known w hC hB (by decide) hI
  rw [hn] at this; exact this
theorem ixat_ex (base xb mb : Nat) (owner place day known n : Int) (w : World) (h : IxAt w base xb mb exL) (hI : LitsIn exL) (hn : account exL owner place day known = n) :
    Calls Tryd.prog 19 #[.pointer (some ⟨xb, 0, none⟩), .int .i64 owner, .int .i64 place, .int .i64 day, .int .i64 known] w (IntBe n w) := by
  have := ixat_any base xb mb exL owner place day known w h (by decide) hI
  rw [hn] at this; exact this
theorem len_ex (base xb mb : Nat) (w : World) (h : IxAt w base xb mb exL) : Calls Tryd.prog 25 #[.pointer (some ⟨xb, 0, none⟩)] w fun e w' => e = .returned (.int .i64 4) ∧ w = w' := len_any base xb mb exL w h
theorem change_ex (A : Option Addr) (w : World) {B : Nat} (hC : EntsAt w B A exL) (hB : B ≤ w.heap.size) :
    Calls Tryd.prog 14 #[.slice A 4 4, .int .i64 1, .int .i64 9, .int .i64 100, .int .i64 300] w fun e w' => ∃ b off cc, e = .returned (.slice (some ⟨b, off, none⟩) 1 cc) ∧ 1 ≤ cc ∧ b < w'.heap.size ∧ w'.cell? ⟨b, off + 4, none⟩ = some (.int .i64 (-8)) ∧ Below w.heap.size w w' := by
  have := change_any exL A 4 1 9 100 300 w hC hB (by decide)
  rw [ex_change] at this
  refine this.mono ?_
  rintro e w' ⟨CA, cc, rfl, hcc, hCE, hb⟩
  obtain ⟨cb, co, rfl, hcb, r0, r1, r2, r3, r4, r5, r6⟩ := hCE.at_ (k := 0) (r := ⟨3, 200, 1, 2, -8, 1, 0⟩) rfl
  rw [Nat.zero_mul, Nat.add_zero] at r4
  exact ⟨cb, co, cc, rfl, hcc, hcb, r4, hb⟩
theorem stmt_ex (b1 b2 : Nat) (A : Option Addr) (w : World) (hT : Tabs w) (hI : LitsIn exL) (hR : RefsIn exL) (hO : StrsAt w w.heap.size (some ⟨b1, 0, none⟩) exO) (hN : NamesAt w w.heap.size (some ⟨b2, 0, none⟩) exP) (hC : EntsAt w w.heap.size A exL) :
    Calls Tryd.prog 15 #[.agg #[.string ⟨#[]⟩, .slice (some ⟨b1, 0, none⟩) 2 2, .int .i64 0, .slice (some ⟨b2, 0, none⟩) 3 3, .slice none 0 0, .slice none 0 0, .slice none 0 0, .slice none 0 0, .slice none 0 0, .slice none 0 0, .int .i64 0], .slice A 4 4, .int .i64 1, .int .i64 0, .int .i64 9, .int .i64 300] w fun e w' => e = .returned (.string (bs exW)) ∧ Below w.heap.size w w' := by
  have := stmt_any ⟨⟨#[]⟩, some ⟨b1, 0, none⟩, 2, 2, 0, some ⟨b2, 0, none⟩, 3, none, 0, 0, none, 0, 0, none, 0, 0, none, 0, 0, none, 0, 0, none, 0, 0, 0⟩ exP exO exL A 4 1 0 9 300 w hT rfl hO hN hC (by decide) hI hR (by decide) (fun x hx => by simp [exO] at hx; rcases hx with rfl | rfl <;> simp) (fun x hx => by simp [exP] at hx; rcases hx with rfl | rfl <;> simp)
  rw [ex_stmt] at this
  exact this
set_option maxRecDepth 100000 in
set_option maxHeartbeats 1000000 in
theorem small_any (w : World) (hT : Tabs w) : Calls Tryd.prog 9 #[] w fun e w' => e = .returned (.bool true) ∧ Below w.heap.size w w' := by
  go_enter Tryd.func9, Tryd.ntmps9
  go_wp2_with fail
  go_at_call 30
  refine (entries_any w).mono ?_
  rintro e1 w1 ⟨rfl, hE, hb1⟩
  have KC := Lib.hid (change_ex (some ⟨w.heap.size, 0, none⟩) w1 hE (Nat.le_refl _))
  go_wp2_with fail
  go_at_call 14
  refine KC.out.mono ?_
  rintro e2 w2 ⟨cb, co, cc, rfl, hcc, hcb, hc8, hb2⟩
  clear KC
  go_upto_region 4 with fail
  change Code.wp _ _ _ _ (exB w2)
  have hb3 := exB_below w2
  have hz3 : w2.heap.size + 1 + 1 < (exB w2).heap.size := by rw [exB_size]; omega
  have hOw := exB_own w2
  have hNm := exB_names w2
  have hBx := exB_basin w2
  generalize exB w2 = w3 at hb3 hz3 hOw hNm hBx ⊢
  go_wp2_with fail
  go_at_call 17
  refine (new_any w3).mono ?_
  rintro e4 w4 ⟨rfl, hz4q, hm4, hx4, hb4⟩
  have hz4 : w3.heap.size + 1 < w4.heap.size := by omega
  clear hz4q
  have hix := IxAt.fresh (base := w4.heap.size) hm4 hx4 (by omega) (by omega) (Nat.le_refl _)
  have z1 := hb1.size
  have z2 := hb2.size
  have z3 := hb3.size
  have hE4 := hE.below ((hb2.trans (hb3.mono z2)).trans (hb4.mono (by omega)))
  have KA := Lib.hid (add_ex w4.heap.size (w3.heap.size + 1) w3.heap.size (some ⟨w.heap.size, 0, none⟩) w4 hix hE4 (by omega))
  go_wp2_with fail
  go_at_call 18
  refine KA.out.mono ?_
  rintro e5 w5 ⟨rfl, hix5, ho5⟩
  have hb5 : Below w3.heap.size w4 w5 := ho5.below (Nat.le_refl _) (by omega) (by omega)
  have hb35 : Below w3.heap.size w3 w5 := hb4.trans hb5
  have hE5 : EntsAt w5 w1.heap.size (some ⟨w.heap.size, 0, none⟩) exL := hE.below ((hb2.trans (hb3.mono z2)).trans (hb35.mono (by omega)))
  have hc5 := ((hb3.trans (hb35.mono (by omega))).cell (p := ⟨cb, co + 4, none⟩) hcb).trans hc8
  have hcbw : cb < w5.heap.size := by have := hb35.size; omega
  have hOw5 := hOw.below (hb35.mono (by omega))
  have hNm5 := hNm.below (hb35.mono (by omega))
  have hT5 := hT.below hT.size (((hb1.trans (hb2.mono z1)).trans (hb3.mono (by omega))).trans (hb35.mono (by omega))) (by have := hb35.size; omega)
  have hIL : LitsIn exL := fun e he => by simp [exL] at he; rcases he with rfl | rfl | rfl | rfl <;> exact ⟨by decide, by decide⟩
  have hRL : RefsIn exL := fun e he => by simp [exL] at he; rcases he with rfl | rfl | rfl | rfl <;> exact ⟨by decide, by decide⟩
  clear KA hix hE4 hm4 hx4 hE hOw hNm hc8
  have hBq : ∀ wx, Below w3.heap.size w3 wx → (wx.cell? ⟨w2.heap.size + 1 + 1, 0, none⟩ = some (.string ⟨#[]⟩) ∧ wx.cell? ⟨w2.heap.size + 1 + 1, 1, none⟩ = some (.slice (some ⟨w2.heap.size, 0, none⟩) 2 2) ∧ wx.cell? ⟨w2.heap.size + 1 + 1, 2, none⟩ = some (.int .i64 0) ∧ wx.cell? ⟨w2.heap.size + 1 + 1, 3, none⟩ = some (.slice (some ⟨w2.heap.size + 1, 0, none⟩) 3 3) ∧ wx.cell? ⟨w2.heap.size + 1 + 1, 4, none⟩ = some (.slice none 0 0) ∧ wx.cell? ⟨w2.heap.size + 1 + 1, 5, none⟩ = some (.slice none 0 0) ∧ wx.cell? ⟨w2.heap.size + 1 + 1, 6, none⟩ = some (.slice none 0 0) ∧ wx.cell? ⟨w2.heap.size + 1 + 1, 7, none⟩ = some (.slice none 0 0) ∧ wx.cell? ⟨w2.heap.size + 1 + 1, 8, none⟩ = some (.slice none 0 0) ∧ wx.cell? ⟨w2.heap.size + 1 + 1, 9, none⟩ = some (.slice none 0 0) ∧ wx.cell? ⟨w2.heap.size + 1 + 1, 10, none⟩ = some (.int .i64 0)) := fun wx hb => by
    have go : ∀ j u, (exN w2.heap.size (w2.heap.size + 1))[j]? = some u → wx.cell? ⟨w2.heap.size + 1 + 1, j, none⟩ = some u := fun j u hj => (hb.cell (p := ⟨w2.heap.size + 1 + 1, j, none⟩) (by omega)).trans (hBx j u hj)
    exact ⟨go 0 _ rfl, go 1 _ rfl, go 2 _ rfl, go 3 _ rfl, go 4 _ rfl, go 5 _ rfl, go 6 _ rfl, go 7 _ rfl, go 8 _ rfl, go 9 _ rfl, go 10 _ rfl⟩
  replace hBq := Lib.hid hBq
  have hE5 := Lib.hid hE5
  have hOw5 := Lib.hid hOw5
  have hNm5 := Lib.hid hNm5
  have hix5 := Lib.hid hix5
  have hT5 := Lib.hid hT5
  have hIL := Lib.hid hIL
  have hRL := Lib.hid hRL
  have hb35 := Lib.hid hb35
  have z5 : w3.heap.size < w5.heap.size := by have := hb5.size; have := hb35.out.size; omega
  have KT1 := Lib.hid (at_ex (some ⟨w.heap.size, 0, none⟩) 1 (-1) 3 100 50 w5 hE5.out (by omega) hIL.out ex_at1)
  clear hBx
  go_wp2_with (first | (go_at_call 16; refine KT1.out.mono ?_; rintro e6 w6 ⟨rfl, hb6⟩; have KT2 := Lib.hid (ixat_ex w4.heap.size (w3.heap.size + 1) w3.heap.size 1 2 3 200 42 w6 (hix5.out.below hb6) hIL.out ex_at2)) | (go_at_call 19; refine KT2.out.mono ?_; rintro e7 w7 ⟨rfl, hb7⟩; have hb57 := hb6.trans (hb7.mono hb6.size); have KT3 := Lib.hid (len_ex w4.heap.size (w3.heap.size + 1) w3.heap.size w7 (hix5.out.below hb57)); obtain ⟨u0, u1, u2, u3, u4, u5, u6, u7, u8, u9, u10⟩ := hBq.out w7 (hb35.out.trans (hb57.mono hb35.out.size)); have KT4 := Lib.hid (stmt_ex w2.heap.size (w2.heap.size + 1) (some ⟨w.heap.size, 0, none⟩) w7 (hT5.out.below hT5.out.size hb57 hb57.size) hIL.out hRL.out (CellsAt.more (hOw5.out.below (hb57.mono (by omega))) (by have := hb57.size; omega)) (NamesAt.more (hNm5.out.below (hb57.mono (by omega))) (by have := hb57.size; omega)) ((hE5.out.below (hb57.mono (by omega))).more (by have := hb57.size; omega)))) | (go_at_call 25; refine KT3.out.mono ?_; rintro e8 _ ⟨rfl, rfl⟩) | (go_at_call 15; refine KT4.out.mono ?_; rintro e9 w9 ⟨rfl, hb9⟩) | fail)
  go_ret
  refine ⟨?_, (((hb1.trans (hb2.mono z1)).trans (hb3.mono (by omega))).trans (hb35.out.mono (by omega))).trans ((hb57.trans (hb9.mono hb57.size)).mono (by omega))⟩
  show Ending.returned (.bool ((bs exW).toList == exW)) = _
  rw [bs_toList]
  simp
end Go.Proofs.YtminphldifncaaaDoor

/- Walks of modest and sum; plain laws of changes. -/
namespace Go.Proofs.YtminphldifncaaaDoor
open Go.RowKit LG
attribute [local go_sem] alloc_drewN setCell_drewN shape_drewN

def Modest (l : List Et) : Prop := l.length ≤ 40 ∧ ∀ e ∈ l, -1125899906842624 ≤ e.litres ∧ e.litres ≤ 1125899906842624
theorem Modest.in_ {l : List Et} (h : Modest l) : LitsIn l := fun e he => ⟨by have := (h.2 e he).1; omega, by have := (h.2 e he).2; omega⟩
theorem litS_bound {l : List Et} (h : ∀ e ∈ l, -1125899906842624 ≤ e.litres ∧ e.litres ≤ 1125899906842624) : -(1125899906842624 * (l.length : Int)) ≤ litS l ∧ litS l ≤ 1125899906842624 * (l.length : Int) := by
  induction l with
  | nil => simp [litS, lits]
  | cons e l ih =>
    have h1 := h e (List.mem_cons_self ..)
    have h2 := ih fun x hx => h x (List.mem_cons_of_mem _ hx)
    rw [litS_cons, List.length_cons]
    push_cast
    omega
theorem Modest.sub {l m : List Et} (h : Modest l) (h1 : m.length ≤ l.length) (h2 : ∀ e ∈ m, e ∈ l) : -45035996273704960 ≤ litS m ∧ litS m ≤ 45035996273704960 := by
  have h3 := litS_bound (l := m) fun e he => h.2 e (h2 e he)
  have h4 := h.1
  have : (m.length : Int) ≤ 40 := by omega
  omega
/-- The account of modest entries is their plain sum. -/
theorem account_sum {l : List Et} (h : Modest l) (owner place day known : Int) : account l owner place day known = litS (l.filter (accB owner place day known)) := by
  have h1 := h.sub (m := l.filter (accB owner place day known)) (List.length_filter_le _ _) (fun e he => (List.mem_filter.1 he).1)
  unfold account sumX
  have h2 : inB (lits (l.filter (accB owner place day known))).sum = true := by
    unfold inB
    rw [Bool.and_eq_true, decide_eq_true_eq, decide_eq_true_eq]
    have h3 : litS (l.filter (accB owner place day known)) = (lits (l.filter (accB owner place day known))).sum := rfl
    omega
  rw [if_pos h2]
  rfl
theorem lit_split (p q : Et → Bool) (l : List Et) (h : ∀ e ∈ l, q e = true → p e = true) : litS (l.filter p) = litS (l.filter q) + litS (l.filter fun e => p e && !q e) := by
  induction l with
  | nil => rfl
  | cons e l ih =>
    have ih := ih fun x hx => h x (List.mem_cons_of_mem _ hx)
    have he := h e (List.mem_cons_self ..)
    cases hp : p e
    · have hq : q e = false := by
        cases hq : q e
        · rfl
        · rw [he hq] at hp; cases hp
      rw [List.filter_cons_of_neg (by simp [hp]), List.filter_cons_of_neg (by simp [hq]), List.filter_cons_of_neg (by simp [hp])]
      exact ih
    · cases hq : q e
      · rw [List.filter_cons_of_pos hp, List.filter_cons_of_neg (by simp [hq]), List.filter_cons_of_pos (by simp [hp, hq]), litS_cons, litS_cons, ih]
        omega
      · rw [List.filter_cons_of_pos hp, List.filter_cons_of_pos hq, List.filter_cons_of_neg (by simp [hp, hq]), litS_cons, litS_cons, ih]
        omega
theorem change_litS {l : List Et} (h : Modest l) (owner day one two : Int) (h12 : one ≤ two) : litS (changeR l owner day one two) = account l owner (-1) day two - account l owner (-1) day one := by
  rw [account_sum h, account_sum h]
  unfold changeR
  rw [litS_perm (ST.insSort_stab ltKnown swoKnown (l.filter (chgB owner day one two))).perm]
  have h1 := lit_split (accB owner (-1) day two) (accB owner (-1) day one) l fun e _ he => by
    unfold accB at he ⊢
    simp only [Bool.and_eq_true, decide_eq_true_eq] at he ⊢
    refine ⟨⟨⟨he.1.1.1, by omega⟩, he.1.2⟩, he.2⟩
  have h2 : l.filter (fun e => accB owner (-1) day two e && !accB owner (-1) day one e) = l.filter (chgB owner day one two) := by
    apply List.filter_congr
    intro e _
    unfold accB chgB
    rw [Bool.eq_iff_iff]
    simp
    constructor
    · rintro ⟨⟨⟨a, b⟩, c⟩, d⟩
      refine ⟨⟨⟨c, a⟩, ?_⟩, b⟩
      rcases d with (d | d) | d
      · omega
      · exact d
      · rcases c with c | c
        · exact absurd c d.1
        · exact absurd c d.2
    · rintro ⟨⟨⟨c, a⟩, q⟩, b⟩
      exact ⟨⟨⟨a, b⟩, c⟩, .inl (.inr q)⟩
  rw [h2] at h1
  omega
theorem change_cut (l : List Et) (owner day one mid two : Int) (h1 : one ≤ mid) (h2 : mid ≤ two) : changeR l owner day one two = changeR l owner day one mid ++ changeR l owner day mid two := by
  have A := ST.insSort_stab ltKnown swoKnown (l.filter (chgB owner day one mid))
  have B := ST.insSort_stab ltKnown swoKnown (l.filter (chgB owner day mid two))
  have kA : ∀ e ∈ changeR l owner day one mid, e.known ≤ mid := fun e he => by
    have := (List.mem_filter.1 (A.perm.mem_iff.1 he)).2
    unfold chgB at this
    simp only [Bool.and_eq_true, decide_eq_true_eq] at this
    exact this.2
  have kB : ∀ e ∈ changeR l owner day mid two, mid < e.known := fun e he => by
    have := (List.mem_filter.1 (B.perm.mem_iff.1 he)).2
    unfold chgB at this
    simp only [Bool.and_eq_true, decide_eq_true_eq] at this
    exact this.1.2
  have hsp : ∀ e, chgB owner day one two e = (chgB owner day one mid e || chgB owner day mid two e) := fun e => by
    unfold chgB
    rw [Bool.eq_iff_iff]
    simp
    constructor
    · rintro ⟨⟨⟨a, b⟩, c⟩, d⟩
      rcases Int.lt_or_le mid e.known with q | q
      · exact .inr ⟨⟨⟨a, b⟩, q⟩, d⟩
      · exact .inl ⟨⟨⟨a, b⟩, c⟩, q⟩
    · rintro (⟨⟨⟨a, b⟩, c⟩, d⟩ | ⟨⟨⟨a, b⟩, c⟩, d⟩)
      · exact ⟨⟨⟨a, b⟩, c⟩, by omega⟩
      · exact ⟨⟨⟨a, b⟩, by omega⟩, d⟩
  refine ST.Stab.eq ltKnown swoKnown (ST.insSort_stab ltKnown swoKnown (l.filter (chgB owner day one two))) ⟨?_, ?_, fun e => ?_⟩
  · refine (A.perm.append B.perm).trans ?_
    have := GI.disj_perm (chgB owner day one mid) (chgB owner day mid two) l fun e _ he => by
      unfold chgB at he ⊢
      simp only [Bool.and_eq_true, decide_eq_true_eq] at he
      rw [Bool.eq_false_iff]
      simp
      intro _ _ hq
      omega
    refine this.trans ?_
    rw [List.filter_congr fun e _ => (hsp e).symm]
  · refine List.pairwise_append.2 ⟨A.asc, B.asc, fun x hx y hy => ?_⟩
    have := kA x hx
    have := kB y hy
    simp [ltKnown]; omega
  · rw [List.filter_append]
    rcases Int.lt_or_le mid e.known with q | q
    · have h3 : (changeR l owner day one mid).filter (ST.eqv ltKnown e) = [] := by
        rw [List.filter_eq_nil_iff]
        intro x hx hk
        have := kA x hx
        simp [ST.eqv, ltKnown] at hk
        omega
      have h4 := B.keep e
      show (changeR l owner day one mid).filter (ST.eqv ltKnown e) ++ (changeR l owner day mid two).filter (ST.eqv ltKnown e) = _
      rw [h3, List.nil_append]
      refine h4.trans ?_
      rw [List.filter_filter, List.filter_filter]
      apply List.filter_congr
      intro x _
      cases hk : ST.eqv ltKnown e x
      · simp
      · simp only [Bool.true_and]
        simp [ST.eqv, ltKnown] at hk
        rw [hsp x]
        have : chgB owner day one mid x = false := by
          unfold chgB; rw [Bool.eq_false_iff]; simp; intro _ _ _; omega
        rw [this, Bool.false_or]
    · have h3 : (changeR l owner day mid two).filter (ST.eqv ltKnown e) = [] := by
        rw [List.filter_eq_nil_iff]
        intro x hx hk
        have := kB x hx
        simp [ST.eqv, ltKnown] at hk
        omega
      have h4 := A.keep e
      show (changeR l owner day one mid).filter (ST.eqv ltKnown e) ++ (changeR l owner day mid two).filter (ST.eqv ltKnown e) = _
      rw [h3, List.append_nil]
      refine h4.trans ?_
      rw [List.filter_filter, List.filter_filter]
      apply List.filter_congr
      intro x _
      cases hk : ST.eqv ltKnown e x
      · simp
      · simp only [Bool.true_and]
        simp [ST.eqv, ltKnown] at hk
        rw [hsp x]
        have : chgB owner day mid two x = false := by
          unfold chgB; rw [Bool.eq_false_iff]; simp; intro _ _ hq; omega
        rw [this, Bool.or_false]
def ModIs (l : List Et) (w : World) (e : Ending) (w' : World) : Prop := ∃ fb, e = .returned (.bool fb) ∧ (fb = true → Modest l) ∧ w = w'
set_option maxHeartbeats 1000000 in
theorem modest_any (l : List Et) (C : Option Addr) (cc : Nat) (w : World) {B : Nat} (hC : EntsAt w B C l) (hB : B ≤ w.heap.size) (hl : l.length ≤ 9223372036854775807) :
    Calls Tryd.prog 23 #[.slice C l.length cc] w (ModIs l w) := by
  obtain ⟨n, hn⟩ : ∃ n, l.length = n := ⟨_, rfl⟩
  have hM : Hid (Modest l ↔ (n ≤ 40 ∧ ∀ e ∈ l, -1125899906842624 ≤ e.litres ∧ e.litres ≤ 1125899906842624)) := by show _ ↔ _; rw [← hn]; rfl
  have hnn := Lib.hid hn
  rw [hn] at hl ⊢
  clear hn
  go_enter Tryd.func23, Tryd.ntmps23
  go_wp2_with fail
  go_loop [3] (fun u3 => ∃ k : Nat, k ≤ n ∧ u3 = .int .i64 k ∧ Hid (∀ e ∈ l.take k, -1125899906842624 ≤ e.litres ∧ e.litres ≤ 1125899906842624)) (fun u3 => n - (intOf u3).toNat)
  case atStart => exact ⟨0, Nat.zero_le _, rfl, fun e he => by simp at he⟩
  case round =>
    obtain ⟨k, hk, rfl, hI⟩ := hrel
    by_cases hlt : k < n
    · obtain ⟨e, hx⟩ : ∃ e, l[k]? = some e := ⟨_, List.getElem?_eq_getElem (by have := hnn.out; omega)⟩
      obtain ⟨b, off, rfl, hb, r0, r1, r2, r3, r4, r5, r6⟩ := hC.at_ hx
      have hbw : b < w.heap.size := by omega
      have hX := Lib.hid hx
      clear hx
      by_cases h1 : e.litres < -1125899906842624
      · have d1 : decide (e.litres < -1125899906842624) = true := decide_eq_true h1
        go_wp2_with fail
        go_ret
        exact ⟨false, rfl, fun h => (by cases h), rfl⟩
      by_cases h2 : 1125899906842624 < e.litres
      · have d1 : decide (e.litres < -1125899906842624) = false := decide_eq_false h1
        have d2 : decide (1125899906842624 < e.litres) = true := decide_eq_true h2
        go_wp2_with fail
        go_ret
        exact ⟨false, rfl, fun h => (by cases h), rfl⟩
      have d1 : decide (e.litres < -1125899906842624) = false := decide_eq_false h1
      have d2 : decide (1125899906842624 < e.litres) = false := decide_eq_false h2
      go_wp2_with fail
      go_round
      case rel => exact ⟨k + 1, by omega, by go_num, fun x hx => by
        rw [List.take_add_one, hX.out] at hx
        rcases List.mem_append.1 hx with q | q
        · exact hI.out x q
        · simp at q; subst q; exact ⟨by omega, by omega⟩⟩
      case measure => simp [intOf]; omega
    · have hke : k = n := by omega
      subst hke
      have hI2 : Hid (∀ e ∈ l, -1125899906842624 ≤ e.litres ∧ e.litres ≤ 1125899906842624) := fun e he => hI.out e (by rw [List.take_of_length_le (by have := hnn.out; omega)]; exact he)
      go_wp2_with fail
      go_ret
      exact ⟨_, rfl, fun h => hM.out.2 ⟨by have := of_decide_eq_true h; omega, hI2.out⟩, rfl⟩
set_option maxHeartbeats 1000000 in
theorem sumw_any (l : List Et) (C : Option Addr) (cc : Nat) (w : World) {B : Nat} (hC : EntsAt w B C l) (hB : B ≤ w.heap.size) (hM : Modest l) :
    Calls Tryd.prog 24 #[.slice C l.length cc] w fun e w' => e = .returned (.int .i64 (litS l)) ∧ w = w' := by
  obtain ⟨n, hn⟩ : ∃ n, l.length = n := ⟨_, rfl⟩
  have hn40 : n ≤ 40 := by have := hM.1; omega
  have hnn := Lib.hid hn
  have hMh := Lib.hid hM
  clear hM
  rw [hn]
  clear hn
  have hbd : Hid (∀ k, -45035996273704960 ≤ litS (l.take k) ∧ litS (l.take k) ≤ 45035996273704960) := fun k => hMh.out.sub (by rw [List.length_take]; omega) (fun e he => List.mem_of_mem_take he)
  go_enter Tryd.func24, Tryd.ntmps24
  go_wp2_with fail
  go_loop [3, 4] (fun u3 u4 => ∃ (k : Nat) (S : Int), k ≤ n ∧ u4 = .int .i64 k ∧ u3 = .int .i64 S ∧ Hid (litS (l.take k) = S)) (fun _ u4 => n - (intOf u4).toNat)
  case atStart => exact ⟨0, 0, Nat.zero_le _, rfl, rfl, by show litS _ = _; rw [List.take_zero]; rfl⟩
  case round =>
    obtain ⟨k, S, hk, rfl, rfl, hS⟩ := hrel
    by_cases hlt : k < n
    · obtain ⟨e, hx⟩ : ∃ e, l[k]? = some e := ⟨_, List.getElem?_eq_getElem (by have := hnn.out; omega)⟩
      obtain ⟨b, off, rfl, hb, r0, r1, r2, r3, r4, r5, r6⟩ := hC.at_ hx
      have hbw : b < w.heap.size := by omega
      have hs2 : Hid (litS (l.take (k + 1)) = S + e.litres) := by
        show _ = _
        rw [List.take_add_one, hx, litS_append, hS.out]
        simp [litS, lits]
      have hb1 := hbd.out (k + 1)
      rw [hs2.out] at hb1
      have hwr : wrap64 (S + e.litres) = S + e.litres := IntWalk.wrap64_in _ (by omega)
      clear hx
      go_wp2_with fail
      go_round
      case rel => exact ⟨k + 1, S + e.litres, by omega, by go_num, by first | rfl | rw [hwr], hs2⟩
      case measure => simp [intOf]; omega
    · have hke : k = n := by omega
      subst hke
      have hf : Hid (litS l = S) := by show _ = _; rw [← hS.out, List.take_of_length_le (by have := hnn.out; omega)]
      go_wp2_with fail
      go_ret
      exact ⟨ret_int hf.out.symm, rfl⟩
end Go.Proofs.YtminphldifncaaaDoor

