/- The walk of small: the fixed ledger answers as documented. (Printed by gen_w15.py.) -/
import Derived.Deep.Cut
import Derived.Test.YtokhapchagffkaaW14
set_option linter.unusedSimpArgs false
set_option linter.unusedVariables false
namespace Go.Proofs.Ytokhapchagffkaa
open Go.RowKit LG
attribute [local go_sem] alloc_drewN setCell_drewN shape_drewN

theorem ents_new (w : World) (A : List Et) (t : TypeId) : EntsAt (w.alloc (.cells (rowE A).toArray t)) (w.alloc (.cells (rowE A).toArray t)).heap.size (some ⟨w.heap.size, 0, none⟩) A := fun _ =>
  ⟨w.heap.size, 0, rfl, by simp, fun k r hk j v hj => by
    have hj7 : j < 7 := (List.getElem?_eq_some_iff.1 hj).1
    have h := (rowE_get A k r hk j hj7).trans hj
    simpa using h⟩
theorem below_new (w : World) (o : Obj) : Below w.heap.size w (w.alloc o) := (Below.refl _ _).alloc (Nat.le_refl _) _
namespace SM
def a1 : List Et := [⟨3, 80, 1, 2, 50, 0, 0⟩, ⟨3, 80, -1, 2, -50, 0, 0⟩]
def a2 : List Et := [⟨3, 200, 1, 2, -8, 0, 0⟩, ⟨3, 200, -1, 2, 8, 0, 0⟩]
def a3 : List Et := [⟨3, 199, 0, 0, 0, 0, 0⟩]
def a4 : List Et := [⟨3, 300, 0, 0, 5, 0, 0⟩]
def l2 : List Et := a1 ++ a2
theorem p1 : postR [] a1 = (a1, 0) := by decide
theorem p2 : postR a1 a2 = (l2, 0) := by decide
theorem p3 : postR l2 a3 = ([], 15) := by decide
theorem p4 : postR l2 a4 = ([], 1) := by decide
theorem c1 : account l2 1 (-1) 3 100 = 50 := by decide
theorem c2 : account l2 1 (-1) 3 200 = 42 := by decide
theorem c3 : account l2 1 (-1) 2 300 = 0 := by decide
theorem c4 : account l2 (-1) (-1) 9 999 = 0 := by decide
theorem b1 : balanced l2 999 = true := by decide
theorem n1 : (linesR l2 1 0 9 999).length = 2 := by unfold linesR; rw [insSort_len]; decide
theorem n2 : (linesR l2 1 0 9 100).length = 1 := by unfold linesR; rw [insSort_len]; decide
theorem inOf {l : List Et} (h : l.all (fun e => inB e.litres) = true) : LitsIn l := fun e he => by
  have := List.all_eq_true.1 h e he
  unfold inB at this
  simp at this
  exact this
end SM
def accK (n : Int) (ar : Array Value) (w wx : World) : Prop := Below w.heap.size w wx → Calls Try.prog 12 ar wx (IntBe n wx)
set_option maxRecDepth 100000 in
set_option maxHeartbeats 8000000 in
theorem small_any (w : World) : Calls Try.prog 8 #[] w (BoolIs true w) := by
  have K1 : Hid (∀ C c wx, EntsAt wx wx.heap.size C SM.a1 → Calls Try.prog 9 #[.slice none 0 0, .slice C 2 c] wx (fun x w' => ∃ F f, x = .returned (.tuple #[.slice F 2 f, .int .i64 0]) ∧ EntsAt w' w'.heap.size F SM.a1 ∧ Below wx.heap.size wx w')) := fun C c wx h2 =>
    (post_any [] SM.a1 none C 0 c wx (EntsAt.nil _ _ _) h2 (Nat.le_refl _) (by decide) (by decide) (SM.inOf (by decide)) (SM.inOf (by decide))).mono fun x w' ⟨F, f, he, _, hF, _, hb⟩ => by
      rw [SM.p1] at he hF
      exact ⟨F, f, he, hF, hb⟩
  have K2 : Hid (∀ D d C c wx, EntsAt wx wx.heap.size D SM.a1 → EntsAt wx wx.heap.size C SM.a2 → Calls Try.prog 9 #[.slice D 2 d, .slice C 2 c] wx (fun x w' => ∃ F f, x = .returned (.tuple #[.slice F 4 f, .int .i64 0]) ∧ EntsAt w' w'.heap.size F SM.l2 ∧ Below wx.heap.size wx w')) := fun D d C c wx h1 h2 =>
    (post_any SM.a1 SM.a2 D C d c wx h1 h2 (Nat.le_refl _) (by decide) (by decide) (SM.inOf (by decide)) (SM.inOf (by decide))).mono fun x w' ⟨F, f, he, _, hF, _, hb⟩ => by
      rw [SM.p2] at he hF
      exact ⟨F, f, he, hF, hb⟩
  have K3 : Hid (∀ D d C c wx, EntsAt wx wx.heap.size D SM.l2 → EntsAt wx wx.heap.size C SM.a3 → Calls Try.prog 9 #[.slice D 4 d, .slice C 1 c] wx (fun x w' => ∃ F f, x = .returned (.tuple #[.slice F 0 f, .int .i64 15]) ∧ EntsAt w' w'.heap.size F [] ∧ Below wx.heap.size wx w')) := fun D d C c wx h1 h2 =>
    (post_any SM.l2 SM.a3 D C d c wx h1 h2 (Nat.le_refl _) (by decide) (by decide) (SM.inOf (by decide)) (SM.inOf (by decide))).mono fun x w' ⟨F, f, he, _, hF, _, hb⟩ => by
      rw [SM.p3] at he hF
      exact ⟨F, f, he, hF, hb⟩
  have K4 : Hid (∀ D d C c wx, EntsAt wx wx.heap.size D SM.l2 → EntsAt wx wx.heap.size C SM.a4 → Calls Try.prog 9 #[.slice D 4 d, .slice C 1 c] wx (fun x w' => ∃ F f, x = .returned (.tuple #[.slice F 0 f, .int .i64 1]) ∧ EntsAt w' w'.heap.size F [] ∧ Below wx.heap.size wx w')) := fun D d C c wx h1 h2 =>
    (post_any SM.l2 SM.a4 D C d c wx h1 h2 (Nat.le_refl _) (by decide) (by decide) (SM.inOf (by decide)) (SM.inOf (by decide))).mono fun x w' ⟨F, f, he, _, hF, _, hb⟩ => by
      rw [SM.p4] at he hF
      exact ⟨F, f, he, hF, hb⟩
  go_enter Try.func8, Try.ntmps8
  go_wp2_with fail
  have hN1 := ents_new w SM.a1 36
  have hA1 := below_new w (.cells (rowE SM.a1).toArray 36)
  change EntsAt (w.alloc (.cells #[.int .i64 3, .int .i64 80, .int .i64 1, .int .i64 2, .int .i64 50, .int .i64 0, .int .i64 0, .int .i64 3, .int .i64 80, .int .i64 (-1), .int .i64 2, .int .i64 (-50), .int .i64 0, .int .i64 0] 36)) _ _ _ at hN1
  go_at_call 9
  (with_reducible refine (K1.out _ _ _ hN1).mono ?_)
  rintro x1 w1 ⟨F1, f1, rfl, hL1, hb1⟩
  have hq1 : Below w.heap.size w w1 := ((hA1.trans (hb1.mono hA1.size)))
  go_wp2_with fail
  have hN2 := ents_new w1 SM.a2 36
  have hA2 := below_new w1 (.cells (rowE SM.a2).toArray 36)
  change EntsAt (w1.alloc (.cells #[.int .i64 3, .int .i64 200, .int .i64 1, .int .i64 2, .int .i64 (-8), .int .i64 0, .int .i64 0, .int .i64 3, .int .i64 200, .int .i64 (-1), .int .i64 2, .int .i64 8, .int .i64 0, .int .i64 0] 36)) _ _ _ at hN2
  go_at_call 9
  (with_reducible refine (K2.out _ _ _ _ _ (hL1.below (below_new _ _) |>.more (below_new _ _).size) hN2).mono ?_)
  rintro x2 w2 ⟨F2, f2, rfl, hL2, hb2⟩
  have hq2 : Below w.heap.size w w2 := hq1.trans ((hA2.trans (hb2.mono hA2.size)).mono hq1.size)
  go_wp2_with fail
  have hN3 := ents_new w2 SM.a3 36
  have hA3 := below_new w2 (.cells (rowE SM.a3).toArray 36)
  change EntsAt (w2.alloc (.cells #[.int .i64 3, .int .i64 199, .int .i64 0, .int .i64 0, .int .i64 0, .int .i64 0, .int .i64 0] 36)) _ _ _ at hN3
  go_at_call 9
  (with_reducible refine (K3.out _ _ _ _ _ (hL2.below (below_new _ _) |>.more (below_new _ _).size) hN3).mono ?_)
  rintro x3 w3 ⟨F3, f3, rfl, _, hb3⟩
  have hq3 : Below w.heap.size w w3 := hq2.trans ((hA3.trans (hb3.mono hA3.size)).mono hq2.size)
  have hL3 := (hL2.below (hA3.trans (hb3.mono hA3.size))).more (hA3.trans (hb3.mono hA3.size)).size
  go_wp2_with fail
  have hN4 := ents_new w3 SM.a4 36
  have hA4 := below_new w3 (.cells (rowE SM.a4).toArray 36)
  change EntsAt (w3.alloc (.cells #[.int .i64 3, .int .i64 300, .int .i64 0, .int .i64 0, .int .i64 5, .int .i64 0, .int .i64 0] 36)) _ _ _ at hN4
  go_at_call 9
  (with_reducible refine (K4.out _ _ _ _ _ (hL3.below (below_new _ _) |>.more (below_new _ _).size) hN4).mono ?_)
  rintro x4 w4 ⟨F4, f4, rfl, _, hb4⟩
  have hq4 : Below w.heap.size w w4 := hq3.trans ((hA4.trans (hb4.mono hA4.size)).mono hq3.size)
  have hL4 := (hL3.below (hA4.trans (hb4.mono hA4.size))).more (hA4.trans (hb4.mono hA4.size)).size
  have hL := hL4
  have hB4 := hq4
  clear hN1 hN2 hN3 hN4 hA1 hA2 hA3 hA4 hL1 hL2 hL3 hL4 hb1 hb2 hb3 hb4 hq1 hq2 hq3 hq4 K1 K2 K3 K4
  have C0 : Hid (∀ wx, EntsAt wx wx.heap.size F2 SM.l2 → Calls Try.prog 12 #[.slice F2 4 f2, .int .i64 1, .int .i64 (-1), .int .i64 3, .int .i64 100] wx (IntBe 50 wx)) := fun wx h => by have := account_any SM.l2 F2 f2 1 (-1) 3 100 wx h (Nat.le_refl _) (by decide) (SM.inOf (by decide)); rw [SM.c1] at this; exact this
  have C1 : Hid (∀ wx, EntsAt wx wx.heap.size F2 SM.l2 → Calls Try.prog 12 #[.slice F2 4 f2, .int .i64 1, .int .i64 (-1), .int .i64 3, .int .i64 200] wx (IntBe 42 wx)) := fun wx h => by have := account_any SM.l2 F2 f2 1 (-1) 3 200 wx h (Nat.le_refl _) (by decide) (SM.inOf (by decide)); rw [SM.c2] at this; exact this
  have C2 : Hid (∀ wx, EntsAt wx wx.heap.size F2 SM.l2 → Calls Try.prog 12 #[.slice F2 4 f2, .int .i64 1, .int .i64 (-1), .int .i64 2, .int .i64 300] wx (IntBe 0 wx)) := fun wx h => by have := account_any SM.l2 F2 f2 1 (-1) 2 300 wx h (Nat.le_refl _) (by decide) (SM.inOf (by decide)); rw [SM.c3] at this; exact this
  have C3 : Hid (∀ wx, EntsAt wx wx.heap.size F2 SM.l2 → Calls Try.prog 12 #[.slice F2 4 f2, .int .i64 (-1), .int .i64 (-1), .int .i64 9, .int .i64 999] wx (IntBe 0 wx)) := fun wx h => by have := account_any SM.l2 F2 f2 (-1) (-1) 9 999 wx h (Nat.le_refl _) (by decide) (SM.inOf (by decide)); rw [SM.c4] at this; exact this
  have CB : Hid (∀ wx, EntsAt wx wx.heap.size F2 SM.l2 → Calls Try.prog 14 #[.slice F2 4 f2, .int .i64 999] wx (BoolIs true wx)) := fun wx h => by have := balanced_any SM.l2 F2 f2 999 wx h (Nat.le_refl _) (by decide) (SM.inOf (by decide)); rw [SM.b1] at this; exact this
  have CL0 : Hid (∀ wx, EntsAt wx wx.heap.size F2 SM.l2 → Calls Try.prog 16 #[.slice F2 4 f2, .int .i64 1, .int .i64 0, .int .i64 9, .int .i64 999] wx (fun e w' => ∃ C cc, e = .returned (.slice C 2 cc) ∧ Below wx.heap.size wx w')) := fun wx h => (lines_any SM.l2 F2 f2 1 0 9 999 wx h (Nat.le_refl _) (by decide)).mono fun e w' ⟨C, cc, he, _, _, hb⟩ => ⟨C, cc, by rw [he, SM.n1], hb⟩
  have CL1 : Hid (∀ wx, EntsAt wx wx.heap.size F2 SM.l2 → Calls Try.prog 16 #[.slice F2 4 f2, .int .i64 1, .int .i64 0, .int .i64 9, .int .i64 100] wx (fun e w' => ∃ C cc, e = .returned (.slice C 1 cc) ∧ Below wx.heap.size wx w')) := fun wx h => (lines_any SM.l2 F2 f2 1 0 9 100 wx h (Nat.le_refl _) (by decide)).mono fun e w' ⟨C, cc, he, _, _, hb⟩ => ⟨C, cc, by rw [he, SM.n2], hb⟩
  go_wp2_with fail
  go_at_call 12
  (with_reducible refine (C0.out _ hL).mono ?_)
  rintro x5 w5 ⟨rfl, hb5⟩
  replace hL := (hL.below hb5).more hb5.size
  have hB5 := hB4.trans (hb5.mono hB4.size)
  go_wp2_with fail
  go_at_call 12
  (with_reducible refine (C1.out _ hL).mono ?_)
  rintro x6 w6 ⟨rfl, hb6⟩
  replace hL := (hL.below hb6).more hb6.size
  have hB6 := hB5.trans (hb6.mono hB5.size)
  go_wp2_with fail
  go_at_call 12
  (with_reducible refine (C2.out _ hL).mono ?_)
  rintro x7 w7 ⟨rfl, hb7⟩
  replace hL := (hL.below hb7).more hb7.size
  have hB7 := hB6.trans (hb7.mono hB6.size)
  go_wp2_with fail
  go_at_call 12
  (with_reducible refine (C3.out _ hL).mono ?_)
  rintro x8 w8 ⟨rfl, hb8⟩
  replace hL := (hL.below hb8).more hb8.size
  have hB8 := hB7.trans (hb8.mono hB7.size)
  go_wp2_with fail
  go_at_call 14
  (with_reducible refine (CB.out _ hL).mono ?_)
  rintro x9 w9 ⟨rfl, hb9⟩
  replace hL := (hL.below hb9).more hb9.size
  have hB9 := hB8.trans (hb9.mono hB8.size)
  go_wp2_with fail
  go_at_call 16
  (with_reducible refine (CL0.out _ hL).mono ?_)
  rintro x10 w10 ⟨G1, g1, rfl, hb10⟩
  replace hL := (hL.below hb10).more hb10.size
  have hB10 := hB9.trans (hb10.mono hB9.size)
  go_wp2_with fail
  go_at_call 16
  (with_reducible refine (CL1.out _ hL).mono ?_)
  rintro x11 w11 ⟨G2, g2, rfl, hb11⟩
  replace hL := (hL.below hb11).more hb11.size
  have hB11 := hB10.trans (hb11.mono hB10.size)
  go_wp2_with fail
  go_ret
  exact ⟨rfl, hB11⟩
end Go.Proofs.Ytokhapchagffkaa
