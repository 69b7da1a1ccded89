/- Walks of the reference's Is and of lawful. -/
import Derived.Test.YtkbceeobnbbfbaaW5
set_option linter.unusedSimpArgs false
set_option linter.unusedVariables false
namespace Go.Proofs.Ytkbceeobnbbfbaa
open Go.RowKit CM
attribute [local go_sem] alloc_drewN setCell_drewN shape_drewN

set_option maxHeartbeats 2000000 in
theorem is_any (X : Bas) (pl : Pl) (R : List Rt) (G : List (Int × Int)) (C : Option Addr) (cr : Nat) (D : Option Addr) (cg : Nat) (k : Nat) (w : World) {B : Nat} (hR : RightsAt w B C R) (hG : PairsAt w B D G) (hB : B ≤ w.heap.size)
    (hl : pl.length ≤ 1000000) (hr : R.length ≤ 1000000) (hg : G.length ≤ 1000000) (hk : k < R.length) :
    Calls Try.prog 32 #[.agg #[.string X.nm, .slice X.a1 X.l1 X.c1, .int .i64 X.cl, .slice X.P pl.length X.cP, .slice X.a4 X.l4 X.c4, .slice X.a5 X.l5 X.c5, .slice X.a6 X.l6 X.c6, .slice X.a7 X.l7 X.c7, .slice X.a8 X.l8 X.c8, .slice X.a9 X.l9 X.c9, .int .i64 X.er], .slice C R.length cr, .slice D G.length cg, .int .i64 k] w (BoolIs (shortF pl R G k) w) := by
  obtain ⟨r, hx⟩ : ∃ r, R[k]? = some r := ⟨_, List.getElem?_eq_getElem hk⟩
  obtain ⟨b, off, rfl, hb, r0, r1, r2, r3, r4, r5, r6, r7, r8⟩ := hR.at_ hx
  have hrt := rtN_of hx
  have hbw : b < w.heap.size := by omega
  have hbw2 : b ≤ w.heap.size := by omega
  have hbw3 : b ≤ w.heap.size + 1 := by omega
  clear hx
  by_cases h1 : k < G.length
  case neg =>
    have hF : Hid (shortF pl R G k = false) := Lib.hid (by unfold shortF; rw [decide_eq_false h1]; rfl)
    have d1 : decide (k < G.length) = false := decide_eq_false h1
    clear hrt
    go_enter Try.func32, Try.ntmps32
    go_wp2_with fail
    refine Plan.wp_region_tree (.rd 0 (.rd 1 (.rd 2 (.rd 3 (.rd 4 (.rd 5 (.rd 6 (.rd 7 (.rd 8 (.rd 9 (.rd 10 (.rd 11 (.rd 12 (.rd 13 (.rd 14 (.rd 15 (.rd 16 (.rd 17 (.rd 18 (.rd 19 (.rd 20 (.rd 21 (.rd 22 (.rd 23 (.rd 24 (.rd 25 (.rd 26 (.rd 27 .done)))))))))))))))))))))))))))) (by kernel_rfl) (by kernel_rfl) ?_
    (repeat (first | (refine Plan.tree_read (v := ?_) rfl rfl ?_ ?_; rotate_left; (focus ((intro wS hSw; have hkS := (bcell hSw).1; try (have hkT := fun (b o : Nat) (h : b < w.heap.size) => hkS b o (by first | omega | (simp; omega) | (simp; done))); go_simp); try with_reducible rfl)); simp only [Act.put, List.setIfInBounds_toArray, List.set_cons_zero, List.set_cons_succ]) | (refine Plan.tree_skip rfl rfl ?_; simp only [Act.put, List.setIfInBounds_toArray, List.set_cons_zero, List.set_cons_succ])))
    refine Plan.tree_done ?_
    go_wp2_with fail
    go_ret
    exact ⟨ret_bool hF.out.symm, (((Below.refl _ _).alloc (Nat.le_refl _) _).alloc (by simp) _).drew⟩
  obtain ⟨x, hy⟩ : ∃ x, G[k]? = some x := ⟨_, List.getElem?_eq_getElem h1⟩
  obtain ⟨b2, off2, rfl, hb2, c0, c1⟩ := hG.at_ hy
  have hcw : b2 < w.heap.size := by omega
  have hcw2 : b2 ≤ w.heap.size := by omega
  have hcw3 : b2 ≤ w.heap.size + 1 := by omega
  have hgt := gotG_of hy
  clear hy
  have hF : shortF pl R G k = (decide (x.2 < r.rate) && isPl pl r.place) := by
    unfold shortF rateR; rw [decide_eq_true h1, hgt, hrt]; rfl
  clear hgt hrt
  have d1 : decide (k < G.length) = true := decide_eq_true h1
  by_cases h2 : 0 ≤ r.place
  case neg =>
    have hF : Hid (shortF pl R G k = false) := Lib.hid (by rw [hF, isPl_neg h2, Bool.and_false])
    have d2 : decide (0 ≤ r.place) = false := decide_eq_false h2
    go_enter Try.func32, Try.ntmps32
    go_wp2_with fail
    refine Plan.wp_region_tree (.rd 0 (.rd 1 (.rd 2 (.rd 3 (.rd 4 (.rd 5 (.rd 6 (.rd 7 (.rd 8 (.rd 9 (.rd 10 (.rd 11 (.rd 12 (.rd 13 (.rd 14 (.rd 15 (.rd 16 (.rd 17 (.rd 18 (.rd 19 (.rd 20 (.rd 21 (.rd 22 (.rd 23 (.rd 24 (.rd 25 (.rd 26 (.rd 27 .done)))))))))))))))))))))))))))) (by kernel_rfl) (by kernel_rfl) ?_
    (repeat (first | (refine Plan.tree_read (v := ?_) rfl rfl ?_ ?_; rotate_left; (focus ((intro wS hSw; have hkS := (bcell hSw).1; try (have hkT := fun (b o : Nat) (h : b < w.heap.size) => hkS b o (by first | omega | (simp; omega) | (simp; done))); go_simp); try with_reducible rfl)); simp only [Act.put, List.setIfInBounds_toArray, List.set_cons_zero, List.set_cons_succ]) | (refine Plan.tree_skip rfl rfl ?_; simp only [Act.put, List.setIfInBounds_toArray, List.set_cons_zero, List.set_cons_succ])))
    refine Plan.tree_done ?_
    go_wp2_with fail
    go_ret
    exact ⟨ret_bool hF.out.symm, (((Below.refl _ _).alloc (Nat.le_refl _) _).alloc (by simp) _).drew⟩
  have d2 : decide (0 ≤ r.place) = true := decide_eq_true h2
  by_cases h3 : r.place < pl.length
  case neg =>
    have hF : Hid (shortF pl R G k = false) := Lib.hid (by rw [hF, isPl_pos h2, decide_eq_false h3, Bool.and_false])
    have d3 : decide (r.place < (pl.length : Int)) = false := decide_eq_false h3
    go_enter Try.func32, Try.ntmps32
    go_wp2_with fail
    refine Plan.wp_region_tree (.rd 0 (.rd 1 (.rd 2 (.rd 3 (.rd 4 (.rd 5 (.rd 6 (.rd 7 (.rd 8 (.rd 9 (.rd 10 (.rd 11 (.rd 12 (.rd 13 (.rd 14 (.rd 15 (.rd 16 (.rd 17 (.rd 18 (.rd 19 (.rd 20 (.rd 21 (.rd 22 (.rd 23 (.rd 24 (.rd 25 (.rd 26 (.rd 27 .done)))))))))))))))))))))))))))) (by kernel_rfl) (by kernel_rfl) ?_
    (repeat (first | (refine Plan.tree_read (v := ?_) rfl rfl ?_ ?_; rotate_left; (focus ((intro wS hSw; have hkS := (bcell hSw).1; try (have hkT := fun (b o : Nat) (h : b < w.heap.size) => hkS b o (by first | omega | (simp; omega) | (simp; done))); go_simp); try with_reducible rfl)); simp only [Act.put, List.setIfInBounds_toArray, List.set_cons_zero, List.set_cons_succ]) | (refine Plan.tree_skip rfl rfl ?_; simp only [Act.put, List.setIfInBounds_toArray, List.set_cons_zero, List.set_cons_succ])))
    refine Plan.tree_done ?_
    go_wp2_with fail
    go_ret
    exact ⟨ret_bool hF.out.symm, (((Below.refl _ _).alloc (Nat.le_refl _) _).alloc (by simp) _).drew⟩
  have d3 : decide (r.place < (pl.length : Int)) = true := decide_eq_true h3
  have hF : Hid (shortF pl R G k = decide (x.2 < r.rate)) := Lib.hid (by rw [hF, isPl_pos h2, d3, Bool.and_true])
  go_enter Try.func32, Try.ntmps32
  go_wp2_with fail
  refine Plan.wp_region_tree (.rd 0 (.rd 1 (.rd 2 (.rd 3 (.rd 4 (.rd 5 (.rd 6 (.rd 7 (.rd 8 (.rd 9 (.rd 10 (.rd 11 (.rd 12 (.rd 13 (.rd 14 (.rd 15 (.rd 16 (.rd 17 (.rd 18 (.rd 19 (.rd 20 (.rd 21 (.rd 22 (.rd 23 (.rd 24 (.rd 25 (.rd 26 (.rd 27 .done)))))))))))))))))))))))))))) (by kernel_rfl) (by kernel_rfl) ?_
  (repeat (first | (refine Plan.tree_read (v := ?_) rfl rfl ?_ ?_; rotate_left; (focus ((intro wS hSw; have hkS := (bcell hSw).1; try (have hkT := fun (b o : Nat) (h : b < w.heap.size) => hkS b o (by first | omega | (simp; omega) | (simp; done))); go_simp); try with_reducible rfl)); simp only [Act.put, List.setIfInBounds_toArray, List.set_cons_zero, List.set_cons_succ]) | (refine Plan.tree_skip rfl rfl ?_; simp only [Act.put, List.setIfInBounds_toArray, List.set_cons_zero, List.set_cons_succ])))
  refine Plan.tree_done ?_
  go_wp2_with fail
  go_ret
  exact ⟨ret_bool hF.out.symm, (((Below.refl _ _).alloc (Nat.le_refl _) _).alloc (by simp) _).drew⟩
def lawB (pl : Pl) (r : Rt) (x : Int × Int) : Bool := decide (x.1 = r.id) && (decide (0 ≤ x.2) && (decide (x.2 ≤ 1125899906842624) && (decide (x.2 ≤ max 0 r.rate) && (decide (x.2 = 0) || isPl pl r.place))))
theorem lawB_eq (pl : Pl) (R : List Rt) (G : List (Int × Int)) (i : Nat) : lawfulF pl R G i = lawB pl (rtN R i) (G.getD i (0, 0)) := rfl
set_option maxHeartbeats 2000000 in
theorem lawful_any (X : Bas) (pl : Pl) (r : Rt) (x : Int × Int) (w : World) (hl : pl.length ≤ 1000000) :
    Calls Try.prog 38 #[.agg #[.string X.nm, .slice X.a1 X.l1 X.c1, .int .i64 X.cl, .slice X.P pl.length X.cP, .slice X.a4 X.l4 X.c4, .slice X.a5 X.l5 X.c5, .slice X.a6 X.l6 X.c6, .slice X.a7 X.l7 X.c7, .slice X.a8 X.l8 X.c8, .slice X.a9 X.l9 X.c9, .int .i64 X.er], .agg #[.int .i64 r.id, .int .i64 r.owner, .int .i64 r.date, .int .i64 r.place, .int .i64 r.rate, .int .i64 r.from1, .int .i64 r.until1, .int .i64 r.back, .int .i64 r.backTo], .agg #[.int .i64 x.1, .int .i64 x.2]] w (BoolIs (lawB pl r x) w) := by
  obtain ⟨x1, x2⟩ := x
  dsimp only
  have K1 := Lib.hid (fun wx => cisPlace_any X pl r.place wx (by omega))
  by_cases h1 : x1 = r.id
  case neg =>
    have hF : Hid (lawB pl r (x1, x2) = false) := Lib.hid (by unfold lawB; rw [decide_eq_false h1]; rfl)
    have d1 : (x1 != r.id) = true := by simpa using h1
    clear K1
    go_enter Try.func38, Try.ntmps38
    go_wp2_with fail
    go_ret
    exact ⟨ret_bool hF.out.symm, (((Below.refl _ _).alloc (Nat.le_refl _) _).alloc (by simp) _).alloc (by simp; try omega) _⟩
  have d1 : (x1 != r.id) = false := by simpa using h1
  by_cases h2 : 0 ≤ x2
  case neg =>
    have hF : Hid (lawB pl r (x1, x2) = false) := Lib.hid (by unfold lawB; rw [decide_eq_false h2]; simp)
    have d2 : decide (x2 < 0) = true := decide_eq_true (by omega)
    clear K1 h1
    go_enter Try.func38, Try.ntmps38
    go_wp2_with fail
    go_ret
    exact ⟨ret_bool hF.out.symm, (((Below.refl _ _).alloc (Nat.le_refl _) _).alloc (by simp) _).alloc (by simp; try omega) _⟩
  have d2 : decide (x2 < 0) = false := decide_eq_false (by omega)
  by_cases h3 : x2 ≤ 1125899906842624
  case neg =>
    have hF : Hid (lawB pl r (x1, x2) = false) := Lib.hid (by unfold lawB; rw [decide_eq_false h3]; simp)
    have d3 : decide ((1125899906842624 : Int) < x2) = true := decide_eq_true (by omega)
    clear K1 h1
    go_enter Try.func38, Try.ntmps38
    go_wp2_with fail
    go_ret
    exact ⟨ret_bool hF.out.symm, (((Below.refl _ _).alloc (Nat.le_refl _) _).alloc (by simp) _).alloc (by simp; try omega) _⟩
  have d3 : decide ((1125899906842624 : Int) < x2) = false := decide_eq_false (by omega)
  obtain ⟨m, hm⟩ : ∃ m, m = max 0 r.rate := ⟨_, rfl⟩
  have e2 : max 0 r.rate = m := hm.symm
  have e3 : (if r.rate < 0 then 0 else r.rate) = m := by rw [hm]; split <;> omega
  have e4 : (if (0 : Int) < r.rate then r.rate else 0) = m := by rw [hm]; split <;> omega
  by_cases h4 : x2 ≤ m
  case neg =>
    have hF : Hid (lawB pl r (x1, x2) = false) := Lib.hid (by unfold lawB; rw [← hm, decide_eq_false h4]; simp)
    have d4 : decide (m < x2) = true := decide_eq_true (by omega)
    clear K1 h1 hm
    go_enter Try.func38, Try.ntmps38
    go_wp2_with fail
    go_ret
    exact ⟨ret_bool hF.out.symm, (((Below.refl _ _).alloc (Nat.le_refl _) _).alloc (by simp) _).alloc (by simp; try omega) _⟩
  have d4 : decide (m < x2) = false := decide_eq_false (by omega)
  have hF : lawB pl r (x1, x2) = (decide (x2 = 0) || isPl pl r.place) := by
    unfold lawB
    rw [← hm, decide_eq_true h1, decide_eq_true h2, decide_eq_true h3, decide_eq_true h4]; rfl
  clear h1 hm
  by_cases h5 : x2 = 0
  · have hF : Hid (lawB pl r (x1, x2) = true) := Lib.hid (by rw [hF, decide_eq_true h5]; rfl)
    have d5 : (x2 == 0) = true := by simpa using h5
    have h5 := Lib.hid h5
    clear K1
    go_enter Try.func38, Try.ntmps38
    go_wp2_with fail
    go_ret
    exact ⟨ret_bool hF.out.symm, (((Below.refl _ _).alloc (Nat.le_refl _) _).alloc (by simp) _).alloc (by simp; try omega) _⟩
  · have hF : Hid (lawB pl r (x1, x2) = isPl pl r.place) := Lib.hid (by rw [hF, decide_eq_false h5]; rfl)
    have d5 : (x2 == 0) = false := by simpa using h5
    go_enter Try.func38, Try.ntmps38
    go_wp2_with (first | (go_at_call 28; ((with_reducible refine (K1.out _).mono ?_); rintro e1 w1 ⟨rfl, hb1⟩)) | fail)
    go_ret
    exact ⟨ret_bool hF.out.symm, ((((Below.refl _ _).alloc (Nat.le_refl _) _).alloc (by simp) _).alloc (by simp; try omega) _).trans (hb1.mono (by simp; omega))⟩
end Go.Proofs.Ytkbceeobnbbfbaa
