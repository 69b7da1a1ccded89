/- The walk of call.short. -/
import Derived.Test.YtkbceeobnbbfbaaW4
import Derived.Test.YtkbceeobnbbfbaaPlanB
set_option linter.unusedSimpArgs false
set_option linter.unusedVariables false
namespace Go.Proofs.Ytkbceeobnbbfbaa
open Go.RowKit CM
attribute [local go_sem] alloc_drewN setCell_drewN shape_drewN

theorem rtN_of {R : List Rt} {k : Nat} {r : Rt} (h : R[k]? = some r) : rtN R k = r := by unfold rtN; rw [List.getD_eq_getElem?_getD, h]; rfl
set_option maxHeartbeats 2000000 in
theorem short_any (X : Bas) (pl : Pl) (R : List Rt) (G : List (Int × Int)) (C : Option Addr) (cr : Nat) (D : Option Addr) (cg : Nat) (k : Nat) (w : World) {B : Nat} (hR : RightsAt w B C R) (hG : PairsAt w B D G) (hB : B ≤ w.heap.size)
    (hl : pl.length ≤ 1000000) (hr : R.length ≤ 1000000) (hg : G.length ≤ 1000000) (hk : k < R.length) :
    Calls Try.prog 31 #[.agg #[.string X.nm, .slice X.a1 X.l1 X.c1, .int .i64 X.cl, .slice X.P pl.length X.cP, .slice X.a4 X.l4 X.c4, .slice X.a5 X.l5 X.c5, .slice X.a6 X.l6 X.c6, .slice X.a7 X.l7 X.c7, .slice X.a8 X.l8 X.c8, .slice X.a9 X.l9 X.c9, .int .i64 X.er], .slice C R.length cr, .slice D G.length cg, .int .i64 k] w (BoolIs (shortF pl R G k) w) := by
  obtain ⟨r, hx⟩ : ∃ r, R[k]? = some r := ⟨_, List.getElem?_eq_getElem hk⟩
  obtain ⟨b, off, rfl, hb, r0, r1, r2, r3, r4, _⟩ := hR.at_ hx
  have hrt := rtN_of hx
  have hbw : b < w.heap.size := by omega
  have hbw2 : b ≤ w.heap.size := by omega
  clear hx
  by_cases h1 : k < G.length
  · obtain ⟨x, hy⟩ : ∃ x, G[k]? = some x := ⟨_, List.getElem?_eq_getElem h1⟩
    obtain ⟨b2, off2, rfl, hb2, c0, c1⟩ := hG.at_ hy
    have hcw : b2 < w.heap.size := by omega
    have hcw2 : b2 ≤ w.heap.size := by omega
    have hgt := gotG_of hy
    clear hy
    have hF : shortF pl R G k = (decide (x.2 < r.rate) && isPl pl r.place) := by
      unfold shortF rateR; rw [decide_eq_true h1, hgt, hrt]; rfl
    by_cases h2 : x.2 < r.rate
    · have hF : Hid (shortF pl R G k = isPl pl r.place) := Lib.hid (by rw [hF, decide_eq_true h2]; rfl)
      have d2 : decide (x.2 < r.rate) = true := decide_eq_true h2
      have K1 := Lib.hid (fun wx => cisPlace_any X pl r.place wx (by omega))
      clear hrt hgt
      go_enter Try.func31, Try.ntmps31
      go_wp2_with fail
      refine Plan.wp_region_below 26 [(0, true), (1, true), (2, true), (3, true), (4, true), (5, true), (6, true), (7, true), (8, true), (9, true), (10, true), (11, true), (12, true), (13, true), (14, true), (15, true), (16, true), (17, true), (18, true), (19, true), (20, true), (21, true), (22, true), (23, true), (24, false), (25, true), (26, false)] (by kernel_rfl) (by kernel_rfl) ?_
      (repeat (first | (refine Plan.plan_read (v := ?_) rfl rfl ?_ ?_; rotate_left; (focus ((intro wS hSw; have hkS := (bcell hSw).1; try (have hkT := fun (b o : Nat) (h : b < w.heap.size) => hkS b o (by first | omega | (simp; omega) | (simp; done))); go_simp); try with_reducible rfl)); simp only [Act.put, List.setIfInBounds_toArray, List.set_cons_zero, List.set_cons_succ]) | (refine Plan.plan_skip rfl rfl ?_; simp only [Act.put, List.setIfInBounds_toArray, List.set_cons_zero, List.set_cons_succ])))
      refine Plan.plan_write rfl (fun K hK => ?_)
      go_simp
      go_at_call 28
      (with_reducible refine (K1.out _).mono ?_)
      rintro e1 w1 ⟨rfl, hb1⟩
      have kB := Plan.below_drew_go hb1
      go_simp
      refine hK.out _ _ kB ?_
      clear hK K
      try simp only [Act.put, List.setIfInBounds_toArray, List.set_cons_zero, List.set_cons_succ]
      (repeat (first | (refine Plan.plan_read (v := ?_) rfl rfl ?_ ?_; rotate_left; (focus ((intro wS hSw; have hkS := (bcell hSw).1; try (have hkT := fun (b o : Nat) (h : b < w.heap.size) => hkS b o (by first | omega | (simp; omega) | (simp; done))); go_simp); try with_reducible rfl)); simp only [Act.put, List.setIfInBounds_toArray, List.set_cons_zero, List.set_cons_succ]) | (refine Plan.plan_skip rfl rfl ?_; simp only [Act.put, List.setIfInBounds_toArray, List.set_cons_zero, List.set_cons_succ])))
      refine Plan.plan_last rfl (fun K hK => ?_)
      go_simp
      refine hK.out _ _ ?_
      clear hK K
      try simp only [Act.put, List.setIfInBounds_toArray, List.set_cons_zero, List.set_cons_succ]
      go_wp2_with fail
      go_ret
      exact ⟨ret_bool hF.out.symm, ((Below.refl _ _).alloc (Nat.le_refl _) _).trans (kB.mono (by simp))⟩
    · have hF : Hid (shortF pl R G k = false) := Lib.hid (by rw [hF, decide_eq_false h2]; rfl)
      have d2 : decide (x.2 < r.rate) = false := decide_eq_false h2
      have d3 : r.rate ≤ x.2 := by omega
      have d4 : decide (r.rate ≤ x.2) = true := decide_eq_true d3
      clear hrt hgt
      go_enter Try.func31, Try.ntmps31
      go_wp2_with fail
      refine Plan.wp_region_below 26 [(0, true), (1, true), (2, true), (3, true), (4, true), (5, true), (6, true), (7, true), (8, true), (9, true), (10, true), (11, true), (12, true), (13, true), (14, true), (15, true), (16, true), (17, true), (18, true), (19, true), (20, true), (21, true), (22, true), (23, true), (24, true), (25, true), (26, false)] (by kernel_rfl) (by kernel_rfl) ?_
      (repeat (first | (refine Plan.plan_read (v := ?_) rfl rfl ?_ ?_; rotate_left; (focus ((intro wS hSw; have hkS := (bcell hSw).1; try (have hkT := fun (b o : Nat) (h : b < w.heap.size) => hkS b o (by first | omega | (simp; omega) | (simp; done))); go_simp); try with_reducible rfl)); simp only [Act.put, List.setIfInBounds_toArray, List.set_cons_zero, List.set_cons_succ]) | (refine Plan.plan_skip rfl rfl ?_; simp only [Act.put, List.setIfInBounds_toArray, List.set_cons_zero, List.set_cons_succ])))
      refine Plan.plan_last rfl (fun K hK => ?_)
      go_simp
      refine hK.out _ _ ?_
      clear hK K
      try simp only [Act.put, List.setIfInBounds_toArray, List.set_cons_zero, List.set_cons_succ]
      go_wp2_with fail
      go_ret
      exact ⟨ret_bool hF.out.symm, ((Below.refl _ _).alloc (Nat.le_refl _) _).drew⟩
  · have hF : Hid (shortF pl R G k = false) := Lib.hid (by unfold shortF; rw [decide_eq_false h1]; rfl)
    have d1 : decide (k < G.length) = false := decide_eq_false h1
    clear hrt
    go_enter Try.func31, Try.ntmps31
    go_wp2_with fail
    refine Plan.wp_region_below 26 [(0, true), (1, true), (2, true), (3, true), (4, true), (5, true), (6, true), (7, true), (8, true), (9, true), (10, true), (11, true), (12, true), (13, true), (14, true), (15, true), (16, true), (17, true), (18, true), (19, true), (20, true), (21, true), (22, true), (23, true), (24, true), (25, true), (26, false)] (by kernel_rfl) (by kernel_rfl) ?_
    (repeat (first | (refine Plan.plan_read (v := ?_) rfl rfl ?_ ?_; rotate_left; (focus ((intro wS hSw; have hkS := (bcell hSw).1; try (have hkT := fun (b o : Nat) (h : b < w.heap.size) => hkS b o (by first | omega | (simp; omega) | (simp; done))); go_simp); try with_reducible rfl)); simp only [Act.put, List.setIfInBounds_toArray, List.set_cons_zero, List.set_cons_succ]) | (refine Plan.plan_skip rfl rfl ?_; simp only [Act.put, List.setIfInBounds_toArray, List.set_cons_zero, List.set_cons_succ])))
    refine Plan.plan_last rfl (fun K hK => ?_)
    go_simp
    refine hK.out _ _ ?_
    clear hK K
    try simp only [Act.put, List.setIfInBounds_toArray, List.set_cons_zero, List.set_cons_succ]
    go_wp2_with fail
    go_ret
    exact ⟨ret_bool hF.out.symm, ((Below.refl _ _).alloc (Nat.le_refl _) _).drew⟩
end Go.Proofs.Ytkbceeobnbbfbaa
