/- RightTells: for every input the law answers true. (Printed by gen_l2.py.) -/
import Derived.Test.YtchmplnkddgncaaDoorRW14
set_option linter.unusedSimpArgs false
set_option linter.unusedVariables false
namespace Go.Proofs.YtchmplnkddgncaaDoor
open Go.RowKit CM RG
attribute [local go_sem] alloc_drewN setCell_drewN shape_drewN

theorem sameL_refl {α : Type} [DecidableEq α] (A : List α) : SameL A A = true := by unfold SameL; exact decide_eq_true rfl
set_option maxRecDepth 100000 in
set_option maxHeartbeats 8000000 in
theorem tells_any (X : Bas) (pl : Pl) (r : Rt) (l : List Rt) (L : List Dl) (C D : Option Addr) (cc dc : Nat) (day known : Int) (w : World) (hM : Months w) (hl2 : pl.length ≤ 9223372036854775807) (hl1 : X.l1 ≤ 9223372036854775807) (hr : RtIn r)
    (hC : RightsAt w w.heap.size C l) (hll : l.length ≤ 9223372036854775807) (hli : ∀ x ∈ l, RtIn x) (hD : DealsAt w w.heap.size D L) (hLl : L.length ≤ 9223372036854775807) (hI : DlsIn L) :
    Calls Tryd.prog 3 #[.agg #[.string X.nm, .slice X.a1 X.l1 X.c1, .int .i64 X.cl, .slice X.P pl.length X.cP, .slice X.a4 X.l4 X.c4, .slice X.a5 X.l5 X.c5, .slice X.a6 X.l6 X.c6, .slice X.a7 X.l7 X.c7, .slice X.a8 X.l8 X.c8, .slice X.a9 X.l9 X.c9, .int .i64 X.er], .agg #[.int .i64 r.id, .int .i64 r.owner, .int .i64 r.date, .int .i64 r.place, .int .i64 r.rate, .int .i64 r.from1, .int .i64 r.until1, .int .i64 r.back, .int .i64 r.backTo], .slice C l.length cc, .slice D L.length dc, .int .i64 day, .int .i64 known] w (BoolIs true w) := by
  have K0 := Lib.hid (fun wx (h : Below w.heap.size w wx) => small_any wx (hM.below hM.pos h))
  have hB0 : Below w.heap.size w ((w.alloc (.cells #[.string X.nm, .slice X.a1 X.l1 X.c1, .int .i64 X.cl, .slice X.P pl.length X.cP, .slice X.a4 X.l4 X.c4, .slice X.a5 X.l5 X.c5, .slice X.a6 X.l6 X.c6, .slice X.a7 X.l7 X.c7, .slice X.a8 X.l8 X.c8, .slice X.a9 X.l9 X.c9, .int .i64 X.er] 31)).alloc (.cells #[.int .i64 r.id, .int .i64 r.owner, .int .i64 r.date, .int .i64 r.place, .int .i64 r.rate, .int .i64 r.from1, .int .i64 r.until1, .int .i64 r.back, .int .i64 r.backTo] 33)) := (below_new _ _).alloc (by simp) _
  have hbx0 : BoxR ((w.alloc (.cells #[.string X.nm, .slice X.a1 X.l1 X.c1, .int .i64 X.cl, .slice X.P pl.length X.cP, .slice X.a4 X.l4 X.c4, .slice X.a5 X.l5 X.c5, .slice X.a6 X.l6 X.c6, .slice X.a7 X.l7 X.c7, .slice X.a8 X.l8 X.c8, .slice X.a9 X.l9 X.c9, .int .i64 X.er] 31)).alloc (.cells #[.int .i64 r.id, .int .i64 r.owner, .int .i64 r.date, .int .i64 r.place, .int .i64 r.rate, .int .i64 r.from1, .int .i64 r.until1, .int .i64 r.back, .int .i64 r.backTo] 33)) w.heap.size X pl := (Below.heap_alloc _ _ _ (by simp)).trans (heap_alloc_new w _)
  have hbr0 : BoxRt ((w.alloc (.cells #[.string X.nm, .slice X.a1 X.l1 X.c1, .int .i64 X.cl, .slice X.P pl.length X.cP, .slice X.a4 X.l4 X.c4, .slice X.a5 X.l5 X.c5, .slice X.a6 X.l6 X.c6, .slice X.a7 X.l7 X.c7, .slice X.a8 X.l8 X.c8, .slice X.a9 X.l9 X.c9, .int .i64 X.er] 31)).alloc (.cells #[.int .i64 r.id, .int .i64 r.owner, .int .i64 r.date, .int .i64 r.place, .int .i64 r.rate, .int .i64 r.from1, .int .i64 r.until1, .int .i64 r.back, .int .i64 r.backTo] 33)) (w.heap.size + 1) r := by
    have h := heap_alloc_new (w.alloc (.cells #[.string X.nm, .slice X.a1 X.l1 X.c1, .int .i64 X.cl, .slice X.P pl.length X.cP, .slice X.a4 X.l4 X.c4, .slice X.a5 X.l5 X.c5, .slice X.a6 X.l6 X.c6, .slice X.a7 X.l7 X.c7, .slice X.a8 X.l8 X.c8, .slice X.a9 X.l9 X.c9, .int .i64 X.er] 31)) (.cells #[.int .i64 r.id, .int .i64 r.owner, .int .i64 r.date, .int .i64 r.place, .int .i64 r.rate, .int .i64 r.from1, .int .i64 r.until1, .int .i64 r.back, .int .i64 r.backTo] 33)
    rw [World.size_alloc] at h
    exact h
  have hs0 : ((w.alloc (.cells #[.string X.nm, .slice X.a1 X.l1 X.c1, .int .i64 X.cl, .slice X.P pl.length X.cP, .slice X.a4 X.l4 X.c4, .slice X.a5 X.l5 X.c5, .slice X.a6 X.l6 X.c6, .slice X.a7 X.l7 X.c7, .slice X.a8 X.l8 X.c8, .slice X.a9 X.l9 X.c9, .int .i64 X.er] 31)).alloc (.cells #[.int .i64 r.id, .int .i64 r.owner, .int .i64 r.date, .int .i64 r.place, .int .i64 r.rate, .int .i64 r.from1, .int .i64 r.until1, .int .i64 r.back, .int .i64 r.backTo] 33)).heap.size = w.heap.size + 1 + 1 := by simp
  by_cases hall : l.length ≤ 40 ∧ L.length ≤ 40
  case neg =>
    have key : 40 < l.length ∨ (¬ 40 < l.length ∧ 40 < L.length) := by omega
    clear hall
    rcases key with q | ⟨q1, q2⟩
    all_goals
      go_enter Tryd.func3, Tryd.ntmps3
      go_wp2_with fail
      go_at_call 8
      (with_reducible refine (K0.out _ hB0).mono ?_)
      rintro e1 w1 ⟨rfl, hb1⟩
      go_wp2_with fail
      go_ret
      exact ⟨rfl, hB0.trans (hb1.mono (by omega))⟩
  obtain ⟨q1, q2⟩ := hall
  obtain ⟨rv, hrv⟩ : ∃ rv, rightB X.l1 pl.length r = rv := ⟨_, rfl⟩
  obtain ⟨sv, hsv⟩ : ∃ sv, seasonB r day = sv := ⟨_, rfl⟩
  obtain ⟨OL, hOL⟩ : ∃ O, orderR l = O := ⟨_, rfl⟩
  obtain ⟨RL, hRL⟩ : ∃ R, rosterR X.l1 pl.length day known L = R := ⟨_, rfl⟩
  have hol : OL.length ≤ 40 := by rw [← hOL, order_len]; exact q1
  have hrl : RL.length ≤ 40 := by rw [← hRL]; exact Nat.le_trans roster_len q2
  have KR : Hid (∀ wx, Below w.heap.size w wx → Calls Tryd.prog 9 #[.agg #[.string X.nm, .slice X.a1 X.l1 X.c1, .int .i64 X.cl, .slice X.P pl.length X.cP, .slice X.a4 X.l4 X.c4, .slice X.a5 X.l5 X.c5, .slice X.a6 X.l6 X.c6, .slice X.a7 X.l7 X.c7, .slice X.a8 X.l8 X.c8, .slice X.a9 X.l9 X.c9, .int .i64 X.er], .agg #[.int .i64 r.id, .int .i64 r.owner, .int .i64 r.date, .int .i64 r.place, .int .i64 r.rate, .int .i64 r.from1, .int .i64 r.until1, .int .i64 r.back, .int .i64 r.backTo]] wx (BoolIs rv wx)) := fun wx h => by rw [← hrv]; exact right_any X pl r wx (hM.below hM.pos h) hr
  have KRr : Hid (∀ wx, Calls Tryd.prog 10 #[.agg #[.string X.nm, .slice X.a1 X.l1 X.c1, .int .i64 X.cl, .slice X.P pl.length X.cP, .slice X.a4 X.l4 X.c4, .slice X.a5 X.l5 X.c5, .slice X.a6 X.l6 X.c6, .slice X.a7 X.l7 X.c7, .slice X.a8 X.l8 X.c8, .slice X.a9 X.l9 X.c9, .int .i64 X.er], .agg #[.int .i64 r.id, .int .i64 r.owner, .int .i64 r.date, .int .i64 r.place, .int .i64 r.rate, .int .i64 r.from1, .int .i64 r.until1, .int .i64 r.back, .int .i64 r.backTo]] wx (BoolIs rv wx)) := fun wx => by rw [← hrv]; exact rright_any X pl r wx hl1 hl2
  have KS : Hid (∀ wx, Below w.heap.size w wx → Calls Tryd.prog 11 #[.agg #[.int .i64 r.id, .int .i64 r.owner, .int .i64 r.date, .int .i64 r.place, .int .i64 r.rate, .int .i64 r.from1, .int .i64 r.until1, .int .i64 r.back, .int .i64 r.backTo], .int .i64 day] wx (BoolIs sv wx)) := fun wx h => by rw [← hsv]; exact season_any r day wx (hM.below hM.pos h) hr
  have KSr : Hid (∀ wx, Calls Tryd.prog 12 #[.agg #[.int .i64 r.id, .int .i64 r.owner, .int .i64 r.date, .int .i64 r.place, .int .i64 r.rate, .int .i64 r.from1, .int .i64 r.until1, .int .i64 r.back, .int .i64 r.backTo], .int .i64 day] wx (BoolIs sv wx)) := fun wx => by rw [← hsv]; exact rseason_any r day wx hr
  have KO : Hid (∀ wx, Below w.heap.size w wx → Calls Tryd.prog 14 #[.slice C l.length cc] wx (fun e w' => ∃ C cc, e = .returned (.slice C OL.length cc) ∧ RightsAt w' w'.heap.size C OL ∧ Below wx.heap.size wx w')) := fun wx h => by
    have := (order_any l C cc wx (hC.below h) h.size (by omega)).mono (fun e w' ⟨C, cc, h1, _, h2, h3⟩ => (⟨C, cc, h1, h2, h3⟩ : ∃ C cc, e = Ending.returned (.slice C _ cc) ∧ RightsAt w' w'.heap.size C _ ∧ Below wx.heap.size wx w'))
    rw [hOL] at this
    exact this
  have KOr : Hid (∀ wx, Below w.heap.size w wx → Calls Tryd.prog 15 #[.slice C l.length cc] wx (fun e w' => ∃ C cc, e = .returned (.slice C OL.length cc) ∧ RightsAt w' w'.heap.size C OL ∧ Below wx.heap.size wx w')) := fun wx h => by
    have := (rorder_any l C cc wx (hC.below h) h.size (by omega)).mono (fun e w' ⟨C, cc, h1, _, h2, h3⟩ => (⟨C, cc, h1, h2, h3⟩ : ∃ C cc, e = Ending.returned (.slice C _ cc) ∧ RightsAt w' w'.heap.size C _ ∧ Below wx.heap.size wx w'))
    rw [hOL] at this
    exact this
  have KT : Hid (∀ wx, Below w.heap.size w wx → Calls Tryd.prog 16 #[.agg #[.string X.nm, .slice X.a1 X.l1 X.c1, .int .i64 X.cl, .slice X.P pl.length X.cP, .slice X.a4 X.l4 X.c4, .slice X.a5 X.l5 X.c5, .slice X.a6 X.l6 X.c6, .slice X.a7 X.l7 X.c7, .slice X.a8 X.l8 X.c8, .slice X.a9 X.l9 X.c9, .int .i64 X.er], .slice D L.length dc, .int .i64 day, .int .i64 known] wx (fun e w' => ∃ C cc, e = .returned (.slice C RL.length cc) ∧ RightsAt w' w'.heap.size C RL ∧ Below wx.heap.size wx w')) := fun wx h => by
    have := (roster_any X pl L D dc day known wx (hM.below hM.pos h) (hD.below h) h.size (by omega) hI).mono (fun e w' ⟨C, cc, h1, _, h2, h3⟩ => (⟨C, cc, h1, h2, h3⟩ : ∃ C cc, e = Ending.returned (.slice C _ cc) ∧ RightsAt w' w'.heap.size C _ ∧ Below wx.heap.size wx w'))
    rw [hRL] at this
    exact this
  have KTr : Hid (∀ wx, Below w.heap.size w wx → Calls Tryd.prog 17 #[.agg #[.string X.nm, .slice X.a1 X.l1 X.c1, .int .i64 X.cl, .slice X.P pl.length X.cP, .slice X.a4 X.l4 X.c4, .slice X.a5 X.l5 X.c5, .slice X.a6 X.l6 X.c6, .slice X.a7 X.l7 X.c7, .slice X.a8 X.l8 X.c8, .slice X.a9 X.l9 X.c9, .int .i64 X.er], .slice D L.length dc, .int .i64 day, .int .i64 known] wx (fun e w' => ∃ C cc, e = .returned (.slice C RL.length cc) ∧ RightsAt w' w'.heap.size C RL ∧ Below wx.heap.size wx w')) := fun wx h => by
    have := (rroster_any X pl L D dc day known wx (hD.below h) h.size (by omega) hl1 hl2 hI).mono (fun e w' ⟨C, cc, h1, _, h2, h3⟩ => (⟨C, cc, h1, h2, h3⟩ : ∃ C cc, e = Ending.returned (.slice C _ cc) ∧ RightsAt w' w'.heap.size C _ ∧ Below wx.heap.size wx w'))
    rw [hRL] at this
    exact this
  have KE : Hid (∀ F f G g wx, RightsAt wx wx.heap.size F OL → RightsAt wx wx.heap.size G OL → Calls Tryd.prog 13 #[.slice F OL.length f, .slice G OL.length g] wx (BoolIs true wx)) := fun F f G g wx h1 h2 =>
    (rsame_any OL OL F G f g wx h1 h2 (by omega) (by omega)).mono fun e w' ⟨h3, k, h4⟩ => ⟨by rw [h3, sameL_refl], by rw [h4]; exact below_drewN (Below.refl _ _) k⟩
  have KF : Hid (∀ F f G g wx, RightsAt wx wx.heap.size F RL → RightsAt wx wx.heap.size G RL → Calls Tryd.prog 13 #[.slice F RL.length f, .slice G RL.length g] wx (BoolIs true wx)) := fun F f G g wx h1 h2 =>
    (rsame_any RL RL F G f g wx h1 h2 (by omega) (by omega)).mono fun e w' ⟨h3, k, h4⟩ => ⟨by rw [h3, sameL_refl], by rw [h4]; exact below_drewN (Below.refl _ _) k⟩
  clear hOL hRL hrv hsv hC hD hI hli hr hM
  go_enter Tryd.func3, Tryd.ntmps3
  go_wp2_with fail
  go_at_call 8
  (with_reducible refine (K0.out _ hB0).mono ?_)
  rintro e1 W ⟨rfl, hb1⟩
  have HB := hB0.trans (hb1.mono (by omega))
  obtain ⟨x0, x1, x2, x3, x4, x5, x6, x7, x8, x9, x10⟩ := (hbx0.below hb1 (by omega)).cells
  obtain ⟨r0, r1, r2, r3, r4, r5, r6, r7, r8⟩ := (hbr0.below hb1 (by omega)).cells
  have hz1 := hb1.size
  rw [hs0] at hz1
  have z0 : w.heap.size < W.heap.size := by omega
  have z1 : w.heap.size + 1 < W.heap.size := by omega
  clear hb1 hbx0 hbr0 hs0 hB0
  go_wp2_with fail
  refine Plan.wp_region_tree (.rd 0 (.rd 1 (.rd 2 (.rd 3 (.rd 5 (.rd 6 (.wr 4 (.wr 7 (.rd 8 (.rd 9 (.rd 10 (.rd 11 (.rd 12 (.rd 14 (.rd 15 (.wr 13 (.wr 16 (.rd 17 (.rd 18 (.rd 19 (.rd 20 (.rd 22 (.wr 21 (.wr 23 (.wr 24 (.rd 25 (.rd 26 (.rd 27 (.rd 28 (.rd 29 (.rd 30 (.rd 32 (.rd 33 (.rd 34 (.rd 35 (.wr 31 (.wr 36 (.wr 37 (.rd 38 (.rd 39 .done)))))))))))))))))))))))))))))))))))))))) (by kernel_rfl) (by kernel_rfl) ?_
  (repeat (first | (refine Plan.tree_read (v := ?_) rfl rfl ?_ ?_; rotate_left; (focus ((intro wS hSw; have hkS := (bcell hSw).1; go_simp); try with_reducible rfl)); simp only [Act.put, List.setIfInBounds_toArray, List.set_cons_zero, List.set_cons_succ]) | (refine Plan.tree_skip rfl rfl ?_; simp only [Act.put, List.setIfInBounds_toArray, List.set_cons_zero, List.set_cons_succ])))
  (refine Plan.tree_write rfl (fun K hK => ?_); try go_simp)
  go_at_call 9
  (with_reducible refine (KR.out _ (HB.trans ((Below.refl W.heap.size W).drew.mono HB.size))).mono ?_)
  rintro e4 w4 ⟨rfl, hb4⟩
  have k4 : Below W.heap.size W w4 := (Below.refl W.heap.size W).drew.trans (hb4.mono (Below.refl W.heap.size W).drew.size)
  (refine hK.out _ _ (k4) ?_; clear hK K; try simp only [Act.put, List.setIfInBounds_toArray, List.set_cons_zero, List.set_cons_succ])
  (repeat (first | (refine Plan.tree_read (v := ?_) rfl rfl ?_ ?_; rotate_left; (focus ((intro wS hSw; have hkS := (bcell hSw).1; go_simp); try with_reducible rfl)); simp only [Act.put, List.setIfInBounds_toArray, List.set_cons_zero, List.set_cons_succ]) | (refine Plan.tree_skip rfl rfl ?_; simp only [Act.put, List.setIfInBounds_toArray, List.set_cons_zero, List.set_cons_succ])))
  (refine Plan.tree_write rfl (fun K hK => ?_); try go_simp)
  go_at_call 10
  (with_reducible refine (KRr.out _).mono ?_)
  rintro e7 w7 ⟨rfl, hb7⟩
  have k7 : Below W.heap.size W w7 := k4.trans (hb7.mono k4.size)
  (refine hK.out _ _ (k7) ?_; clear hK K; try simp only [Act.put, List.setIfInBounds_toArray, List.set_cons_zero, List.set_cons_succ])
  (repeat (first | (refine Plan.tree_read (v := ?_) rfl rfl ?_ ?_; rotate_left; (focus ((intro wS hSw; have hkS := (bcell hSw).1; go_simp); try with_reducible rfl)); simp only [Act.put, List.setIfInBounds_toArray, List.set_cons_zero, List.set_cons_succ]) | (refine Plan.tree_skip rfl rfl ?_; simp only [Act.put, List.setIfInBounds_toArray, List.set_cons_zero, List.set_cons_succ])))
  (refine Plan.tree_write rfl (fun K hK => ?_); try go_simp)
  go_at_call 11
  (with_reducible refine (KS.out _ (HB.trans (k7.mono HB.size))).mono ?_)
  rintro e13 w13 ⟨rfl, hb13⟩
  have k13 : Below W.heap.size W w13 := k7.trans (hb13.mono k7.size)
  (refine hK.out _ _ (k13) ?_; clear hK K; try simp only [Act.put, List.setIfInBounds_toArray, List.set_cons_zero, List.set_cons_succ])
  (repeat (first | (refine Plan.tree_read (v := ?_) rfl rfl ?_ ?_; rotate_left; (focus ((intro wS hSw; have hkS := (bcell hSw).1; go_simp); try with_reducible rfl)); simp only [Act.put, List.setIfInBounds_toArray, List.set_cons_zero, List.set_cons_succ]) | (refine Plan.tree_skip rfl rfl ?_; simp only [Act.put, List.setIfInBounds_toArray, List.set_cons_zero, List.set_cons_succ])))
  (refine Plan.tree_write rfl (fun K hK => ?_); try go_simp)
  go_at_call 12
  (with_reducible refine (KSr.out _).mono ?_)
  rintro e16 w16 ⟨rfl, hb16⟩
  have k16 : Below W.heap.size W w16 := k13.trans (hb16.mono k13.size)
  (refine hK.out _ _ (k16) ?_; clear hK K; try simp only [Act.put, List.setIfInBounds_toArray, List.set_cons_zero, List.set_cons_succ])
  (repeat (first | (refine Plan.tree_read (v := ?_) rfl rfl ?_ ?_; rotate_left; (focus ((intro wS hSw; have hkS := (bcell hSw).1; go_simp); try with_reducible rfl)); simp only [Act.put, List.setIfInBounds_toArray, List.set_cons_zero, List.set_cons_succ]) | (refine Plan.tree_skip rfl rfl ?_; simp only [Act.put, List.setIfInBounds_toArray, List.set_cons_zero, List.set_cons_succ])))
  (refine Plan.tree_write rfl (fun K hK => ?_); try go_simp)
  go_at_call 14
  (with_reducible refine (KO.out _ (HB.trans (k16.mono HB.size))).mono ?_)
  rintro e21 w21 ⟨F1, f1, rfl, hF1, hb21⟩
  have k21 : Below W.heap.size W w21 := k16.trans (hb21.mono k16.size)
  (refine hK.out _ _ (k21) ?_; clear hK K; try simp only [Act.put, List.setIfInBounds_toArray, List.set_cons_zero, List.set_cons_succ])
  (repeat (first | (refine Plan.tree_read (v := ?_) rfl rfl ?_ ?_; rotate_left; (focus ((intro wS hSw; have hkS := (bcell hSw).1; go_simp); try with_reducible rfl)); simp only [Act.put, List.setIfInBounds_toArray, List.set_cons_zero, List.set_cons_succ]) | (refine Plan.tree_skip rfl rfl ?_; simp only [Act.put, List.setIfInBounds_toArray, List.set_cons_zero, List.set_cons_succ])))
  (refine Plan.tree_write rfl (fun K hK => ?_); try go_simp)
  go_at_call 15
  (with_reducible refine (KOr.out _ (HB.trans (k21.mono HB.size))).mono ?_)
  rintro e23 w23 ⟨F2, f2, rfl, hF2, hb23⟩
  have k23 : Below W.heap.size W w23 := k21.trans (hb23.mono k21.size)
  have hF1' := (RightsAt.below hF1 hb23).more hb23.size
  (refine hK.out _ _ (k23) ?_; clear hK K; try simp only [Act.put, List.setIfInBounds_toArray, List.set_cons_zero, List.set_cons_succ])
  (repeat (first | (refine Plan.tree_read (v := ?_) rfl rfl ?_ ?_; rotate_left; (focus ((intro wS hSw; have hkS := (bcell hSw).1; go_simp); try with_reducible rfl)); simp only [Act.put, List.setIfInBounds_toArray, List.set_cons_zero, List.set_cons_succ]) | (refine Plan.tree_skip rfl rfl ?_; simp only [Act.put, List.setIfInBounds_toArray, List.set_cons_zero, List.set_cons_succ])))
  (refine Plan.tree_write rfl (fun K hK => ?_); try go_simp)
  go_at_call 13
  (with_reducible refine (KE.out _ _ _ _ _ hF1' hF2).mono ?_)
  rintro e24 w24 ⟨rfl, hb24⟩
  have k24 : Below W.heap.size W w24 := k23.trans (hb24.mono k23.size)
  (refine hK.out _ _ (k24) ?_; clear hK K; try simp only [Act.put, List.setIfInBounds_toArray, List.set_cons_zero, List.set_cons_succ])
  (repeat (first | (refine Plan.tree_read (v := ?_) rfl rfl ?_ ?_; rotate_left; (focus ((intro wS hSw; have hkS := (bcell hSw).1; go_simp); try with_reducible rfl)); simp only [Act.put, List.setIfInBounds_toArray, List.set_cons_zero, List.set_cons_succ]) | (refine Plan.tree_skip rfl rfl ?_; simp only [Act.put, List.setIfInBounds_toArray, List.set_cons_zero, List.set_cons_succ])))
  (refine Plan.tree_write rfl (fun K hK => ?_); try go_simp)
  go_at_call 16
  (with_reducible refine (KT.out _ (HB.trans (k24.mono HB.size))).mono ?_)
  rintro e31 w31 ⟨G1, g1, rfl, hG1, hb31⟩
  have k31 : Below W.heap.size W w31 := k24.trans (hb31.mono k24.size)
  (refine hK.out _ _ (k31) ?_; clear hK K; try simp only [Act.put, List.setIfInBounds_toArray, List.set_cons_zero, List.set_cons_succ])
  (repeat (first | (refine Plan.tree_read (v := ?_) rfl rfl ?_ ?_; rotate_left; (focus ((intro wS hSw; have hkS := (bcell hSw).1; go_simp); try with_reducible rfl)); simp only [Act.put, List.setIfInBounds_toArray, List.set_cons_zero, List.set_cons_succ]) | (refine Plan.tree_skip rfl rfl ?_; simp only [Act.put, List.setIfInBounds_toArray, List.set_cons_zero, List.set_cons_succ])))
  (refine Plan.tree_write rfl (fun K hK => ?_); try go_simp)
  go_at_call 17
  (with_reducible refine (KTr.out _ (HB.trans (k31.mono HB.size))).mono ?_)
  rintro e36 w36 ⟨G2, g2, rfl, hG2, hb36⟩
  have k36 : Below W.heap.size W w36 := k31.trans (hb36.mono k31.size)
  have hG1' := (RightsAt.below hG1 hb36).more hb36.size
  (refine hK.out _ _ (k36) ?_; clear hK K; try simp only [Act.put, List.setIfInBounds_toArray, List.set_cons_zero, List.set_cons_succ])
  (repeat (first | (refine Plan.tree_read (v := ?_) rfl rfl ?_ ?_; rotate_left; (focus ((intro wS hSw; have hkS := (bcell hSw).1; go_simp); try with_reducible rfl)); simp only [Act.put, List.setIfInBounds_toArray, List.set_cons_zero, List.set_cons_succ]) | (refine Plan.tree_skip rfl rfl ?_; simp only [Act.put, List.setIfInBounds_toArray, List.set_cons_zero, List.set_cons_succ])))
  (refine Plan.tree_write rfl (fun K hK => ?_); try go_simp)
  go_at_call 13
  (with_reducible refine (KF.out _ _ _ _ _ hG1' hG2).mono ?_)
  rintro e37 w37 ⟨rfl, hb37⟩
  have k37 : Below W.heap.size W w37 := k36.trans (hb37.mono k36.size)
  (refine hK.out _ _ (k37) ?_; clear hK K; try simp only [Act.put, List.setIfInBounds_toArray, List.set_cons_zero, List.set_cons_succ])
  (repeat (first | (refine Plan.tree_read (v := ?_) rfl rfl ?_ ?_; rotate_left; (focus ((intro wS hSw; have hkS := (bcell hSw).1; go_simp); try with_reducible rfl)); simp only [Act.put, List.setIfInBounds_toArray, List.set_cons_zero, List.set_cons_succ]) | (refine Plan.tree_skip rfl rfl ?_; simp only [Act.put, List.setIfInBounds_toArray, List.set_cons_zero, List.set_cons_succ])))
  refine Plan.tree_done ?_
  go_wp2_with fail
  go_ret
  exact ⟨rfl, HB.trans (k37.mono HB.size)⟩
end Go.Proofs.YtchmplnkddgncaaDoor
