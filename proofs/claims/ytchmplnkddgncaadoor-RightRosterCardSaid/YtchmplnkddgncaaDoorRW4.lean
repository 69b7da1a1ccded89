/- Walks of applies and change. -/
import Derived.Test.YtchmplnkddgncaaDoorRW3
set_option linter.unusedSimpArgs false
set_option linter.unusedVariables false
namespace Go.Proofs.YtchmplnkddgncaaDoor
open Go.RowKit CM RG
attribute [local go_sem] alloc_drewN setCell_drewN shape_drewN

set_option maxHeartbeats 8000000 in
theorem applies_any (X : Bas) (pl : Pl) (d : Dl) (day : Int) (w : World) (hM : Months w) (hr : RtIn d.right) : Calls Tryd.prog 34 #[.agg #[.string X.nm, .slice X.a1 X.l1 X.c1, .int .i64 X.cl, .slice X.P pl.length X.cP, .slice X.a4 X.l4 X.c4, .slice X.a5 X.l5 X.c5, .slice X.a6 X.l6 X.c6, .slice X.a7 X.l7 X.c7, .slice X.a8 X.l8 X.c8, .slice X.a9 X.l9 X.c9, .int .i64 X.er], .agg #[.int .i64 d.kind, .int .i64 d.known, .int .i64 d.right.id, .int .i64 d.right.owner, .int .i64 d.right.date, .int .i64 d.right.place, .int .i64 d.right.rate, .int .i64 d.right.from1, .int .i64 d.right.until1, .int .i64 d.right.back, .int .i64 d.right.backTo, .int .i64 d.from1, .int .i64 d.until1], .int .i64 day] w (BoolIs (appB X.l1 pl.length day d) w) := by
  have hB0 : Below w.heap.size w ((w.alloc (.cells (Value.cells (.agg #[.string X.nm, .slice X.a1 X.l1 X.c1, .int .i64 X.cl, .slice X.P pl.length X.cP, .slice X.a4 X.l4 X.c4, .slice X.a5 X.l5 X.c5, .slice X.a6 X.l6 X.c6, .slice X.a7 X.l7 X.c7, .slice X.a8 X.l8 X.c8, .slice X.a9 X.l9 X.c9, .int .i64 X.er])) 31)).alloc (.cells (Value.cells (.agg #[.int .i64 d.kind, .int .i64 d.known, .int .i64 d.right.id, .int .i64 d.right.owner, .int .i64 d.right.date, .int .i64 d.right.place, .int .i64 d.right.rate, .int .i64 d.right.from1, .int .i64 d.right.until1, .int .i64 d.right.back, .int .i64 d.right.backTo, .int .i64 d.from1, .int .i64 d.until1])) 44)) := ((Below.refl _ _).alloc (Nat.le_refl _) _).alloc (by simp) _
  simp only [Value.cells] at hB0
  have HR : Hid (appB X.l1 pl.length day d = if d.kind = 0 then rightB X.l1 pl.length d.right
    else if d.kind = 1 then wit d.right.owner 0 (X.l1 - 1) && (decide (d.from1 ≤ day) && decide (day ≤ d.until1))
    else if d.kind = 2 then wit d.right.place 0 (pl.length - 1) && (decide (d.from1 ≤ day) && decide (day ≤ d.until1))
    else if d.kind = 3 then decide (d.from1 ≤ day)
    else false) := rfl
  obtain ⟨e1, he1⟩ : ∃ c, decide (d.from1 ≤ day) = c := ⟨_, rfl⟩
  obtain ⟨e2, he2⟩ : ∃ c, decide (day ≤ d.until1) = c := ⟨_, rfl⟩
  rw [he1, he2] at HR
  by_cases k0 : d.kind = 0
  · have HX : Hid (appB X.l1 pl.length day d = rightB X.l1 pl.length d.right) := by show _ = _; rw [HR.out, if_pos k0]
    have b0 : (d.kind == 0) = true := by simpa using k0
    have K : Hid (∀ wx, Below w.heap.size w wx → Calls Tryd.prog 9 #[.agg #[.string X.nm, .slice X.a1 X.l1 X.c1, .int .i64 X.cl, .slice X.P pl.length X.cP, .slice X.a4 X.l4 X.c4, .slice X.a5 X.l5 X.c5, .slice X.a6 X.l6 X.c6, .slice X.a7 X.l7 X.c7, .slice X.a8 X.l8 X.c8, .slice X.a9 X.l9 X.c9, .int .i64 X.er], .agg #[.int .i64 d.right.id, .int .i64 d.right.owner, .int .i64 d.right.date, .int .i64 d.right.place, .int .i64 d.right.rate, .int .i64 d.right.from1, .int .i64 d.right.until1, .int .i64 d.right.back, .int .i64 d.right.backTo]] wx (BoolIs (rightB X.l1 pl.length d.right) wx)) := fun wx h => right_any X pl d.right wx (hM.below hM.pos h) hr
    generalize rightB X.l1 pl.length d.right = R at K HX
    generalize appB X.l1 pl.length day d = R2 at HX ⊢
    clear HR k0
    go_enter Tryd.func34, Tryd.ntmps34
    go_wp2_with (first | (go_at_call 9; (with_reducible refine (K.out _ hB0).mono ?_); rintro e1 w1 ⟨rfl, hb1⟩) | fail)
    go_ret
    exact ⟨ret_bool HX.out.symm, hB0.trans (hb1.mono (by simp; omega))⟩
  have b0 : (d.kind == 0) = false := by simpa using k0
  by_cases k1 : d.kind = 1
  · obtain ⟨bo, ho⟩ : ∃ c, wit d.right.owner 0 (X.l1 - 1) = c := ⟨_, rfl⟩
    have HX : Hid (appB X.l1 pl.length day d = (bo && (e1 && e2))) := by show _ = _; rw [HR.out, if_neg k0, if_pos k1, ho]
    have b1 : (d.kind == 1) = true := by simpa using k1
    have K : Hid (∀ wx, Calls Tryd.prog 22 #[.int .i64 d.right.owner, .int .i64 X.l1] wx fun e w' => e = .returned (.bool bo) ∧ wx = w') := fun wx => by rw [← ho]; exact index_any _ _ wx
    generalize appB X.l1 pl.length day d = R2 at HX ⊢
    clear HR k0 k1 ho
    cases bo <;> cases e1 <;> cases e2
    all_goals
      go_enter Tryd.func34, Tryd.ntmps34
      go_wp2_with (first | (go_at_call 22; (with_reducible refine (K.out _).mono ?_); rintro e1 w1 ⟨rfl, rfl⟩) | fail)
      go_ret
      exact ⟨ret_bool (by rw [HX.out]; rfl), hB0⟩
  have b1 : (d.kind == 1) = false := by simpa using k1
  by_cases k2 : d.kind = 2
  · obtain ⟨bo, ho⟩ : ∃ c, wit d.right.place 0 (pl.length - 1) = c := ⟨_, rfl⟩
    have HX : Hid (appB X.l1 pl.length day d = (bo && (e1 && e2))) := by show _ = _; rw [HR.out, if_neg k0, if_neg k1, if_pos k2, ho]
    have b2 : (d.kind == 2) = true := by simpa using k2
    have K : Hid (∀ wx, Calls Tryd.prog 22 #[.int .i64 d.right.place, .int .i64 pl.length] wx fun e w' => e = .returned (.bool bo) ∧ wx = w') := fun wx => by rw [← ho]; exact index_any _ _ wx
    generalize appB X.l1 pl.length day d = R2 at HX ⊢
    clear HR k0 k1 k2 ho
    cases bo <;> cases e1 <;> cases e2
    all_goals
      go_enter Tryd.func34, Tryd.ntmps34
      go_wp2_with (first | (go_at_call 22; (with_reducible refine (K.out _).mono ?_); rintro e1 w1 ⟨rfl, rfl⟩) | fail)
      go_ret
      exact ⟨ret_bool (by rw [HX.out]; rfl), hB0⟩
  have b2 : (d.kind == 2) = false := by simpa using k2
  by_cases k3 : d.kind = 3
  · have HX : Hid (appB X.l1 pl.length day d = e1) := by show _ = _; rw [HR.out, if_neg k0, if_neg k1, if_neg k2, if_pos k3]
    have b3 : (d.kind == 3) = true := by simpa using k3
    generalize appB X.l1 pl.length day d = R2 at HX ⊢
    clear HR k0 k1 k2 k3
    go_enter Tryd.func34, Tryd.ntmps34
    go_wp2_with fail
    go_ret
    exact ⟨ret_bool HX.out.symm, hB0⟩
  have b3 : (d.kind == 3) = false := by simpa using k3
  have HX : Hid (appB X.l1 pl.length day d = false) := by show _ = _; rw [HR.out, if_neg k0, if_neg k1, if_neg k2, if_neg k3]
  generalize appB X.l1 pl.length day d = R2 at HX ⊢
  clear HR k0 k1 k2 k3
  go_enter Tryd.func34, Tryd.ntmps34
  go_wp2_with fail
  go_ret
  exact ⟨ret_bool HX.out.symm, hB0⟩
end Go.Proofs.YtchmplnkddgncaaDoor
