/- The walk of the reference's Senior. -/
import Derived.Test.YtchmplnkddgncaaDoorRW3
set_option linter.unusedSimpArgs false
set_option linter.unusedVariables false
namespace Go.Proofs.YtchmplnkddgncaaDoor
open Go.RowKit CM RG
attribute [local go_sem] alloc_drewN setCell_drewN shape_drewN
set_option maxHeartbeats 4000000 in
theorem senior_any (x y : Rt) (w : World) : Calls Tryd.prog 33 #[.agg #[.int .i64 x.id, .int .i64 x.owner, .int .i64 x.date, .int .i64 x.place, .int .i64 x.rate, .int .i64 x.from1, .int .i64 x.until1, .int .i64 x.back, .int .i64 x.backTo], .agg #[.int .i64 y.id, .int .i64 y.owner, .int .i64 y.date, .int .i64 y.place, .int .i64 y.rate, .int .i64 y.from1, .int .i64 y.until1, .int .i64 y.back, .int .i64 y.backTo]] w (BoolIs (ltR x y) w) := by
  have HR : Hid (ltR x y = (decide (x.date < y.date) || (decide (x.date = y.date) && decide (x.id < y.id)))) := rfl
  have hB0 : Below w.heap.size w ((w.alloc (.cells (Value.cells (.agg #[.int .i64 x.id, .int .i64 x.owner, .int .i64 x.date, .int .i64 x.place, .int .i64 x.rate, .int .i64 x.from1, .int .i64 x.until1, .int .i64 x.back, .int .i64 x.backTo])) 33)).alloc (.cells (Value.cells (.agg #[.int .i64 y.id, .int .i64 y.owner, .int .i64 y.date, .int .i64 y.place, .int .i64 y.rate, .int .i64 y.from1, .int .i64 y.until1, .int .i64 y.back, .int .i64 y.backTo])) 33)) := ((Below.refl _ _).alloc (Nat.le_refl _) _).alloc (by simp) _
  simp only [Value.cells] at hB0
  obtain ⟨c1, h1⟩ : ∃ c, decide (x.date < y.date) = c := ⟨_, rfl⟩
  obtain ⟨c3, h3⟩ : ∃ c, decide (x.id < y.id) = c := ⟨_, rfl⟩
  by_cases e : x.date = y.date
  · have h2 : (x.date == y.date) = true := by simpa using e
    rw [h1, h3, decide_eq_true e] at HR
    clear e
    generalize ltR x y = R at HR ⊢
    cases c1 <;> cases c3
    all_goals
      go_enter Tryd.func33, Tryd.ntmps33
      go_wp2_with fail
      go_ret
      exact ⟨ret_bool (by rw [HR.out]; rfl), hB0⟩
  · have h2 : (x.date == y.date) = false := by simpa using e
    rw [h1, h3, decide_eq_false e] at HR
    clear e
    generalize ltR x y = R at HR ⊢
    cases c1 <;> cases c3
    all_goals
      go_enter Tryd.func33, Tryd.ntmps33
      go_wp2_with fail
      go_ret
      exact ⟨ret_bool (by rw [HR.out]; rfl), hB0⟩
end Go.Proofs.YtchmplnkddgncaaDoor
