/- Walks of within and of both tests of an entry. -/
import Derived.Test.YtminphldifncaaaDoorEM
set_option linter.unusedSimpArgs false
set_option linter.unusedVariables false
namespace Go.Proofs.YtminphldifncaaaDoor
open Go.RowKit LG
attribute [local go_sem] alloc_drewN setCell_drewN shape_drewN

theorem within_any (n a b : Int) (w : World) : Calls Tryd.prog 49 #[.int .i64 n, .int .i64 a, .int .i64 b] w fun e w' => e = .returned (.bool (wit n a b)) ∧ w = w' := by
  by_cases h1 : a ≤ n
  · by_cases h2 : n ≤ b
    · have e1 := decide_eq_true h1; have e2 := decide_eq_true h2
      go_enter Tryd.func49, Tryd.ntmps49
      go_wp2_with fail
      go_ret
      exact ⟨ret_bool (by rw [Bool.eq_iff_iff]; simp [wit]; omega), rfl⟩
    · have e1 := decide_eq_true h1; have e2 := decide_eq_false h2
      go_enter Tryd.func49, Tryd.ntmps49
      go_wp2_with fail
      go_ret
      exact ⟨ret_bool (by rw [Bool.eq_iff_iff]; simp [wit]; omega), rfl⟩
  · have e1 := decide_eq_false h1
    go_enter Tryd.func49, Tryd.ntmps49
    go_wp2_with fail
    go_ret
    exact ⟨ret_bool (by rw [Bool.eq_iff_iff]; simp [wit]; omega), rfl⟩
set_option maxHeartbeats 4000000 in
theorem right_any (e : Et) (w : World) : Calls Tryd.prog 55 #[.agg #[.int .i64 e.day, .int .i64 e.known, .int .i64 e.owner, .int .i64 e.place, .int .i64 e.litres, .int .i64 e.why, .int .i64 e.ref]] w (BoolIs (okE e) w) := by
  have K := fun n a b w => within_any n a b w
  go_enter Tryd.func55, Tryd.ntmps55
  go_wp2_with (first | (go_at_call 49; (with_reducible refine (K _ _ _ _).mono ?_); rintro e1 w1 ⟨rfl, rfl⟩) | fail)
  all_goals (go_ret; exact ⟨ret_bool (by simp_all [okE]), (Below.refl _ _).alloc (Nat.le_refl _) _⟩)
end Go.Proofs.YtminphldifncaaaDoor
