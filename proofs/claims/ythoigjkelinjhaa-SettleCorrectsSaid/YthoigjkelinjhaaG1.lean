/- Walks of the small tests of numbers: in, vol, fraction, Add, Scale, Slope. -/
import Derived.Test.YthoigjkelinjhaaGM
set_option linter.unusedSimpArgs false
set_option linter.unusedVariables false
namespace Go.Proofs.Ythoigjkelinjhaa.RT
open Go.RowKit
def InIs (n lo hi : Int) (w : World) (e : Ending) (w' : World) : Prop := ∃ b : Bool, e = .returned (.bool b) ∧ w' = w ∧ (b = true → lo ≤ n ∧ n ≤ hi)
theorem in_any (n lo hi : Int) (w : World) : Calls Try.prog 31 #[.int .i64 n, .int .i64 lo, .int .i64 hi] w (InIs n lo hi w) := by
  go_enter Try.func31, Try.ntmps31
  go_wp2_with fail
  all_goals
    go_ret
    first
      | exact ⟨false, rfl, rfl, fun h => by cases h⟩
      | exact ⟨_, rfl, rfl, fun h => by have := of_decide_eq_true h; omega⟩
theorem vol_any (n : Int) (w : World) : Calls Try.prog 32 #[.int .i64 n] w (PureB w) := by
  go_enter Try.func32, Try.ntmps32
  go_wp2_with (first | (go_at_call 31; (with_reducible refine (in_any _ _ _ _).mono ?_); rintro e1 w1 ⟨b, rfl, rfl, _⟩) | fail)
  go_ret
  exact ⟨b, rfl, rfl⟩
theorem vol10_any (n : Int) (w : World) : Calls Try.prog 55 #[.int .i64 n] w (PureB w) := by
  go_enter Try.func55, Try.ntmps55
  go_wp2_with fail
  all_goals
    go_ret
    exact ⟨_, rfl, rfl⟩
theorem fraction_any (n d : Int) (z : Bool) (w : World) : Calls Try.prog 45 #[.int .i64 n, .int .i64 d, .bool z] w (PureB w) := by
  go_enter Try.func45, Try.ntmps45
  go_wp2_with (first | (go_at_call 32; (with_reducible refine (vol_any _ _).mono ?_); rintro e1 w1 ⟨b, rfl, rfl⟩; cases b) | fail)
  all_goals
    go_ret
    exact ⟨_, rfl, rfl⟩
theorem add_any (a b : Int) (w : World) : Calls Try.prog 34 #[.int .i64 a, .int .i64 b] w (PureI w) := by
  go_enter Try.func34, Try.ntmps34
  go_wp2_with fail
  all_goals
    go_ret
    exact ⟨_, rfl, rfl⟩
end Go.Proofs.Ythoigjkelinjhaa.RT
