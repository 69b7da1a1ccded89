/- Walks of Scale and Slope: some numbers. -/
import Derived.Test.YthoigjkelinjhaaG1
set_option linter.unusedSimpArgs false
set_option linter.unusedVariables false
namespace Go.Proofs.Ythoigjkelinjhaa.RT
open Go.RowKit
def ScIs (w : World) (e : Ending) (w' : World) : Prop := ∃ (q r : Int) (b : Bool), e = .returned (.tuple #[.int .i64 q, .int .i64 r, .bool b]) ∧ w' = w
set_option maxHeartbeats 2000000 in
theorem scale_any (a n d : Int) (w : World) : Calls Try.prog 59 #[.int .i64 a, .int .i64 n, .int .i64 d] w (ScIs w) := by
  by_cases hA : a < 0 ∨ 1125899906842624 < a ∨ n < 0 ∨ 1125899906842624 < n ∨ d < 1 ∨ 1125899906842624 < d
  · go_enter Try.func59, Try.ntmps59
    rcases hA with h | h | h | h | h | h
    all_goals
      go_wp2_with fail
      all_goals
        go_ret3
        exact ⟨_, _, _, rfl, rfl⟩
  · have h1 : decide (a < 0) = false := decide_eq_false (by omega)
    have h2 : decide (1125899906842624 < a) = false := decide_eq_false (by omega)
    have h3 : decide (n < 0) = false := decide_eq_false (by omega)
    have h4 : decide (1125899906842624 < n) = false := decide_eq_false (by omega)
    have h5 : decide (d < 1) = false := decide_eq_false (by omega)
    have h6 : decide (1125899906842624 < d) = false := decide_eq_false (by omega)
    have h7 : (d == 0) = false := by simp; omega
    have h8 : ¬ d = 0 := by omega
    clear hA
    go_enter Try.func59, Try.ntmps59
    go_wp2_with fail
    go_loopw [9, 10, 11] (fun qv rv bv wr => ∃ (q r : Int) (b : Nat), qv = .int .i64 q ∧ rv = .int .i64 r ∧ bv = .int .i64 b ∧ b ≤ 1125899906842624 ∧ wr = w) (fun _ _ bv _ => (intOf bv).toNat)
    case atStart => exact ⟨0, 0, 1125899906842624, rfl, rfl, rfl, Nat.le_refl _, rfl⟩
    case round =>
      obtain ⟨q, r, b, rfl, rfl, rfl, hb, rfl⟩ := hrel
      by_cases hb0 : 0 < b
      · have e1 : decide ((0 : Int) < (b : Int)) = true := decide_eq_true (by omega)
        have e2 : IntKind.i64.wrap ((b : Int).tdiv 2) = ((b / 2 : Nat) : Int) := by
          rw [Int.tdiv_eq_ediv_of_nonneg (by omega), IntKind.wrap_i64]; omega
        have e3 : (b : Int).tdiv 2 = ((b / 2 : Nat) : Int) := by
          rw [Int.tdiv_eq_ediv_of_nonneg (by omega)]; omega
        go_wp2_with fail
        all_goals first
          | (go_ret3; exact ⟨_, _, _, rfl, rfl⟩)
          | skip
        all_goals
          go_roundw
          case rel => exact ⟨_, _, b / 2, rfl, rfl, by first | rfl | rw [e2] | rw [e3], by omega, by first | rfl | trivial⟩
          case measure => simp [intOf]; omega
      · obtain rfl : b = 0 := by omega
        go_wp2_with fail
        go_ret3
        exact ⟨_, _, _, rfl, rfl⟩
theorem slope_any (n d : Int) (w : World) : Calls Try.prog 50 #[.int .i64 n, .int .i64 d] w (PureI w) := by
  go_enter Try.func50, Try.ntmps50
  go_wp2_with (first | (go_at_call 59; (with_reducible refine (scale_any _ _ _ _).mono ?_); rintro e1 w1 ⟨q, r, b, rfl, rfl⟩; cases b) | fail)
  all_goals
    go_ret
    exact ⟨_, rfl, rfl⟩
end Go.Proofs.Ythoigjkelinjhaa.RT
