/- Walks of date.Hour and of the reference's Hour. -/
import Derived.Test.YticjghibdjambaaDoorW3
namespace Go.Proofs.YticjghibdjambaaDoor
open Go.RowKit

/-- The hour of a date, if it has one. -/
def hourB (y m d h : Int) : Bool := decide (2000 ≤ y ∧ 1 ≤ m ∧ m ≤ 12 ∧ 1 ≤ d ∧ d ≤ DM.len y m ∧ 0 ≤ h ∧ h ≤ 23 ∧ 24 * DM.num y m d + h ≤ 16777216)
def hourN (y m d h : Int) : Int := if hourB y m d h = true then 24 * DM.num y m d + h else 0

set_option maxHeartbeats 1000000 in
theorem hour_no1 (y m d h : Int) (w : World) (hM : Months w)  (k : y < 2000) :
    Calls Tryd.prog 11 #[.agg #[.int .i64 y, .int .i64 m, .int .i64 d, .int .i64 h]] w fun e w' => e = .returned (.tuple #[.int .i64 0, .bool false]) ∧ Below w.heap.size w w' := by
  go_enter Tryd.func11, Tryd.ntmps11
  go_wp2
  go_ret2
  exact ⟨rfl, (Below.refl _ _).alloc (Nat.le_refl _) _⟩

set_option maxHeartbeats 1000000 in
theorem hour_no2 (y m d h : Int) (w : World) (hM : Months w) (k1 : 2000 ≤ y) (k : 3915 < y) :
    Calls Tryd.prog 11 #[.agg #[.int .i64 y, .int .i64 m, .int .i64 d, .int .i64 h]] w fun e w' => e = .returned (.tuple #[.int .i64 0, .bool false]) ∧ Below w.heap.size w w' := by
  go_enter Tryd.func11, Tryd.ntmps11
  go_wp2
  go_ret2
  exact ⟨rfl, (Below.refl _ _).alloc (Nat.le_refl _) _⟩

set_option maxHeartbeats 1000000 in
theorem hour_no3 (y m d h : Int) (w : World) (hM : Months w) (k1 : 2000 ≤ y) (k2 : y ≤ 3915) (k : m < 1) :
    Calls Tryd.prog 11 #[.agg #[.int .i64 y, .int .i64 m, .int .i64 d, .int .i64 h]] w fun e w' => e = .returned (.tuple #[.int .i64 0, .bool false]) ∧ Below w.heap.size w w' := by
  go_enter Tryd.func11, Tryd.ntmps11
  go_wp2
  go_ret2
  exact ⟨rfl, (Below.refl _ _).alloc (Nat.le_refl _) _⟩

set_option maxHeartbeats 1000000 in
theorem hour_no4 (y m d h : Int) (w : World) (hM : Months w) (k1 : 2000 ≤ y) (k2 : y ≤ 3915) (k3 : 1 ≤ m) (k : 12 < m) :
    Calls Tryd.prog 11 #[.agg #[.int .i64 y, .int .i64 m, .int .i64 d, .int .i64 h]] w fun e w' => e = .returned (.tuple #[.int .i64 0, .bool false]) ∧ Below w.heap.size w w' := by
  go_enter Tryd.func11, Tryd.ntmps11
  go_wp2
  go_ret2
  exact ⟨rfl, (Below.refl _ _).alloc (Nat.le_refl _) _⟩

set_option maxHeartbeats 1000000 in
theorem hour_no5 (y m d h : Int) (w : World) (hM : Months w) (k1 : 2000 ≤ y) (k2 : y ≤ 3915) (k3 : 1 ≤ m) (k4 : m ≤ 12) (k : d < 1) :
    Calls Tryd.prog 11 #[.agg #[.int .i64 y, .int .i64 m, .int .i64 d, .int .i64 h]] w fun e w' => e = .returned (.tuple #[.int .i64 0, .bool false]) ∧ Below w.heap.size w w' := by
  have hd : decide (d < 1) = true := by rw [decide_eq_true_eq]; omega
  go_enter Tryd.func11, Tryd.ntmps11
  go_wp2_with fail
  go_quiet (fail)
  go_wp2
  go_ret2
  exact ⟨rfl, below_drewN ((Below.refl _ _).alloc (Nat.le_refl _) _) _⟩

set_option maxHeartbeats 1000000 in
theorem hour_no6 (y m d h : Int) (w : World) (hM : Months w) (k1 : 2000 ≤ y) (k2 : y ≤ 3915) (k3 : 1 ≤ m) (k4 : m ≤ 12) (k5 : 1 ≤ d) (k : DM.len y m < d) :
    Calls Tryd.prog 11 #[.agg #[.int .i64 y, .int .i64 m, .int .i64 d, .int .i64 h]] w fun e w' => e = .returned (.tuple #[.int .i64 0, .bool false]) ∧ Below w.heap.size w w' := by
  have : decide (d < 1) = false := by rw [decide_eq_false_iff_not]; omega
  have hd : decide (DM.len y m < d) = true := by rw [decide_eq_true_eq]; omega
  go_enter Tryd.func11, Tryd.ntmps11
  go_wp2_with fail
  go_quiet ((go_at_call 21; exact quiet_left (length_any _ _ (by omega) (by omega) _ ((hM.alloc _).drewN _))))
  go_wp2
  go_ret2
  exact ⟨rfl, below_drewN ((Below.refl _ _).alloc (Nat.le_refl _) _) _⟩

set_option maxHeartbeats 1000000 in
theorem hour_no7 (y m d h : Int) (w : World) (hM : Months w) (k1 : 2000 ≤ y) (k2 : y ≤ 3915) (k3 : 1 ≤ m) (k4 : m ≤ 12) (k5 : 1 ≤ d) (k6 : d ≤ DM.len y m) (k : h < 0) :
    Calls Tryd.prog 11 #[.agg #[.int .i64 y, .int .i64 m, .int .i64 d, .int .i64 h]] w fun e w' => e = .returned (.tuple #[.int .i64 0, .bool false]) ∧ Below w.heap.size w w' := by
  have : decide (d < 1) = false := by rw [decide_eq_false_iff_not]; omega
  have : decide (DM.len y m < d) = false := by rw [decide_eq_false_iff_not]; omega
  have hd : decide (h < 0) = true := by rw [decide_eq_true_eq]; omega
  go_enter Tryd.func11, Tryd.ntmps11
  go_wp2_with fail
  go_quiet ((go_at_call 21; exact quiet_left (length_any _ _ (by omega) (by omega) _ ((hM.alloc _).drewN _))))
  go_wp2
  go_ret2
  exact ⟨rfl, below_drewN ((Below.refl _ _).alloc (Nat.le_refl _) _) _⟩

set_option maxHeartbeats 1000000 in
theorem hour_no8 (y m d h : Int) (w : World) (hM : Months w) (k1 : 2000 ≤ y) (k2 : y ≤ 3915) (k3 : 1 ≤ m) (k4 : m ≤ 12) (k5 : 1 ≤ d) (k6 : d ≤ DM.len y m) (k7 : 0 ≤ h) (k : 23 < h) :
    Calls Tryd.prog 11 #[.agg #[.int .i64 y, .int .i64 m, .int .i64 d, .int .i64 h]] w fun e w' => e = .returned (.tuple #[.int .i64 0, .bool false]) ∧ Below w.heap.size w w' := by
  have : decide (d < 1) = false := by rw [decide_eq_false_iff_not]; omega
  have : decide (DM.len y m < d) = false := by rw [decide_eq_false_iff_not]; omega
  have : decide (h < 0) = false := by rw [decide_eq_false_iff_not]; omega
  have hd : decide (23 < h) = true := by rw [decide_eq_true_eq]; omega
  go_enter Tryd.func11, Tryd.ntmps11
  go_wp2_with fail
  go_quiet ((go_at_call 21; exact quiet_left (length_any _ _ (by omega) (by omega) _ ((hM.alloc _).drewN _))))
  go_wp2
  go_ret2
  exact ⟨rfl, below_drewN ((Below.refl _ _).alloc (Nat.le_refl _) _) _⟩

end Go.Proofs.YticjghibdjambaaDoor
