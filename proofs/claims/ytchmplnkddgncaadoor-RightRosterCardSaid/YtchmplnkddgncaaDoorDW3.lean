/- Walks of the reference's Length, Of, Valid, and the reference's Valid. -/
import Derived.Test.YtchmplnkddgncaaDoorDW2
import Derived.Deep.QuietTactic
import Derived.BigQuiet
set_option linter.unusedSimpArgs false
set_option linter.unusedVariables false
namespace Go.Proofs.YtchmplnkddgncaaDoor
open Go.RowKit

theorem Months.drewN {w : World} (h : Months w) (n : Nat) : Months (w.drewN n) := h

theorem len2 (y : Int) : DM.len y 2 = if y % 4 = 0 ∧ (y % 100 ≠ 0 ∨ y % 400 = 0) then 29 else 28 := by
  simp only [DM.len, DM.lp, if_pos]
  by_cases hq : y % 4 = 0 ∧ (y % 100 ≠ 0 ∨ y % 400 = 0)
  · rw [if_pos hq, if_pos hq]; rfl
  · rw [if_neg hq, if_neg hq]; rfl
set_option maxHeartbeats 400000 in
theorem rlength_any (y m : Int) (w : World) :
    Calls Tryd.prog 42 #[.int .i64 y, .int .i64 m] w fun e w' => e = .returned (.int .i64 (DM.len y m)) ∧ w = w' := by
  by_cases hm : m = 2
  · subst hm
    have H : Hid (((y.tmod 4 = 0 ↔ y % 4 = 0) ∧ (y.tmod 100 = 0 ↔ y % 100 = 0) ∧ (y.tmod 400 = 0 ↔ y % 400 = 0)) ∧ DM.len y 2 = if y % 4 = 0 ∧ (y % 100 ≠ 0 ∨ y % 400 = 0) then 29 else 28) :=
      ⟨⟨tmod_0 y 4 (by omega), tmod_0 y 100 (by omega), tmod_0 y 400 (by omega)⟩, len2 y⟩
    go_enter Tryd.func42, Tryd.ntmps42
    go_wp2
    all_goals go_ret
    all_goals refine ⟨ret_int ?_, rfl⟩
    all_goals obtain ⟨⟨h4, h1, h40⟩, h⟩ := H
    all_goals simp_all
  · have h2 : (m == 2) = false := by simpa using hm
    by_cases h : m = 4 ∨ m = 6 ∨ m = 9 ∨ m = 11
    · have H : Hid (DM.len y m = 30) := by unfold DM.len; rw [if_neg hm, if_pos h]; exact rfl
      rcases h with rfl | rfl | rfl | rfl
      all_goals
        go_enter Tryd.func42, Tryd.ntmps42
        go_wp2
        go_ret
        exact ⟨ret_int H.out.symm, rfl⟩
    · have H : Hid (DM.len y m = 31) := by unfold DM.len; rw [if_neg hm, if_neg h]; exact rfl
      have h4 : (m == 4) = false := by rw [beq_eq_false_iff_ne]; omega
      have h6 : (m == 6) = false := by rw [beq_eq_false_iff_ne]; omega
      have h9 : (m == 9) = false := by rw [beq_eq_false_iff_ne]; omega
      have h11 : (m == 11) = false := by rw [beq_eq_false_iff_ne]; omega
      clear h hm
      go_enter Tryd.func42, Tryd.ntmps42
      go_wp2
      go_ret
      exact ⟨ret_int H.out.symm, rfl⟩

set_option maxHeartbeats 400000 in
theorem rof_no (n : Int) (w : World) (h : n < 0 ∨ 16777216 < n) : Calls Tryd.prog 26 #[.int .i64 n] w (OfNo w) := by
  rcases h with h | h
  · go_enter Tryd.func26, Tryd.ntmps26
    go_wp2
    exact bodyPost_ret (v := .tuple #[.agg #[.int .i64 0, .int .i64 0, .int .i64 0, .int .i64 0], .bool false]) (by simp [results, Tryd.results26, go_sem]) rfl ⟨rfl, (Below.refl _ _).alloc (Nat.le_refl _) _⟩
  · have h' : ¬ n < 0 := by omega
    go_enter Tryd.func26, Tryd.ntmps26
    go_wp2
    exact bodyPost_ret (v := .tuple #[.agg #[.int .i64 0, .int .i64 0, .int .i64 0, .int .i64 0], .bool false]) (by simp [results, Tryd.results26, go_sem]) rfl ⟨rfl, (Below.refl _ _).alloc (Nat.le_refl _) _⟩

set_option maxHeartbeats 1000000 in
theorem rof_yes (n : Int) (w : World) (h1 : 0 ≤ n) (h2 : n ≤ 16777216) : Calls Tryd.prog 26 #[.int .i64 n] w (OfYes n w) := by
  have e0 := Lib.hid DM.bef_2000
  have e1 := Lib.hid (DM.cum_1 2000)
  go_enter Tryd.func26, Tryd.ntmps26
  go_wp2
  go_loop [4, 5, 6] (fun r t k => ∃ y m : Int, 2000 ≤ y ∧ DM.bef y ≤ n / 24 ∧ 1 ≤ m ∧ m ≤ 12 ∧ t = .int .i64 y ∧ k = .int .i64 m ∧ 0 ≤ n / 24 - DM.bef y - DM.cum y m ∧ r = .int .i64 (n / 24 - DM.bef y - DM.cum y m)) (fun r _ _ => (intOf r).toNat)
  case atStart => exact ⟨2000, 1, by omega, by rw [e0.out]; omega, by omega, by omega, rfl, rfl, by rw [e0.out, e1.out]; omega, by rw [e0.out, e1.out]; go_num⟩
  case round =>
    obtain ⟨y, m, hy1, hy3, hm1, hm2, rfl, rfl, hr, rfl⟩ := hrel
    have hy4 := DM.bef_big (y := y) (by omega)
    have cb := DM.cum_bd y m
    have db := DM.len_bd y m
    have hb := DM.bef_nonneg hy1
    have cs := Lib.hid (DM.cum_succ y m hm1 hm2)
    by_cases hc : DM.len y m ≤ n / 24 - DM.bef y - DM.cum y m
    · by_cases hm3 : m < 12
      · go_wp2_with (go_at_call 42; refine (rlength_any _ _ _).mono ?_; rintro e w' ⟨rfl, rfl⟩)
        go_round
        case rel => exact ⟨y, m + 1, by omega, by omega, by omega, by omega, rfl, rfl, by rw [cs.out]; omega, by rw [cs.out]; go_num⟩
        case measure => simp [intOf]; omega
      · obtain rfl : (12 : Int) = m := by omega
        have hx : Hid (DM.bef (y + 1) = DM.bef y + DM.cum y 12 + DM.len y 12 ∧ DM.cum (y + 1) 1 = 0) := by
          have h3 := DM.cum_succ y 12 (by omega) (by omega); have h13 := DM.cum_13 y; rw [show (12 : Int) + 1 = 13 from rfl] at h3
          have := DM.bef_succ y
          exact ⟨by omega, DM.cum_1 _⟩
        go_wp2_with (go_at_call 42; refine (rlength_any _ _ _).mono ?_; rintro e w' ⟨rfl, rfl⟩)
        go_round
        case rel => exact ⟨y + 1, 1, by omega, by rw [hx.out.1]; omega, by omega, by omega, rfl, rfl, by rw [hx.out.1, hx.out.2]; omega, by rw [hx.out.1, hx.out.2]; go_num⟩
        case measure => simp [intOf]; omega
    · have hv : n / 24 - DM.bef y - DM.cum y m < DM.len y m := by omega
      clear hc
      go_wp2_with (go_at_call 42; refine (rlength_any _ _ _).mono ?_; rintro e w' ⟨rfl, rfl⟩)
      refine bodyPost_ret (v := .tuple #[.agg #[.int .i64 y, .int .i64 m, .int .i64 (n / 24 - DM.bef y - DM.cum y m + 1), .int .i64 (n % 24)], .bool true]) (by simp [results, Tryd.results26, go_sem]) rfl ⟨y, m, _, rfl, (of_end hm1 hm2 hr hv).1, (of_end hm1 hm2 hr hv).2, hy1, hy4, ?_⟩
      exact (Below.refl _ _).alloc (Nat.le_refl _) _

/-- A date and an hour of the day that the reference calls valid. -/
def okB (y m d h : Int) : Bool := decide (1 ≤ m ∧ m ≤ 12 ∧ 1 ≤ d ∧ d ≤ DM.len y m ∧ 0 ≤ h ∧ h ≤ 23)
def agg4 (y m d h : Int) : Value := .agg #[.int .i64 y, .int .i64 m, .int .i64 d, .int .i64 h]

set_option maxHeartbeats 1000000 in
theorem valid_yes (y m d h : Int) (w : World) (k1 : 1 ≤ m) (k2 : m ≤ 12) (k3 : 1 ≤ d) (k4 : d ≤ DM.len y m) (k5 : 0 ≤ h) (k6 : h ≤ 23) :
    Calls Tryd.prog 41 #[.agg #[.int .i64 y, .int .i64 m, .int .i64 d, .int .i64 h]] w fun e w' => e = .returned (.bool true) ∧ Below w.heap.size w w' := by
  go_enter Tryd.func41, Tryd.ntmps41
  go_wp2_with fail
  go_quiet ((go_at_call 42; exact quiet_left (rlength_any _ _ _)))
  go_wp2
  go_ret
  exact ⟨rfl, below_drewN ((Below.refl _ _).alloc (Nat.le_refl _) _) _⟩

set_option maxHeartbeats 1000000 in
theorem valid_no1 (y m d h : Int) (w : World)  (k : m < 1) :
    Calls Tryd.prog 41 #[.agg #[.int .i64 y, .int .i64 m, .int .i64 d, .int .i64 h]] w fun e w' => e = .returned (.bool false) ∧ Below w.heap.size w w' := by
  have hd : decide (1 ≤ m) = false := by rw [decide_eq_false_iff_not]; omega
  go_enter Tryd.func41, Tryd.ntmps41
  go_wp2_with fail
  go_quiet (fail)
  go_wp2
  go_ret
  exact ⟨rfl, below_drewN ((Below.refl _ _).alloc (Nat.le_refl _) _) _⟩

set_option maxHeartbeats 1000000 in
theorem valid_no2 (y m d h : Int) (w : World) (k1 : 1 ≤ m) (k : 12 < m) :
    Calls Tryd.prog 41 #[.agg #[.int .i64 y, .int .i64 m, .int .i64 d, .int .i64 h]] w fun e w' => e = .returned (.bool false) ∧ Below w.heap.size w w' := by
  have hd : decide (m ≤ 12) = false := by rw [decide_eq_false_iff_not]; omega
  go_enter Tryd.func41, Tryd.ntmps41
  go_wp2_with fail
  go_quiet (fail)
  go_wp2
  go_ret
  exact ⟨rfl, below_drewN ((Below.refl _ _).alloc (Nat.le_refl _) _) _⟩

set_option maxHeartbeats 1000000 in
theorem valid_no3 (y m d h : Int) (w : World) (k1 : 1 ≤ m) (k2 : m ≤ 12) (k : d < 1) :
    Calls Tryd.prog 41 #[.agg #[.int .i64 y, .int .i64 m, .int .i64 d, .int .i64 h]] w fun e w' => e = .returned (.bool false) ∧ Below w.heap.size w w' := by
  have hd : decide (1 ≤ d) = false := by rw [decide_eq_false_iff_not]; omega
  go_enter Tryd.func41, Tryd.ntmps41
  go_wp2_with fail
  go_quiet (fail)
  go_wp2
  go_ret
  exact ⟨rfl, below_drewN ((Below.refl _ _).alloc (Nat.le_refl _) _) _⟩

set_option maxHeartbeats 1000000 in
theorem valid_no4 (y m d h : Int) (w : World) (k1 : 1 ≤ m) (k2 : m ≤ 12) (k3 : 1 ≤ d) (k : DM.len y m < d) :
    Calls Tryd.prog 41 #[.agg #[.int .i64 y, .int .i64 m, .int .i64 d, .int .i64 h]] w fun e w' => e = .returned (.bool false) ∧ Below w.heap.size w w' := by
  have hd : decide (d ≤ DM.len y m) = false := by rw [decide_eq_false_iff_not]; omega
  go_enter Tryd.func41, Tryd.ntmps41
  go_wp2_with fail
  go_quiet ((go_at_call 42; exact quiet_left (rlength_any _ _ _)))
  go_wp2
  go_ret
  exact ⟨rfl, below_drewN ((Below.refl _ _).alloc (Nat.le_refl _) _) _⟩

set_option maxHeartbeats 1000000 in
theorem valid_no5 (y m d h : Int) (w : World) (k1 : 1 ≤ m) (k2 : m ≤ 12) (k3 : 1 ≤ d) (k4 : d ≤ DM.len y m) (k : h < 0) :
    Calls Tryd.prog 41 #[.agg #[.int .i64 y, .int .i64 m, .int .i64 d, .int .i64 h]] w fun e w' => e = .returned (.bool false) ∧ Below w.heap.size w w' := by
  have hd : decide (0 ≤ h) = false := by rw [decide_eq_false_iff_not]; omega
  go_enter Tryd.func41, Tryd.ntmps41
  go_wp2_with fail
  go_quiet ((go_at_call 42; exact quiet_left (rlength_any _ _ _)))
  go_wp2
  go_ret
  exact ⟨rfl, below_drewN ((Below.refl _ _).alloc (Nat.le_refl _) _) _⟩

set_option maxHeartbeats 1000000 in
theorem valid_no6 (y m d h : Int) (w : World) (k1 : 1 ≤ m) (k2 : m ≤ 12) (k3 : 1 ≤ d) (k4 : d ≤ DM.len y m) (k5 : 0 ≤ h) (k : 23 < h) :
    Calls Tryd.prog 41 #[.agg #[.int .i64 y, .int .i64 m, .int .i64 d, .int .i64 h]] w fun e w' => e = .returned (.bool false) ∧ Below w.heap.size w w' := by
  have hd : decide (h ≤ 23) = false := by rw [decide_eq_false_iff_not]; omega
  go_enter Tryd.func41, Tryd.ntmps41
  go_wp2_with fail
  go_quiet ((go_at_call 42; exact quiet_left (rlength_any _ _ _)))
  go_wp2
  go_ret
  exact ⟨rfl, below_drewN ((Below.refl _ _).alloc (Nat.le_refl _) _) _⟩

theorem valid_any (y m d h : Int) (w : World) :
    Calls Tryd.prog 41 #[.agg #[.int .i64 y, .int .i64 m, .int .i64 d, .int .i64 h]] w fun e w' => e = .returned (.bool (okB y m d h)) ∧ Below w.heap.size w w' := by
  by_cases k1 : 1 ≤ m
  · by_cases k2 : m ≤ 12
    · by_cases k3 : 1 ≤ d
      · by_cases k4 : d ≤ DM.len y m
        · by_cases k5 : 0 ≤ h
          · by_cases k6 : h ≤ 23
            · rw [show okB y m d h = true from decide_eq_true ⟨k1, k2, k3, k4, k5, k6⟩]; exact valid_yes y m d h w k1 k2 k3 k4 k5 k6
            · rw [show okB y m d h = false from decide_eq_false (by omega)]; exact valid_no6 y m d h w k1 k2 k3 k4 k5 (by omega)
          · rw [show okB y m d h = false from decide_eq_false (by omega)]; exact valid_no5 y m d h w k1 k2 k3 k4 (by omega)
        · rw [show okB y m d h = false from decide_eq_false (by omega)]; exact valid_no4 y m d h w k1 k2 k3 (by omega)
      · rw [show okB y m d h = false from decide_eq_false (by omega)]; exact valid_no3 y m d h w k1 k2 (by omega)
    · rw [show okB y m d h = false from decide_eq_false (by omega)]; exact valid_no2 y m d h w k1 (by omega)
  · rw [show okB y m d h = false from decide_eq_false (by omega)]; exact valid_no1 y m d h w (by omega)
end Go.Proofs.YtchmplnkddgncaaDoor
