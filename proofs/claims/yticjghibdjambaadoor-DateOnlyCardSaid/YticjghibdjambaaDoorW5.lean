/- Walks of date.Hour where its tests pass, and of the reference's Hour. -/
import Derived.Test.YticjghibdjambaaDoorW4
namespace Go.Proofs.YticjghibdjambaaDoor
open Go.RowKit

theorem quiet_add_left {P : Program} {f : FuncId} {args : Array Value} {w : World} {a n : Nat} {v : Value}
    (h : Calls P f args (w.drewN (a + n)) fun e w' => e = .returned v ∧ w.drewN (a + n) = w') :
    Calls P f args (w.drewN (a + n)) fun e w'' => e = .returned v ∧ ∃ m, w'' = w.drewN (a + m) :=
  h.mono fun _ _ ⟨he, hm⟩ => ⟨he, n, hm.symm⟩

def capN (t : Int) : Int := if 16777216 < t then 0 else t
def capB (t : Int) : Bool := !decide (16777216 < t)
theorem cap_big {t : Int} (h : 16777216 < t) : capN t = 0 ∧ capB t = false := by unfold capN capB; rw [if_pos h, decide_eq_true h]; exact ⟨rfl, rfl⟩
theorem cap_low {t : Int} (h : t ≤ 16777216) : capN t = t ∧ capB t = true := by unfold capN capB; rw [if_neg (by omega), decide_eq_false (by omega)]; exact ⟨rfl, rfl⟩
theorem num_eq {y m d : Int} : DM.bef y + d - 1 + DM.cum y m = DM.num y m d := by unfold DM.num; omega

set_option maxHeartbeats 2000000 in
theorem hour_go (y m d z : Int) (w : World) (hM : Months w) (k1 : 2000 ≤ y) (k2 : y ≤ 3915) (k3 : 1 ≤ m) (k4 : m ≤ 12) (k5 : 1 ≤ d) (k6 : d ≤ DM.len y m) (k7 : 0 ≤ z) (k8 : z ≤ 23) :
    Calls Tryd.prog 11 #[.agg #[.int .i64 y, .int .i64 m, .int .i64 d, .int .i64 z]] w fun e w' =>
      e = .returned (.tuple #[.int .i64 (capN (24 * DM.num y m d + z)), .bool (capB (24 * DM.num y m d + z))]) ∧ Below w.heap.size w w' := by
  have b0 := DM.bef_nonneg k1
  have b1 : DM.bef y ≤ 800000 := by unfold DM.bef; omega
  have l0 := DM.len_bd y m
  have hd1 : decide (d < 1) = false := by rw [decide_eq_false_iff_not]; omega
  have hd2 : decide (DM.len y m < d) = false := by rw [decide_eq_false_iff_not]; omega
  have hd3 : decide (z < 0) = false := by rw [decide_eq_false_iff_not]; omega
  have hd4 : decide (23 < z) = false := by rw [decide_eq_false_iff_not]; omega
  have c1 := Lib.hid (DM.cum_1 y)
  go_enter Tryd.func11, Tryd.ntmps11
  go_wp2_with fail
  go_quiet ((go_at_call 21; exact quiet_left (length_any _ _ (by omega) (by omega) _ ((hM.alloc _).drewN _))))
  clear hd1 hd2 hd3 hd4
  go_wp2_with fail
  go_quiet ((go_at_call 20; exact quiet_add_left (before_any _ (by omega) (by omega) _)))
  go_wp2_with fail
  simp only [World.drewN_drewN]
  go_loop [4, 5] (fun r k => ∃ j : Int, 1 ≤ j ∧ j ≤ m ∧ k = .int .i64 j ∧ r = .int .i64 (DM.bef y + d - 1 + DM.cum y j)) (fun _ k => (m - intOf k).toNat)
  case atStart => exact ⟨1, by omega, by omega, rfl, by rw [c1.out]; go_num⟩
  case round =>
    obtain ⟨j, hj1, hj2, rfl, rfl⟩ := hrel
    have cb := DM.cum_bd y j
    have db := DM.len_bd y j
    by_cases hj : j < m
    · have cs := Lib.hid (DM.cum_succ y j hj1 (by omega))
      go_wp2_with (go_at_call 21; refine (length_any _ _ (by omega) (by omega) _ ((hM.alloc _).drewN _)).mono ?_; rintro e w' ⟨rfl, rfl⟩)
      go_round
      case rel => exact ⟨j + 1, by omega, by omega, rfl, by rw [cs.out]; go_num⟩
      case measure => simp [intOf]; omega
    · obtain rfl : m = j := by omega
      have hn := Lib.hid (@num_eq y m d)
      by_cases ht : 16777216 < 24 * (DM.bef y + d - 1 + DM.cum y m) + z
      · go_wp2_with fail
        go_ret2
        rw [hn.out] at ht
        rw [(cap_big ht).1, (cap_big ht).2]
        exact ⟨rfl, below_drewN ((Below.refl _ _).alloc (Nat.le_refl _) _) _⟩
      · go_wp2_with fail
        go_ret2
        rw [← hn.out, (cap_low (by omega)).1, (cap_low (by omega)).2]
        exact ⟨rfl, below_drewN ((Below.refl _ _).alloc (Nat.le_refl _) _) _⟩

theorem bef_far {y : Int} (h : 3915 < y) : 16777216 < 24 * DM.bef y := by unfold DM.bef; omega
theorem hour_any (y m d h : Int) (w : World) (hM : Months w) :
    Calls Tryd.prog 11 #[.agg #[.int .i64 y, .int .i64 m, .int .i64 d, .int .i64 h]] w fun e w' => e = .returned (.tuple #[.int .i64 (hourN y m d h), .bool (hourB y m d h)]) ∧ Below w.heap.size w w' := by
  have no : (hourB y m d h = false) → Ending.returned (.tuple #[.int .i64 (hourN y m d h), .bool (hourB y m d h)]) = Ending.returned (.tuple #[.int .i64 0, .bool false]) := by
    intro e; unfold hourN; rw [e]; rfl
  have nb : ∀ p, ¬ p → (hourB y m d h = true → p) → hourB y m d h = false := by
    intro p np hp; rcases hb : hourB y m d h with _ | _
    · rfl
    · exact absurd (hp hb) np
  by_cases k1 : 2000 ≤ y
  case neg => exact (hour_no1 y m d h w hM (by omega)).mono fun e w' ⟨he, hw⟩ => ⟨he.trans (no (decide_eq_false (by omega))).symm, hw⟩
  by_cases k2 : y ≤ 3915
  case neg =>
    refine (hour_no2 y m d h w hM k1 (by omega)).mono fun e w' ⟨he, hw⟩ => ⟨he.trans (no (decide_eq_false ?_)).symm, hw⟩
    rintro ⟨_, a1, a2, a3, a4, a5, a6, a7⟩
    have := (DM.num_lt y m d ⟨a1, a2, a3, a4⟩).1
    have := bef_far (y := y) (by omega)
    omega
  by_cases k3 : 1 ≤ m
  case neg => exact (hour_no3 y m d h w hM k1 k2 (by omega)).mono fun e w' ⟨he, hw⟩ => ⟨he.trans (no (decide_eq_false (by omega))).symm, hw⟩
  by_cases k4 : m ≤ 12
  case neg => exact (hour_no4 y m d h w hM k1 k2 k3 (by omega)).mono fun e w' ⟨he, hw⟩ => ⟨he.trans (no (decide_eq_false (by omega))).symm, hw⟩
  by_cases k5 : 1 ≤ d
  case neg => exact (hour_no5 y m d h w hM k1 k2 k3 k4 (by omega)).mono fun e w' ⟨he, hw⟩ => ⟨he.trans (no (decide_eq_false (by omega))).symm, hw⟩
  by_cases k6 : d ≤ DM.len y m
  case neg => exact (hour_no6 y m d h w hM k1 k2 k3 k4 k5 (by omega)).mono fun e w' ⟨he, hw⟩ => ⟨he.trans (no (decide_eq_false (by omega))).symm, hw⟩
  by_cases k7 : 0 ≤ h
  case neg => exact (hour_no7 y m d h w hM k1 k2 k3 k4 k5 k6 (by omega)).mono fun e w' ⟨he, hw⟩ => ⟨he.trans (no (decide_eq_false (by omega))).symm, hw⟩
  by_cases k8 : h ≤ 23
  case neg => exact (hour_no8 y m d h w hM k1 k2 k3 k4 k5 k6 k7 (by omega)).mono fun e w' ⟨he, hw⟩ => ⟨he.trans (no (decide_eq_false (by omega))).symm, hw⟩
  refine (hour_go y m d h w hM k1 k2 k3 k4 k5 k6 k7 k8).mono fun e w' ⟨he, hw⟩ => ⟨he.trans ?_, hw⟩
  by_cases ht : 16777216 < 24 * DM.num y m d + h
  · rw [no (decide_eq_false (by omega)), (cap_big ht).1, (cap_big ht).2]
  · have hb : hourB y m d h = true := decide_eq_true ⟨k1, k3, k4, k5, k6, k7, k8, by omega⟩
    unfold hourN
    rw [hb, if_pos rfl, (cap_low (by omega)).1, (cap_low (by omega)).2]
end Go.Proofs.YticjghibdjambaaDoor
