/- Joined of: DW1 DW2 DW3. -/
import Derived.WalkKit
import Derived.WalkSpells
import Derived.WalkLawsBesides
import Derived.Lib.Hide
import Derived.BigQuiet
import Derived.Deep.QuietTactic
import Derived.Test.YtminphldifncaaaDoorRows
import Derived.Test.YtminphldifncaaaDoorMem
import Derived.Test.YtminphldifncaaaDoorMath
/- Walks of the leaves of package date: leap, length, before; and of the reference: Length, Valid. -/
set_option linter.unusedSimpArgs false
set_option linter.unusedVariables false
namespace Go.Proofs.YtminphldifncaaaDoor
open Go.RowKit


def leapB (y : Int) : Bool := decide (DM.lp y = 1)
theorem leapB_eq (y : Int) : leapB y = decide (y % 4 = 0 ∧ (y % 100 ≠ 0 ∨ y % 400 = 0)) := by
  unfold leapB DM.lp; split <;> simp_all
theorem tmod_0 (y k : Int) (hk : 0 < k) : y.tmod k = 0 ↔ y % k = 0 := by
  constructor
  · intro h; exact Int.emod_eq_zero_of_dvd (Int.dvd_of_tmod_eq_zero h)
  · intro h; exact Int.tmod_eq_zero_of_dvd (Int.dvd_of_emod_eq_zero h)

set_option maxHeartbeats 400000 in
theorem leap_any (y : Int) (w : World) :
    Calls Tryd.prog 75 #[.int .i64 y] w fun e w' => e = .returned (.bool (leapB y)) ∧ w = w' := by
  have h4 := tmod_0 y 4 (by omega)
  have h1 := tmod_0 y 100 (by omega)
  have h40 := tmod_0 y 400 (by omega)
  have H : Hid ((y.tmod 4 = 0 ↔ y % 4 = 0) ∧ (y.tmod 100 = 0 ↔ y % 100 = 0) ∧ (y.tmod 400 = 0 ↔ y % 400 = 0)) := ⟨h4, h1, h40⟩
  clear h4 h1 h40
  go_enter Tryd.func75, Tryd.ntmps75
  go_wp2
  all_goals go_ret
  all_goals refine ⟨ret_bool ?_, rfl⟩
  all_goals obtain ⟨h4, h1, h40⟩ := H
  all_goals rw [leapB_eq]
  · show (y.tmod 400 == 0) = _
    rw [Bool.eq_iff_iff]; simp_all
  · show true = _
    simp_all
  · show false = _
    simp_all

/-- The cells of the variable months. -/
def mon (i : Nat) : Int := [31, 29, 31, 30, 31, 30, 31, 31, 30, 31, 30, 31].getD i 0
def Months (w : World) : Prop := ∀ i, i < 12 → w.cell? ⟨0, i, none⟩ = some (.int .i64 (mon i))
theorem mon_len (m : Int) (h1 : 1 ≤ m) (h2 : m ≤ 12) (y : Int) (h : m = 2 → leapB y = true) : mon (m - 1).toNat = DM.len y m := by
  have : m = 1 ∨ m = 2 ∨ m = 3 ∨ m = 4 ∨ m = 5 ∨ m = 6 ∨ m = 7 ∨ m = 8 ∨ m = 9 ∨ m = 10 ∨ m = 11 ∨ m = 12 := by omega
  rcases this with e | e | e | e | e | e | e | e | e | e | e | e <;> subst e <;> simp [mon, DM.len]
  have h3 := h rfl
  unfold leapB at h3; simp at h3; omega

set_option maxHeartbeats 400000 in
theorem length_any (y m : Int) (h1 : 1 ≤ m) (h2 : m ≤ 12) (w : World) (hm : Months w) :
    Calls Tryd.prog 67 #[.int .i64 y, .int .i64 m] w fun e w' => e = .returned (.int .i64 (DM.len y m)) ∧ w = w' := by
  have hc : w.cell? ⟨0, m.toNat - 1, none⟩ = some (.int .i64 (mon (m - 1).toNat)) := by
    have := hm (m - 1).toNat (by omega)
    rwa [show (m - 1).toNat = m.toNat - 1 by omega] at this ⊢
  clear hm
  by_cases hm : m = 2
  · subst hm
    have hc : w.cell? ⟨0, 1, none⟩ = some (.int .i64 (mon 1)) := hc
    by_cases hl : leapB y = true
    · have H := mon_len 2 (by omega) (by omega) y (fun _ => hl)
      have H : mon 1 = DM.len y 2 := H
      generalize mon 1 = mm at *
      have H2 := Lib.hid H
      clear H
      go_enter Tryd.func67, Tryd.ntmps67
      go_wp2_with (go_at_call 75; refine (leap_any _ _).mono ?_; rintro e w' ⟨rfl, rfl⟩)
      go_ret
      exact ⟨ret_int H2.out, rfl⟩
    · have hl' : leapB y = false := by simpa using hl
      clear hl
      have H : DM.len y 2 = 28 := by
        have := DM.lp_01 y
        unfold leapB at hl'; simp at hl'
        simp [DM.len]; omega
      have H2 := Lib.hid H
      clear H
      go_enter Tryd.func67, Tryd.ntmps67
      go_wp2_with (go_at_call 75; refine (leap_any _ _).mono ?_; rintro e w' ⟨rfl, rfl⟩)
      go_ret
      exact ⟨ret_int H2.out.symm, rfl⟩
  · have hm' : (m == 2) = false := by simpa using hm
    have H := Lib.hid (mon_len m h1 h2 y (fun h => absurd h hm))
    generalize mon (m - 1).toNat = mm at *
    go_enter Tryd.func67, Tryd.ntmps67
    go_wp2
    go_ret
    exact ⟨ret_int H.out, rfl⟩

set_option maxHeartbeats 400000 in
theorem before_any (y : Int) (h1 : 2000 ≤ y) (h2 : y ≤ 1000000) (w : World) :
    Calls Tryd.prog 66 #[.int .i64 y] w fun e w' => e = .returned (.int .i64 (DM.bef y)) ∧ w = w' := by
  go_enter Tryd.func66, Tryd.ntmps66
  go_wp2
  go_ret
  exact ⟨ret_int rfl, rfl⟩
end Go.Proofs.YtminphldifncaaaDoor

/- Walks of date.Of and of the reference's Length and Of. -/
namespace Go.Proofs.YtminphldifncaaaDoor
open Go.RowKit

theorem Months.alloc {w : World} (h : Months w) (o : Obj) : Months (w.alloc o) := by
  intro i hi
  have := h i hi
  rw [World.cell?_alloc_past _ _ _ (by
    rcases Nat.lt_or_ge 0 w.heap.size with g | g
    · exact g
    · simp [World.cell?, Array.getElem?_eq_none g] at this)]
  exact this
theorem Months.pos {w : World} (h : Months w) : 0 < w.heap.size := by
  rcases Nat.lt_or_ge 0 w.heap.size with g | g
  · exact g
  · have := h 0 (by omega); simp [World.cell?, Array.getElem?_eq_none g] at this
theorem Months.below {w w' : World} (h : Months w) {B : Nat} (hB : 0 < B) (hb : Below B w w') : Months w' := fun i hi =>
  (hb.cell (p := ⟨0, i, none⟩) hB).trans (h i hi)

/-- What Of gives: a valid date with the day's number, and the hour of the day. -/
def OfYes (n : Int) (w : World) (e : Ending) (w' : World) : Prop := ∃ y m d : Int,
  e = .returned (.tuple #[.agg #[.int .i64 y, .int .i64 m, .int .i64 d, .int .i64 (n % 24)], .bool true]) ∧ DM.vld y m d ∧ DM.num y m d = n / 24 ∧ 2000 ≤ y ∧ y ≤ 3914 ∧ Below w.heap.size w w'
def OfNo (w : World) (e : Ending) (w' : World) : Prop :=
  e = .returned (.tuple #[.agg #[.int .i64 0, .int .i64 0, .int .i64 0, .int .i64 0], .bool false]) ∧ Below w.heap.size w w'

set_option maxHeartbeats 400000 in
theorem of_no (n : Int) (w : World) (h : n < 0 ∨ 16777216 < n) : Calls Tryd.prog 51 #[.int .i64 n] w (OfNo w) := by
  rcases h with h | h
  · go_enter Tryd.func51, Tryd.ntmps51
    go_wp2
    exact bodyPost_ret (v := .tuple #[.agg #[.int .i64 0, .int .i64 0, .int .i64 0, .int .i64 0], .bool false]) (by simp [results, Tryd.results51, go_sem]) rfl ⟨rfl, (Below.refl _ _).alloc (Nat.le_refl _) _⟩
  · have h' : ¬ n < 0 := by omega
    go_enter Tryd.func51, Tryd.ntmps51
    go_wp2
    exact bodyPost_ret (v := .tuple #[.agg #[.int .i64 0, .int .i64 0, .int .i64 0, .int .i64 0], .bool false]) (by simp [results, Tryd.results51, go_sem]) rfl ⟨rfl, (Below.refl _ _).alloc (Nat.le_refl _) _⟩

theorem of_end {n y m : Int} (a : 1 ≤ m) (b : m ≤ 12) (c : 0 ≤ n / 24 - DM.bef y - DM.cum y m) (d : n / 24 - DM.bef y - DM.cum y m < DM.len y m) :
    DM.vld y m (n / 24 - DM.bef y - DM.cum y m + 1) ∧ DM.num y m (n / 24 - DM.bef y - DM.cum y m + 1) = n / 24 := by
  unfold DM.vld DM.num; omega

set_option maxHeartbeats 1000000 in
theorem of_yes (n : Int) (w : World) (h1 : 0 ≤ n) (h2 : n ≤ 16777216) (hM : Months w) : Calls Tryd.prog 51 #[.int .i64 n] w (OfYes n w) := by
  have g0 := DM.bef_guess (n / 24) (by omega)
  have hM2 := Months.alloc hM (.cells #[.int .i64 0, .int .i64 0, .int .i64 0, .int .i64 0] 87)
  go_enter Tryd.func51, Tryd.ntmps51
  go_wp2
  go_loop [5] (fun t => ∃ y : Int, 2000 ≤ y ∧ y ≤ 4000 ∧ DM.bef y ≤ n / 24 ∧ t = .int .i64 y) (fun t => (5000 - intOf t).toNat)
  case atStart => exact ⟨_, by omega, by omega, g0, rfl⟩
  case round =>
    obtain ⟨y, hy1, hy2, hy3, rfl⟩ := hrel
    have hy4 := DM.bef_big (y := y) (by omega)
    by_cases hc : DM.bef (y + 1) ≤ n / 24
    · go_wp2_with (go_at_call 66; refine (before_any _ (by omega) (by omega) _).mono ?_; rintro e w' ⟨rfl, rfl⟩)
      go_round
      case rel => exact ⟨y + 1, by omega, by omega, hc, rfl⟩
      case measure => simp [intOf]; omega
    · have hz : n / 24 < DM.bef (y + 1) := by omega
      have hl := DM.lp_01 y
      have hb := DM.bef_nonneg hy1
      have hs : DM.bef (y + 1) ≤ DM.bef y + 366 := by rw [DM.bef_succ]; omega
      clear hc g0
      go_wp2_with (go_at_call 66; refine (before_any _ (by omega) (by omega) _).mono ?_; rintro e w' ⟨rfl, rfl⟩)
      go_loop [4, 6] (fun r k => ∃ m : Int, 1 ≤ m ∧ m ≤ 12 ∧ k = .int .i64 m ∧ 0 ≤ n / 24 - DM.bef y - DM.cum y m ∧ r = .int .i64 (n / 24 - DM.bef y - DM.cum y m)) (fun _ k => (12 - intOf k).toNat)
      case atStart => exact ⟨1, by omega, by omega, rfl, by simp [DM.cum_1]; omega, by simp [DM.cum_1]⟩
      case round =>
        obtain ⟨m, hm1, hm2, rfl, hr, rfl⟩ := hrel
        have cb := DM.cum_bd y m
        have db := DM.len_bd y m
        have cs := Lib.hid (DM.cum_succ y m hm1 hm2)
        by_cases hc : DM.len y m ≤ n / 24 - DM.bef y - DM.cum y m
        · have hm3 : m < 12 := by
            rcases Int.lt_or_eq_of_le hm2 with g | g
            · exact g
            · subst g; have h3 := DM.cum_succ y 12 (by omega) (by omega); have h13 := DM.cum_13 y; rw [show (12 : Int) + 1 = 13 from rfl] at h3; have := DM.bef_succ y; omega
          go_wp2_with (go_at_call 67; refine (length_any _ _ (by omega) (by omega) _ hM2).mono ?_; rintro e w' ⟨rfl, rfl⟩)
          go_round
          case rel => exact ⟨m + 1, by omega, by omega, rfl, by rw [cs.out]; omega, by rw [cs.out]; go_num⟩
          case measure => simp [intOf]; omega
        · have hv : n / 24 - DM.bef y - DM.cum y m < DM.len y m := by omega
          clear hc
          go_wp2_with (go_at_call 67; refine (length_any _ _ (by omega) (by omega) _ hM2).mono ?_; rintro e w' ⟨rfl, rfl⟩)
          refine bodyPost_ret (v := .tuple #[.agg #[.int .i64 y, .int .i64 m, .int .i64 (n / 24 - DM.bef y - DM.cum y m + 1), .int .i64 (n % 24)], .bool true]) (by simp [results, Tryd.results51, go_sem]) rfl ⟨y, m, _, rfl, (of_end hm1 hm2 hr hv).1, (of_end hm1 hm2 hr hv).2, hy1, hy4, ?_⟩
          exact (Below.refl _ _).alloc (Nat.le_refl _) _
end Go.Proofs.YtminphldifncaaaDoor

/- Walks of the reference's Length, Of, Valid, and the reference's Valid. -/
namespace Go.Proofs.YtminphldifncaaaDoor
open Go.RowKit

theorem Months.drewN {w : World} (h : Months w) (n : Nat) : Months (w.drewN n) := h

theorem len2 (y : Int) : DM.len y 2 = if y % 4 = 0 ∧ (y % 100 ≠ 0 ∨ y % 400 = 0) then 29 else 28 := by
  simp only [DM.len, DM.lp, if_pos]
  by_cases hq : y % 4 = 0 ∧ (y % 100 ≠ 0 ∨ y % 400 = 0)
  · rw [if_pos hq, if_pos hq]; rfl
  · rw [if_neg hq, if_neg hq]; rfl
set_option maxHeartbeats 400000 in
theorem rlength_any (y m : Int) (w : World) :
    Calls Tryd.prog 74 #[.int .i64 y, .int .i64 m] w fun e w' => e = .returned (.int .i64 (DM.len y m)) ∧ w = w' := by
  by_cases hm : m = 2
  · subst hm
    have H : Hid (((y.tmod 4 = 0 ↔ y % 4 = 0) ∧ (y.tmod 100 = 0 ↔ y % 100 = 0) ∧ (y.tmod 400 = 0 ↔ y % 400 = 0)) ∧ DM.len y 2 = if y % 4 = 0 ∧ (y % 100 ≠ 0 ∨ y % 400 = 0) then 29 else 28) :=
      ⟨⟨tmod_0 y 4 (by omega), tmod_0 y 100 (by omega), tmod_0 y 400 (by omega)⟩, len2 y⟩
    go_enter Tryd.func74, Tryd.ntmps74
    go_wp2
    all_goals go_ret
    all_goals refine ⟨ret_int ?_, rfl⟩
    all_goals obtain ⟨⟨h4, h1, h40⟩, h⟩ := H
    all_goals simp_all
  · have h2 : (m == 2) = false := by simpa using hm
    by_cases h : m = 4 ∨ m = 6 ∨ m = 9 ∨ m = 11
    · have H : Hid (DM.len y m = 30) := by unfold DM.len; rw [if_neg hm, if_pos h]; exact rfl
      rcases h with rfl | rfl | rfl | rfl
      all_goals
        go_enter Tryd.func74, Tryd.ntmps74
        go_wp2
        go_ret
        exact ⟨ret_int H.out.symm, rfl⟩
    · have H : Hid (DM.len y m = 31) := by unfold DM.len; rw [if_neg hm, if_neg h]; exact rfl
      have h4 : (m == 4) = false := by rw [beq_eq_false_iff_ne]; omega
      have h6 : (m == 6) = false := by rw [beq_eq_false_iff_ne]; omega
      have h9 : (m == 9) = false := by rw [beq_eq_false_iff_ne]; omega
      have h11 : (m == 11) = false := by rw [beq_eq_false_iff_ne]; omega
      clear h hm
      go_enter Tryd.func74, Tryd.ntmps74
      go_wp2
      go_ret
      exact ⟨ret_int H.out.symm, rfl⟩

set_option maxHeartbeats 400000 in
theorem rof_no (n : Int) (w : World) (h : n < 0 ∨ 16777216 < n) : Calls Tryd.prog 64 #[.int .i64 n] w (OfNo w) := by
  rcases h with h | h
  · go_enter Tryd.func64, Tryd.ntmps64
    go_wp2
    exact bodyPost_ret (v := .tuple #[.agg #[.int .i64 0, .int .i64 0, .int .i64 0, .int .i64 0], .bool false]) (by simp [results, Tryd.results64, go_sem]) rfl ⟨rfl, (Below.refl _ _).alloc (Nat.le_refl _) _⟩
  · have h' : ¬ n < 0 := by omega
    go_enter Tryd.func64, Tryd.ntmps64
    go_wp2
    exact bodyPost_ret (v := .tuple #[.agg #[.int .i64 0, .int .i64 0, .int .i64 0, .int .i64 0], .bool false]) (by simp [results, Tryd.results64, go_sem]) rfl ⟨rfl, (Below.refl _ _).alloc (Nat.le_refl _) _⟩

set_option maxHeartbeats 1000000 in
theorem rof_yes (n : Int) (w : World) (h1 : 0 ≤ n) (h2 : n ≤ 16777216) : Calls Tryd.prog 64 #[.int .i64 n] w (OfYes n w) := by
  have e0 := Lib.hid DM.bef_2000
  have e1 := Lib.hid (DM.cum_1 2000)
  go_enter Tryd.func64, Tryd.ntmps64
  go_wp2
  go_loop [4, 5, 6] (fun r t k => ∃ y m : Int, 2000 ≤ y ∧ DM.bef y ≤ n / 24 ∧ 1 ≤ m ∧ m ≤ 12 ∧ t = .int .i64 y ∧ k = .int .i64 m ∧ 0 ≤ n / 24 - DM.bef y - DM.cum y m ∧ r = .int .i64 (n / 24 - DM.bef y - DM.cum y m)) (fun r _ _ => (intOf r).toNat)
  case atStart => exact ⟨2000, 1, by omega, by rw [e0.out]; omega, by omega, by omega, rfl, rfl, by rw [e0.out, e1.out]; omega, by rw [e0.out, e1.out]; go_num⟩
  case round =>
    obtain ⟨y, m, hy1, hy3, hm1, hm2, rfl, rfl, hr, rfl⟩ := hrel
    have hy4 := DM.bef_big (y := y) (by omega)
    have cb := DM.cum_bd y m
    have db := DM.len_bd y m
    have hb := DM.bef_nonneg hy1
    have cs := Lib.hid (DM.cum_succ y m hm1 hm2)
    by_cases hc : DM.len y m ≤ n / 24 - DM.bef y - DM.cum y m
    · by_cases hm3 : m < 12
      · go_wp2_with (go_at_call 74; refine (rlength_any _ _ _).mono ?_; rintro e w' ⟨rfl, rfl⟩)
        go_round
        case rel => exact ⟨y, m + 1, by omega, by omega, by omega, by omega, rfl, rfl, by rw [cs.out]; omega, by rw [cs.out]; go_num⟩
        case measure => simp [intOf]; omega
      · obtain rfl : (12 : Int) = m := by omega
        have hx : Hid (DM.bef (y + 1) = DM.bef y + DM.cum y 12 + DM.len y 12 ∧ DM.cum (y + 1) 1 = 0) := by
          have h3 := DM.cum_succ y 12 (by omega) (by omega); have h13 := DM.cum_13 y; rw [show (12 : Int) + 1 = 13 from rfl] at h3
          have := DM.bef_succ y
          exact ⟨by omega, DM.cum_1 _⟩
        go_wp2_with (go_at_call 74; refine (rlength_any _ _ _).mono ?_; rintro e w' ⟨rfl, rfl⟩)
        go_round
        case rel => exact ⟨y + 1, 1, by omega, by rw [hx.out.1]; omega, by omega, by omega, rfl, rfl, by rw [hx.out.1, hx.out.2]; omega, by rw [hx.out.1, hx.out.2]; go_num⟩
        case measure => simp [intOf]; omega
    · have hv : n / 24 - DM.bef y - DM.cum y m < DM.len y m := by omega
      clear hc
      go_wp2_with (go_at_call 74; refine (rlength_any _ _ _).mono ?_; rintro e w' ⟨rfl, rfl⟩)
      refine bodyPost_ret (v := .tuple #[.agg #[.int .i64 y, .int .i64 m, .int .i64 (n / 24 - DM.bef y - DM.cum y m + 1), .int .i64 (n % 24)], .bool true]) (by simp [results, Tryd.results64, go_sem]) rfl ⟨y, m, _, rfl, (of_end hm1 hm2 hr hv).1, (of_end hm1 hm2 hr hv).2, hy1, hy4, ?_⟩
      exact (Below.refl _ _).alloc (Nat.le_refl _) _

/-- A date and an hour of the day that the reference calls valid. -/
def okB (y m d h : Int) : Bool := decide (1 ≤ m ∧ m ≤ 12 ∧ 1 ≤ d ∧ d ≤ DM.len y m ∧ 0 ≤ h ∧ h ≤ 23)
def agg4 (y m d h : Int) : Value := .agg #[.int .i64 y, .int .i64 m, .int .i64 d, .int .i64 h]

end Go.Proofs.YtminphldifncaaaDoor

