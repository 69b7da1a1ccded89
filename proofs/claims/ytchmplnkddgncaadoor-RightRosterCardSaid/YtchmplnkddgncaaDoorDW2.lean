/- Walks of date.Of and of the reference's Length and Of. -/
import Derived.Test.YtchmplnkddgncaaDoorDW1
set_option linter.unusedSimpArgs false
set_option linter.unusedVariables false
namespace Go.Proofs.YtchmplnkddgncaaDoor
open Go.RowKit

theorem Months.alloc {w : World} (h : Months w) (o : Obj) : Months (w.alloc o) := by
  intro i hi
  have := h i hi
  rw [World.cell?_alloc_past _ _ _ (by
    rcases Nat.lt_or_ge 0 w.heap.size with g | g
    · exact g
    · simp [World.cell?, Array.getElem?_eq_none g] at this)]
  exact this
theorem Months.pos {w : World} (h : Months w) : 0 < w.heap.size := by
  rcases Nat.lt_or_ge 0 w.heap.size with g | g
  · exact g
  · have := h 0 (by omega); simp [World.cell?, Array.getElem?_eq_none g] at this
theorem Months.below {w w' : World} (h : Months w) {B : Nat} (hB : 0 < B) (hb : Below B w w') : Months w' := fun i hi =>
  (hb.cell (p := ⟨0, i, none⟩) hB).trans (h i hi)

/-- What Of gives: a valid date with the day's number, and the hour of the day. -/
def OfYes (n : Int) (w : World) (e : Ending) (w' : World) : Prop := ∃ y m d : Int,
  e = .returned (.tuple #[.agg #[.int .i64 y, .int .i64 m, .int .i64 d, .int .i64 (n % 24)], .bool true]) ∧ DM.vld y m d ∧ DM.num y m d = n / 24 ∧ 2000 ≤ y ∧ y ≤ 3914 ∧ Below w.heap.size w w'
def OfNo (w : World) (e : Ending) (w' : World) : Prop :=
  e = .returned (.tuple #[.agg #[.int .i64 0, .int .i64 0, .int .i64 0, .int .i64 0], .bool false]) ∧ Below w.heap.size w w'

set_option maxHeartbeats 400000 in
theorem of_no (n : Int) (w : World) (h : n < 0 ∨ 16777216 < n) : Calls Tryd.prog 20 #[.int .i64 n] w (OfNo w) := by
  rcases h with h | h
  · go_enter Tryd.func20, Tryd.ntmps20
    go_wp2
    exact bodyPost_ret (v := .tuple #[.agg #[.int .i64 0, .int .i64 0, .int .i64 0, .int .i64 0], .bool false]) (by simp [results, Tryd.results20, go_sem]) rfl ⟨rfl, (Below.refl _ _).alloc (Nat.le_refl _) _⟩
  · have h' : ¬ n < 0 := by omega
    go_enter Tryd.func20, Tryd.ntmps20
    go_wp2
    exact bodyPost_ret (v := .tuple #[.agg #[.int .i64 0, .int .i64 0, .int .i64 0, .int .i64 0], .bool false]) (by simp [results, Tryd.results20, go_sem]) rfl ⟨rfl, (Below.refl _ _).alloc (Nat.le_refl _) _⟩

theorem of_end {n y m : Int} (a : 1 ≤ m) (b : m ≤ 12) (c : 0 ≤ n / 24 - DM.bef y - DM.cum y m) (d : n / 24 - DM.bef y - DM.cum y m < DM.len y m) :
    DM.vld y m (n / 24 - DM.bef y - DM.cum y m + 1) ∧ DM.num y m (n / 24 - DM.bef y - DM.cum y m + 1) = n / 24 := by
  unfold DM.vld DM.num; omega

set_option maxHeartbeats 1000000 in
theorem of_yes (n : Int) (w : World) (h1 : 0 ≤ n) (h2 : n ≤ 16777216) (hM : Months w) : Calls Tryd.prog 20 #[.int .i64 n] w (OfYes n w) := by
  have g0 := DM.bef_guess (n / 24) (by omega)
  have hM2 := Months.alloc hM (.cells #[.int .i64 0, .int .i64 0, .int .i64 0, .int .i64 0] 50)
  go_enter Tryd.func20, Tryd.ntmps20
  go_wp2
  go_loop [5] (fun t => ∃ y : Int, 2000 ≤ y ∧ y ≤ 4000 ∧ DM.bef y ≤ n / 24 ∧ t = .int .i64 y) (fun t => (5000 - intOf t).toNat)
  case atStart => exact ⟨_, by omega, by omega, g0, rfl⟩
  case round =>
    obtain ⟨y, hy1, hy2, hy3, rfl⟩ := hrel
    have hy4 := DM.bef_big (y := y) (by omega)
    by_cases hc : DM.bef (y + 1) ≤ n / 24
    · go_wp2_with (go_at_call 38; refine (before_any _ (by omega) (by omega) _).mono ?_; rintro e w' ⟨rfl, rfl⟩)
      go_round
      case rel => exact ⟨y + 1, by omega, by omega, hc, rfl⟩
      case measure => simp [intOf]; omega
    · have hz : n / 24 < DM.bef (y + 1) := by omega
      have hl := DM.lp_01 y
      have hb := DM.bef_nonneg hy1
      have hs : DM.bef (y + 1) ≤ DM.bef y + 366 := by rw [DM.bef_succ]; omega
      clear hc g0
      go_wp2_with (go_at_call 38; refine (before_any _ (by omega) (by omega) _).mono ?_; rintro e w' ⟨rfl, rfl⟩)
      go_loop [4, 6] (fun r k => ∃ m : Int, 1 ≤ m ∧ m ≤ 12 ∧ k = .int .i64 m ∧ 0 ≤ n / 24 - DM.bef y - DM.cum y m ∧ r = .int .i64 (n / 24 - DM.bef y - DM.cum y m)) (fun _ k => (12 - intOf k).toNat)
      case atStart => exact ⟨1, by omega, by omega, rfl, by simp [DM.cum_1]; omega, by simp [DM.cum_1]⟩
      case round =>
        obtain ⟨m, hm1, hm2, rfl, hr, rfl⟩ := hrel
        have cb := DM.cum_bd y m
        have db := DM.len_bd y m
        have cs := Lib.hid (DM.cum_succ y m hm1 hm2)
        by_cases hc : DM.len y m ≤ n / 24 - DM.bef y - DM.cum y m
        · have hm3 : m < 12 := by
            rcases Int.lt_or_eq_of_le hm2 with g | g
            · exact g
            · subst g; have h3 := DM.cum_succ y 12 (by omega) (by omega); have h13 := DM.cum_13 y; rw [show (12 : Int) + 1 = 13 from rfl] at h3; have := DM.bef_succ y; omega
          go_wp2_with (go_at_call 39; refine (length_any _ _ (by omega) (by omega) _ hM2).mono ?_; rintro e w' ⟨rfl, rfl⟩)
          go_round
          case rel => exact ⟨m + 1, by omega, by omega, rfl, by rw [cs.out]; omega, by rw [cs.out]; go_num⟩
          case measure => simp [intOf]; omega
        · have hv : n / 24 - DM.bef y - DM.cum y m < DM.len y m := by omega
          clear hc
          go_wp2_with (go_at_call 39; refine (length_any _ _ (by omega) (by omega) _ hM2).mono ?_; rintro e w' ⟨rfl, rfl⟩)
          refine bodyPost_ret (v := .tuple #[.agg #[.int .i64 y, .int .i64 m, .int .i64 (n / 24 - DM.bef y - DM.cum y m + 1), .int .i64 (n % 24)], .bool true]) (by simp [results, Tryd.results20, go_sem]) rfl ⟨y, m, _, rfl, (of_end hm1 hm2 hr hv).1, (of_end hm1 hm2 hr hv).2, hy1, hy4, ?_⟩
          exact (Below.refl _ _).alloc (Nat.le_refl _) _
end Go.Proofs.YtchmplnkddgncaaDoor
