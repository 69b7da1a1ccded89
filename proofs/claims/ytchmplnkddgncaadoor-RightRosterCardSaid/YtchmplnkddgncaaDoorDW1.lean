/- Walks of the leaves of package date: leap, length, before; and of the reference: Length, Valid. -/
import Derived.Test.YtchmplnkddgncaaDoorRows
import Derived.Test.YtchmplnkddgncaaDoorMem
import Derived.WalkKit
import Derived.WalkSpells
import Derived.WalkLawsBesides
import Derived.Lib.Hide
import Derived.BigQuiet
import Derived.Test.YtchmplnkddgncaaDoorMath
set_option linter.unusedSimpArgs false
set_option linter.unusedVariables false
namespace Go.Proofs.YtchmplnkddgncaaDoor
open Go.RowKit


def leapB (y : Int) : Bool := decide (DM.lp y = 1)
theorem leapB_eq (y : Int) : leapB y = decide (y % 4 = 0 ∧ (y % 100 ≠ 0 ∨ y % 400 = 0)) := by
  unfold leapB DM.lp; split <;> simp_all
theorem tmod_0 (y k : Int) (hk : 0 < k) : y.tmod k = 0 ↔ y % k = 0 := by
  constructor
  · intro h; exact Int.emod_eq_zero_of_dvd (Int.dvd_of_tmod_eq_zero h)
  · intro h; exact Int.tmod_eq_zero_of_dvd (Int.dvd_of_emod_eq_zero h)

set_option maxHeartbeats 400000 in
theorem leap_any (y : Int) (w : World) :
    Calls Tryd.prog 45 #[.int .i64 y] w fun e w' => e = .returned (.bool (leapB y)) ∧ w = w' := by
  have h4 := tmod_0 y 4 (by omega)
  have h1 := tmod_0 y 100 (by omega)
  have h40 := tmod_0 y 400 (by omega)
  have H : Hid ((y.tmod 4 = 0 ↔ y % 4 = 0) ∧ (y.tmod 100 = 0 ↔ y % 100 = 0) ∧ (y.tmod 400 = 0 ↔ y % 400 = 0)) := ⟨h4, h1, h40⟩
  clear h4 h1 h40
  go_enter Tryd.func45, Tryd.ntmps45
  go_wp2
  all_goals go_ret
  all_goals refine ⟨ret_bool ?_, rfl⟩
  all_goals obtain ⟨h4, h1, h40⟩ := H
  all_goals rw [leapB_eq]
  · show (y.tmod 400 == 0) = _
    rw [Bool.eq_iff_iff]; simp_all
  · show true = _
    simp_all
  · show false = _
    simp_all

/-- The cells of the variable months. -/
def mon (i : Nat) : Int := [31, 29, 31, 30, 31, 30, 31, 31, 30, 31, 30, 31].getD i 0
def Months (w : World) : Prop := ∀ i, i < 12 → w.cell? ⟨0, i, none⟩ = some (.int .i64 (mon i))
theorem mon_len (m : Int) (h1 : 1 ≤ m) (h2 : m ≤ 12) (y : Int) (h : m = 2 → leapB y = true) : mon (m - 1).toNat = DM.len y m := by
  have : m = 1 ∨ m = 2 ∨ m = 3 ∨ m = 4 ∨ m = 5 ∨ m = 6 ∨ m = 7 ∨ m = 8 ∨ m = 9 ∨ m = 10 ∨ m = 11 ∨ m = 12 := by omega
  rcases this with e | e | e | e | e | e | e | e | e | e | e | e <;> subst e <;> simp [mon, DM.len]
  have h3 := h rfl
  unfold leapB at h3; simp at h3; omega

set_option maxHeartbeats 400000 in
theorem length_any (y m : Int) (h1 : 1 ≤ m) (h2 : m ≤ 12) (w : World) (hm : Months w) :
    Calls Tryd.prog 39 #[.int .i64 y, .int .i64 m] w fun e w' => e = .returned (.int .i64 (DM.len y m)) ∧ w = w' := by
  have hc : w.cell? ⟨0, m.toNat - 1, none⟩ = some (.int .i64 (mon (m - 1).toNat)) := by
    have := hm (m - 1).toNat (by omega)
    rwa [show (m - 1).toNat = m.toNat - 1 by omega] at this ⊢
  clear hm
  by_cases hm : m = 2
  · subst hm
    have hc : w.cell? ⟨0, 1, none⟩ = some (.int .i64 (mon 1)) := hc
    by_cases hl : leapB y = true
    · have H := mon_len 2 (by omega) (by omega) y (fun _ => hl)
      have H : mon 1 = DM.len y 2 := H
      generalize mon 1 = mm at *
      have H2 := Lib.hid H
      clear H
      go_enter Tryd.func39, Tryd.ntmps39
      go_wp2_with (go_at_call 45; refine (leap_any _ _).mono ?_; rintro e w' ⟨rfl, rfl⟩)
      go_ret
      exact ⟨ret_int H2.out, rfl⟩
    · have hl' : leapB y = false := by simpa using hl
      clear hl
      have H : DM.len y 2 = 28 := by
        have := DM.lp_01 y
        unfold leapB at hl'; simp at hl'
        simp [DM.len]; omega
      have H2 := Lib.hid H
      clear H
      go_enter Tryd.func39, Tryd.ntmps39
      go_wp2_with (go_at_call 45; refine (leap_any _ _).mono ?_; rintro e w' ⟨rfl, rfl⟩)
      go_ret
      exact ⟨ret_int H2.out.symm, rfl⟩
  · have hm' : (m == 2) = false := by simpa using hm
    have H := Lib.hid (mon_len m h1 h2 y (fun h => absurd h hm))
    generalize mon (m - 1).toNat = mm at *
    go_enter Tryd.func39, Tryd.ntmps39
    go_wp2
    go_ret
    exact ⟨ret_int H.out, rfl⟩

set_option maxHeartbeats 400000 in
theorem before_any (y : Int) (h1 : 2000 ≤ y) (h2 : y ≤ 1000000) (w : World) :
    Calls Tryd.prog 38 #[.int .i64 y] w fun e w' => e = .returned (.int .i64 (DM.bef y)) ∧ w = w' := by
  go_enter Tryd.func38, Tryd.ntmps38
  go_wp2
  go_ret
  exact ⟨ret_int rfl, rfl⟩
end Go.Proofs.YtchmplnkddgncaaDoor
