/- Walks of the reference's MonthDay and In. -/
import Derived.Test.YtchmplnkddgncaaDoorDW4
set_option linter.unusedSimpArgs false
set_option linter.unusedVariables false
namespace Go.Proofs.YtchmplnkddgncaaDoor
open Go.RowKit RG
attribute [local go_sem] alloc_drewN setCell_drewN shape_drewN

theorem okB_ex (m d : Int) : okB 2000 m d 0 = exB m d := by
  unfold okB exB
  rw [Bool.eq_iff_iff]; simp
theorem mdB_small {n : Int} (h : n < 101) : mdB n = false := by
  refine exB_no fun ⟨a, b, c, d⟩ => ?_
  rcases Int.lt_or_le n 0 with g | g
  · have e : n.tdiv 100 = -((-n).tdiv 100) := by rw [Int.neg_tdiv, Int.neg_neg]
    rw [e, Int.tdiv_eq_ediv_of_nonneg (by omega)] at a
    omega
  · rw [Int.tdiv_eq_ediv_of_nonneg g] at a
    rw [Int.tmod_eq_emod_of_nonneg g] at c
    omega
theorem mdB_big {n : Int} (h : 1231 < n) : mdB n = false := by
  refine exB_no fun ⟨a, b, c, d⟩ => ?_
  rw [Int.tdiv_eq_ediv_of_nonneg (by omega)] at b d
  rw [Int.tmod_eq_emod_of_nonneg (by omega)] at d
  have := DM.len_bd 2000 (n / 100)
  omega
theorem mdB_in {n : Int} (h1 : 101 ≤ n) : mdB n = exB (n / 100) (n % 100) := by
  unfold mdB
  rw [Int.tdiv_eq_ediv_of_nonneg (by omega), Int.tmod_eq_emod_of_nonneg (by omega)]
set_option maxHeartbeats 1000000 in
theorem rmonthDay_any (n : Int) (w : World) : Calls Tryd.prog 25 #[.int .i64 n] w fun e w' => e = .returned (.bool (mdB n)) ∧ Below w.heap.size w w' := by
  by_cases k1 : 101 ≤ n
  case neg =>
    have H := Lib.hid (mdB_small (n := n) (by omega))
    have hd : decide (101 ≤ n) = false := by rw [decide_eq_false_iff_not]; omega
    go_enter Tryd.func25, Tryd.ntmps25
    go_wp2_with fail
    go_ret
    exact ⟨ret_bool H.out.symm, Below.refl _ _⟩
  by_cases k2 : n ≤ 1231
  case neg =>
    have H := Lib.hid (mdB_big (n := n) (by omega))
    have hd : decide (n ≤ 1231) = false := by rw [decide_eq_false_iff_not]; omega
    go_enter Tryd.func25, Tryd.ntmps25
    go_wp2_with fail
    go_ret
    exact ⟨ret_bool H.out.symm, Below.refl _ _⟩
  have K : Hid (Calls Tryd.prog 41 #[.agg #[.int .i64 2000, .int .i64 (n / 100), .int .i64 (n % 100), .int .i64 0]] w fun e w' => e = .returned (.bool (mdB n)) ∧ Below w.heap.size w w') := by
    have := valid_any 2000 (n / 100) (n % 100) 0 w
    rw [okB_ex, ← mdB_in k1] at this
    exact this
  generalize mdB n = r at K ⊢
  go_enter Tryd.func25, Tryd.ntmps25
  go_wp2_with (first | (go_at_call 41; (with_reducible refine K.out.mono ?_); rintro e1 w1 ⟨rfl, hb1⟩) | fail)
  go_ret
  exact ⟨rfl, hb1⟩
set_option maxHeartbeats 1000000 in
theorem rin_any (y m d h f u : Int) (w : World) (hf : In64 f) (hu : In64 u) : Calls Tryd.prog 27 #[.agg #[.int .i64 y, .int .i64 m, .int .i64 d, .int .i64 h], .int .i64 f, .int .i64 u] w fun e w' => e = .returned (.bool (inB m d f u)) ∧ Below w.heap.size w w' := by
  have K1 : Hid (∀ w, Calls Tryd.prog 41 #[.agg #[.int .i64 2000, .int .i64 m, .int .i64 d, .int .i64 0]] w fun e w' => e = .returned (.bool (exB m d)) ∧ Below w.heap.size w w') := fun w => by
    have := valid_any 2000 m d 0 w
    rw [okB_ex] at this
    exact this
  have K2 : Hid (∀ w, Calls Tryd.prog 25 #[.int .i64 f] w fun e w' => e = .returned (.bool (mdB f)) ∧ Below w.heap.size w w') := fun w => rmonthDay_any f w
  have K3 : Hid (∀ w, Calls Tryd.prog 25 #[.int .i64 u] w fun e w' => e = .returned (.bool (mdB u)) ∧ Below w.heap.size w w') := fun w => rmonthDay_any u w
  have HR : Hid (inB m d f u = (mdB f && mdB u && exB m d && (if f ≤ u then decide (f ≤ 100 * m + d) && decide (100 * m + d ≤ u) else decide (f ≤ 100 * m + d) || decide (100 * m + d ≤ u)))) := rfl
  have HX : exB m d = true → 1 ≤ m ∧ m ≤ 12 ∧ 1 ≤ d ∧ d ≤ 31 := fun h => by
    have := DM.len_bd 2000 m
    have := of_decide_eq_true h
    omega
  generalize inB m d f u = R at HR ⊢
  generalize mdB f = b1 at *
  generalize mdB u = b2 at *
  generalize exB m d = b3 at *
  clear hf hu
  by_cases hall : b1 = true ∧ b2 = true ∧ b3 = true
  case neg =>
    have HF : Hid (R = false) := by
      show _ = _
      rw [HR.out]
      cases b1 <;> cases b2 <;> cases b3 <;> simp at hall ⊢
    clear HR HX
    cases b1 <;> cases b2 <;> cases b3
    all_goals try (exact absurd ⟨rfl, rfl, rfl⟩ hall)
    all_goals
      clear hall
      go_enter Tryd.func27, Tryd.ntmps27
      go_wp2_with fail
      go_at_call 41
      (with_reducible refine (K1.out _).mono ?_)
      rintro e1 w1 ⟨rfl, hb1⟩
      have hc1 := hb1.cell (p := ⟨w.heap.size, 1, none⟩) (by simp)
      have hc2 := hb1.cell (p := ⟨w.heap.size, 2, none⟩) (by simp)
      have hB1 : Below w.heap.size w w1 := ((Below.refl _ _).alloc (Nat.le_refl _) _).trans (hb1.mono (by simp))
      have hz1 := hb1.size
      simp at hz1 hc1 hc2
      clear hb1
      go_wp2_with fail
      go_at_call 25
      (with_reducible refine (K2.out _).mono ?_)
      rintro e2 w2 ⟨rfl, hb2⟩
      have hd1 := (hb2.cell (p := ⟨w.heap.size, 1, none⟩) (by show w.heap.size < _; omega)).trans hc1
      have hd2 := (hb2.cell (p := ⟨w.heap.size, 2, none⟩) (by show w.heap.size < _; omega)).trans hc2
      have hB2 := hB1.trans (hb2.mono (by omega))
      have hz2 := hb2.size
      clear hc1 hc2 hb2
      go_wp2_with fail
      go_at_call 25
      (with_reducible refine (K3.out _).mono ?_)
      rintro e3 w3 ⟨rfl, hb3⟩
      have hf1 := (hb3.cell (p := ⟨w.heap.size, 1, none⟩) (by show w.heap.size < _; omega)).trans hd1
      have hf2 := (hb3.cell (p := ⟨w.heap.size, 2, none⟩) (by show w.heap.size < _; omega)).trans hd2
      have hB3 := hB2.trans (hb3.mono (by omega))
      clear hd1 hd2 hb3
      go_wp2_with fail
      go_ret
      exact ⟨ret_bool HF.out.symm, hB3⟩
  obtain ⟨rfl, rfl, rfl⟩ := hall
  obtain ⟨x1, x2, x3, x4⟩ := HX rfl
  clear HX
  have HR2 : Hid (R = if f ≤ u then decide (f ≤ 100 * m + d) && decide (100 * m + d ≤ u) else decide (f ≤ 100 * m + d) || decide (100 * m + d ≤ u)) := by rw [HR.out]; exact rfl
  clear HR
  obtain ⟨c1, hq1⟩ : ∃ c, decide (f ≤ 100 * m + d) = c := ⟨_, rfl⟩
  obtain ⟨c2, hq2⟩ : ∃ c, decide (100 * m + d ≤ u) = c := ⟨_, rfl⟩
  rw [hq1, hq2] at HR2
  by_cases fu : f ≤ u
  · have HR3 : Hid (R = (c1 && c2)) := by rw [HR2.out, if_pos fu]; exact rfl
    clear HR2
    cases c1 <;> cases c2
    all_goals
      go_enter Tryd.func27, Tryd.ntmps27
      go_wp2_with fail
      go_at_call 41
      (with_reducible refine (K1.out _).mono ?_)
      rintro e1 w1 ⟨rfl, hb1⟩
      have hc1 := hb1.cell (p := ⟨w.heap.size, 1, none⟩) (by simp)
      have hc2 := hb1.cell (p := ⟨w.heap.size, 2, none⟩) (by simp)
      have hB1 : Below w.heap.size w w1 := ((Below.refl _ _).alloc (Nat.le_refl _) _).trans (hb1.mono (by simp))
      have hz1 := hb1.size
      simp at hz1 hc1 hc2
      clear hb1
      go_wp2_with fail
      go_at_call 25
      (with_reducible refine (K2.out _).mono ?_)
      rintro e2 w2 ⟨rfl, hb2⟩
      have hd1 := (hb2.cell (p := ⟨w.heap.size, 1, none⟩) (by show w.heap.size < _; omega)).trans hc1
      have hd2 := (hb2.cell (p := ⟨w.heap.size, 2, none⟩) (by show w.heap.size < _; omega)).trans hc2
      have hB2 := hB1.trans (hb2.mono (by omega))
      have hz2 := hb2.size
      clear hc1 hc2 hb2
      go_wp2_with fail
      go_at_call 25
      (with_reducible refine (K3.out _).mono ?_)
      rintro e3 w3 ⟨rfl, hb3⟩
      have hf1 := (hb3.cell (p := ⟨w.heap.size, 1, none⟩) (by show w.heap.size < _; omega)).trans hd1
      have hf2 := (hb3.cell (p := ⟨w.heap.size, 2, none⟩) (by show w.heap.size < _; omega)).trans hd2
      have hB3 := hB2.trans (hb3.mono (by omega))
      clear hd1 hd2 hb3
      go_wp2_with fail
      go_ret
      exact ⟨ret_bool (by rw [HR3.out]; rfl), hB3⟩
  · have HR3 : Hid (R = (c1 || c2)) := by rw [HR2.out, if_neg fu]; exact rfl
    clear HR2
    cases c1 <;> cases c2
    all_goals
      go_enter Tryd.func27, Tryd.ntmps27
      go_wp2_with fail
      go_at_call 41
      (with_reducible refine (K1.out _).mono ?_)
      rintro e1 w1 ⟨rfl, hb1⟩
      have hc1 := hb1.cell (p := ⟨w.heap.size, 1, none⟩) (by simp)
      have hc2 := hb1.cell (p := ⟨w.heap.size, 2, none⟩) (by simp)
      have hB1 : Below w.heap.size w w1 := ((Below.refl _ _).alloc (Nat.le_refl _) _).trans (hb1.mono (by simp))
      have hz1 := hb1.size
      simp at hz1 hc1 hc2
      clear hb1
      go_wp2_with fail
      go_at_call 25
      (with_reducible refine (K2.out _).mono ?_)
      rintro e2 w2 ⟨rfl, hb2⟩
      have hd1 := (hb2.cell (p := ⟨w.heap.size, 1, none⟩) (by show w.heap.size < _; omega)).trans hc1
      have hd2 := (hb2.cell (p := ⟨w.heap.size, 2, none⟩) (by show w.heap.size < _; omega)).trans hc2
      have hB2 := hB1.trans (hb2.mono (by omega))
      have hz2 := hb2.size
      clear hc1 hc2 hb2
      go_wp2_with fail
      go_at_call 25
      (with_reducible refine (K3.out _).mono ?_)
      rintro e3 w3 ⟨rfl, hb3⟩
      have hf1 := (hb3.cell (p := ⟨w.heap.size, 1, none⟩) (by show w.heap.size < _; omega)).trans hd1
      have hf2 := (hb3.cell (p := ⟨w.heap.size, 2, none⟩) (by show w.heap.size < _; omega)).trans hd2
      have hB3 := hB2.trans (hb3.mono (by omega))
      clear hd1 hd2 hb3
      go_wp2_with fail
      go_ret
      exact ⟨ret_bool (by rw [HR3.out]; rfl), hB3⟩
end Go.Proofs.YtchmplnkddgncaaDoor
