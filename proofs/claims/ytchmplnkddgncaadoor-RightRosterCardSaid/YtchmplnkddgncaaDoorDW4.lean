/- Walks of date.exists and date.In, and of the reference's MonthDay and In. -/
import Derived.Test.YtchmplnkddgncaaDoorDW3
import Derived.Test.YtchmplnkddgncaaDoorRE
set_option linter.unusedSimpArgs false
set_option linter.unusedVariables false
namespace Go.Proofs.YtchmplnkddgncaaDoor
open Go.RowKit RG
attribute [local go_sem] alloc_drewN setCell_drewN shape_drewN

theorem quiet_drawn {P : Program} {f : FuncId} {args : Array Value} {w : World} {n : Nat} {v : Value}
    (h : Calls P f args (w.drewN n) fun e w' => e = .returned v ∧ ∃ k, w' = (w.drewN n).drewN k) : Calls P f args (w.drewN n) fun e w'' => e = .returned v ∧ ∃ m, w'' = w.drewN m :=
  h.mono fun _ _ ⟨he, k, hk⟩ => ⟨he, n + k, by rw [hk, World.drewN_drewN]⟩
theorem quiet_add_drawn {P : Program} {f : FuncId} {args : Array Value} {w : World} {a n : Nat} {v : Value}
    (h : Calls P f args (w.drewN (a + n)) fun e w' => e = .returned v ∧ ∃ k, w' = (w.drewN (a + n)).drewN k) :
    Calls P f args (w.drewN (a + n)) fun e w'' => e = .returned v ∧ ∃ m, w'' = w.drewN (a + m) :=
  h.mono fun _ _ ⟨he, k, hk⟩ => ⟨he, n + k, by rw [hk, World.drewN_drewN, Nat.add_assoc]⟩
theorem exB_no {m d : Int} (h : ¬ (1 ≤ m ∧ m ≤ 12 ∧ 1 ≤ d ∧ d ≤ DM.len 2000 m)) : exB m d = false := decide_eq_false h
def DrawnB (b : Bool) (w : World) (e : Ending) (w' : World) : Prop := e = .returned (.bool b) ∧ ∃ n, w' = w.drewN n

set_option maxHeartbeats 1000000 in
theorem exists_any (m d : Int) (w : World) (hM : Months w) : Calls Tryd.prog 40 #[.int .i64 m, .int .i64 d] w fun e w' => e = .returned (.bool (exB m d)) ∧ w = w' := by
  by_cases k1 : 1 ≤ m
  case neg =>
    have H := Lib.hid (exB_no (d := d) (m := m) (by omega))
    have hd : decide (1 ≤ m) = false := by rw [decide_eq_false_iff_not]; omega
    go_enter Tryd.func40, Tryd.ntmps40
    go_wp2_with fail
    go_ret
    exact ⟨ret_bool H.out.symm, rfl⟩
  by_cases k2 : m ≤ 12
  case neg =>
    have H := Lib.hid (exB_no (d := d) (m := m) (by omega))
    have hd : decide (m ≤ 12) = false := by rw [decide_eq_false_iff_not]; omega
    go_enter Tryd.func40, Tryd.ntmps40
    go_wp2_with fail
    go_ret
    exact ⟨ret_bool H.out.symm, rfl⟩
  by_cases k3 : 1 ≤ d
  case neg =>
    have H := Lib.hid (exB_no (d := d) (m := m) (by omega))
    have hd : decide (1 ≤ d) = false := by rw [decide_eq_false_iff_not]; omega
    go_enter Tryd.func40, Tryd.ntmps40
    go_wp2_with fail
    go_ret
    exact ⟨ret_bool H.out.symm, rfl⟩
  have hc : w.cell? ⟨0, m.toNat - 1, none⟩ = some (.int .i64 (mon (m - 1).toNat)) := by
    have := hM (m - 1).toNat (by omega)
    rwa [show (m - 1).toNat = m.toNat - 1 by omega] at this ⊢
  have H : Hid (exB m d = decide (d ≤ mon (m - 1).toNat)) := by
    show _ = _
    rw [mon_len m k1 k2 2000 (fun _ => by decide)]
    unfold exB
    rw [Bool.eq_iff_iff]
    simp
    omega
  generalize mon (m - 1).toNat = mm at hc H
  generalize exB m d = r at H ⊢
  clear hM
  go_enter Tryd.func40, Tryd.ntmps40
  go_wp2_with fail
  go_ret
  exact ⟨ret_bool H.out.symm, rfl⟩

def In64 (x : Int) : Prop := -9223372036854775808 ≤ x ∧ x ≤ 9223372036854775807
theorem wrap_tdiv {f : Int} (h : In64 f) : wrap64 (f.tdiv 100) = f.tdiv 100 := by
  obtain ⟨h1, h2⟩ := h
  have hb : -9223372036854775808 ≤ f.tdiv 100 ∧ f.tdiv 100 ≤ 9223372036854775807 := by
    rcases Int.lt_or_le f 0 with g | g
    · have e : f.tdiv 100 = -((-f).tdiv 100) := by rw [Int.neg_tdiv, Int.neg_neg]
      rw [e, Int.tdiv_eq_ediv_of_nonneg (by omega)]
      omega
    · rw [Int.tdiv_eq_ediv_of_nonneg g]; omega
  unfold wrap64; omega
set_option maxHeartbeats 1000000 in
theorem in_any (y m d h f u : Int) (w : World) (hM : Months w) (hf : In64 f) (hu : In64 u) : Calls Tryd.prog 21 #[.agg #[.int .i64 y, .int .i64 m, .int .i64 d, .int .i64 h], .int .i64 f, .int .i64 u] w fun e w' => e = .returned (.bool (inB m d f u)) ∧ Below w.heap.size w w' := by
  have K1 : Hid (Calls Tryd.prog 40 #[.int .i64 (f.tdiv 100), .int .i64 (f.tmod 100)] (w.alloc (.cells #[.int .i64 y, .int .i64 m, .int .i64 d, .int .i64 h] 50)) fun e w' => e = .returned (.bool (mdB f)) ∧ w.alloc (.cells #[.int .i64 y, .int .i64 m, .int .i64 d, .int .i64 h] 50) = w') := exists_any _ _ _ (hM.alloc _)
  have K2 : Hid (Calls Tryd.prog 40 #[.int .i64 (u.tdiv 100), .int .i64 (u.tmod 100)] (w.alloc (.cells #[.int .i64 y, .int .i64 m, .int .i64 d, .int .i64 h] 50)) fun e w' => e = .returned (.bool (mdB u)) ∧ w.alloc (.cells #[.int .i64 y, .int .i64 m, .int .i64 d, .int .i64 h] 50) = w') := exists_any _ _ _ (hM.alloc _)
  have K3 : Hid (Calls Tryd.prog 40 #[.int .i64 m, .int .i64 d] (w.alloc (.cells #[.int .i64 y, .int .i64 m, .int .i64 d, .int .i64 h] 50)) fun e w' => e = .returned (.bool (exB m d)) ∧ w.alloc (.cells #[.int .i64 y, .int .i64 m, .int .i64 d, .int .i64 h] 50) = w') := exists_any _ _ _ (hM.alloc _)
  have HR : Hid (inB m d f u = (mdB f && mdB u && exB m d && inX (100 * m + d) f u)) := rfl
  have HX : exB m d = true → 1 ≤ m ∧ m ≤ 12 ∧ 1 ≤ d ∧ d ≤ 31 := fun h => by
    have := DM.len_bd 2000 m
    have := of_decide_eq_true h
    omega
  generalize inB m d f u = R at HR ⊢
  generalize mdB f = b1 at *
  generalize mdB u = b2 at *
  generalize exB m d = b3 at *
  have hw1 := wrap_tdiv hf
  have hw2 := wrap_tdiv hu
  clear hM hf hu
  cases b1 with
  | false =>
    go_enter Tryd.func21, Tryd.ntmps21
    go_wp2_with (first | (go_at_call 40; first | ((with_reducible refine K1.out.mono ?_); rintro e1 w1 ⟨rfl, rfl⟩) | ((with_reducible refine K2.out.mono ?_); rintro e1 w1 ⟨rfl, rfl⟩) | ((with_reducible refine K3.out.mono ?_); rintro e1 w1 ⟨rfl, rfl⟩) | fail) | fail)
    go_ret
    exact ⟨ret_bool (by rw [HR.out]; rfl), (Below.refl _ _).alloc (Nat.le_refl _) _⟩
  | true =>
  cases b2 with
  | false =>
    go_enter Tryd.func21, Tryd.ntmps21
    go_wp2_with (first | (go_at_call 40; first | ((with_reducible refine K1.out.mono ?_); rintro e1 w1 ⟨rfl, rfl⟩) | ((with_reducible refine K2.out.mono ?_); rintro e1 w1 ⟨rfl, rfl⟩) | ((with_reducible refine K3.out.mono ?_); rintro e1 w1 ⟨rfl, rfl⟩) | fail) | fail)
    go_ret
    exact ⟨ret_bool (by rw [HR.out]; rfl), (Below.refl _ _).alloc (Nat.le_refl _) _⟩
  | true =>
  cases b3 with
  | false =>
    go_enter Tryd.func21, Tryd.ntmps21
    go_wp2_with (first | (go_at_call 40; first | ((with_reducible refine K1.out.mono ?_); rintro e1 w1 ⟨rfl, rfl⟩) | ((with_reducible refine K2.out.mono ?_); rintro e1 w1 ⟨rfl, rfl⟩) | ((with_reducible refine K3.out.mono ?_); rintro e1 w1 ⟨rfl, rfl⟩) | fail) | fail)
    go_ret
    exact ⟨ret_bool (by rw [HR.out]; rfl), (Below.refl _ _).alloc (Nat.le_refl _) _⟩
  | true =>
    obtain ⟨x1, x2, x3, x4⟩ := HX rfl
    clear HX
    have HR2 : Hid (R = if f ≤ u then decide (f ≤ 100 * m + d) && decide (100 * m + d ≤ u) else decide (f ≤ 100 * m + d) || decide (100 * m + d ≤ u)) := by rw [HR.out]; exact rfl
    clear HR
    obtain ⟨c1, hc1⟩ : ∃ c, decide (f ≤ 100 * m + d) = c := ⟨_, rfl⟩
    obtain ⟨c2, hc2⟩ : ∃ c, decide (100 * m + d ≤ u) = c := ⟨_, rfl⟩
    rw [hc1, hc2] at HR2
    by_cases fu : f ≤ u
    · have HR3 : Hid (R = (c1 && c2)) := by rw [HR2.out, if_pos fu]; exact rfl
      clear HR2
      cases c1 <;> cases c2
      all_goals
        go_enter Tryd.func21, Tryd.ntmps21
        go_wp2_with (first | (go_at_call 40; first | ((with_reducible refine (K1.out).mono ?_); rintro e1 w1 ⟨rfl, rfl⟩) | ((with_reducible refine (K2.out).mono ?_); rintro e1 w1 ⟨rfl, rfl⟩) | ((with_reducible refine (K3.out).mono ?_); rintro e1 w1 ⟨rfl, rfl⟩) | fail) | fail)
        go_ret
        exact ⟨ret_bool (by rw [HR3.out]; rfl), (Below.refl _ _).alloc (Nat.le_refl _) _⟩
    · have HR3 : Hid (R = (c1 || c2)) := by rw [HR2.out, if_neg fu]; exact rfl
      clear HR2
      cases c1 <;> cases c2
      all_goals
        go_enter Tryd.func21, Tryd.ntmps21
        go_wp2_with (first | (go_at_call 40; first | ((with_reducible refine (K1.out).mono ?_); rintro e1 w1 ⟨rfl, rfl⟩) | ((with_reducible refine (K2.out).mono ?_); rintro e1 w1 ⟨rfl, rfl⟩) | ((with_reducible refine (K3.out).mono ?_); rintro e1 w1 ⟨rfl, rfl⟩) | fail) | fail)
        go_ret
        exact ⟨ret_bool (by rw [HR3.out]; rfl), (Below.refl _ _).alloc (Nat.le_refl _) _⟩
end Go.Proofs.YtchmplnkddgncaaDoor
