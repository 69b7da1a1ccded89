/- Joined of: DW2 DW3 DW4 DW5 RowK EW RW1 RW2. -/
import Derived.Deep.QuietTactic
import Derived.BigQuiet
import Derived.Deep.AppendLies
import Derived.Test.YtkbceeobnbbfbaaDoorG11
import Derived.Test.YtkbceeobnbbfbaaDoorG02
import Derived.Test.YtkbceeobnbbfbaaDoorG05
import Derived.Test.YtkbceeobnbbfbaaDoorG07
import Derived.Test.YtkbceeobnbbfbaaDoorRows
/- Walks of date.Of and of the reference's Length and Of. -/
set_option linter.unusedSimpArgs false
set_option linter.unusedVariables false
namespace Go.Proofs.YtkbceeobnbbfbaaDoor.RR
open Go.RowKit

theorem Months.alloc {w : World} (h : Months w) (o : Obj) : Months (w.alloc o) := by
  intro i hi
  have := h i hi
  rw [World.cell?_alloc_past _ _ _ (by
    rcases Nat.lt_or_ge 0 w.heap.size with g | g
    · exact g
    · simp [World.cell?, Array.getElem?_eq_none g] at this)]
  exact this
theorem Months.pos {w : World} (h : Months w) : 0 < w.heap.size := by
  rcases Nat.lt_or_ge 0 w.heap.size with g | g
  · exact g
  · have := h 0 (by omega); simp [World.cell?, Array.getElem?_eq_none g] at this
theorem Months.below {w w' : World} (h : Months w) {B : Nat} (hB : 0 < B) (hb : Below B w w') : Months w' := fun i hi =>
  (hb.cell (p := ⟨0, i, none⟩) hB).trans (h i hi)

/-- What Of gives: a valid date with the day's number, and the hour of the day. -/
def OfYes (n : Int) (w : World) (e : Ending) (w' : World) : Prop := ∃ y m d : Int,
  e = .returned (.tuple #[.agg #[.int .i64 y, .int .i64 m, .int .i64 d, .int .i64 (n % 24)], .bool true]) ∧ DM.vld y m d ∧ DM.num y m d = n / 24 ∧ 2000 ≤ y ∧ y ≤ 3914 ∧ Below w.heap.size w w'
def OfNo (w : World) (e : Ending) (w' : World) : Prop :=
  e = .returned (.tuple #[.agg #[.int .i64 0, .int .i64 0, .int .i64 0, .int .i64 0], .bool false]) ∧ Below w.heap.size w w'

set_option maxHeartbeats 400000 in
theorem of_no (n : Int) (w : World) (h : n < 0 ∨ 16777216 < n) : Calls Tryd.prog 34 #[.int .i64 n] w (OfNo w) := by
  rcases h with h | h
  · go_enter Tryd.func34, Tryd.ntmps34
    go_wp2
    exact bodyPost_ret (v := .tuple #[.agg #[.int .i64 0, .int .i64 0, .int .i64 0, .int .i64 0], .bool false]) (by simp [results, Tryd.results34, go_sem]) rfl ⟨rfl, (Below.refl _ _).alloc (Nat.le_refl _) _⟩
  · have h' : ¬ n < 0 := by omega
    go_enter Tryd.func34, Tryd.ntmps34
    go_wp2
    exact bodyPost_ret (v := .tuple #[.agg #[.int .i64 0, .int .i64 0, .int .i64 0, .int .i64 0], .bool false]) (by simp [results, Tryd.results34, go_sem]) rfl ⟨rfl, (Below.refl _ _).alloc (Nat.le_refl _) _⟩

theorem of_end {n y m : Int} (a : 1 ≤ m) (b : m ≤ 12) (c : 0 ≤ n / 24 - DM.bef y - DM.cum y m) (d : n / 24 - DM.bef y - DM.cum y m < DM.len y m) :
    DM.vld y m (n / 24 - DM.bef y - DM.cum y m + 1) ∧ DM.num y m (n / 24 - DM.bef y - DM.cum y m + 1) = n / 24 := by
  unfold DM.vld DM.num; omega

set_option maxHeartbeats 1000000 in
theorem of_yes (n : Int) (w : World) (h1 : 0 ≤ n) (h2 : n ≤ 16777216) (hM : Months w) : Calls Tryd.prog 34 #[.int .i64 n] w (OfYes n w) := by
  have g0 := DM.bef_guess (n / 24) (by omega)
  have hM2 := Months.alloc hM (.cells #[.int .i64 0, .int .i64 0, .int .i64 0, .int .i64 0] 87)
  go_enter Tryd.func34, Tryd.ntmps34
  go_wp2
  go_loop [5] (fun t => ∃ y : Int, 2000 ≤ y ∧ y ≤ 4000 ∧ DM.bef y ≤ n / 24 ∧ t = .int .i64 y) (fun t => (5000 - intOf t).toNat)
  case atStart => exact ⟨_, by omega, by omega, g0, rfl⟩
  case round =>
    obtain ⟨y, hy1, hy2, hy3, rfl⟩ := hrel
    have hy4 := DM.bef_big (y := y) (by omega)
    by_cases hc : DM.bef (y + 1) ≤ n / 24
    · go_wp2_with (go_at_call 45; refine (before_any _ (by omega) (by omega) _).mono ?_; rintro e w' ⟨rfl, rfl⟩)
      go_round
      case rel => exact ⟨y + 1, by omega, by omega, hc, rfl⟩
      case measure => simp [intOf]; omega
    · have hz : n / 24 < DM.bef (y + 1) := by omega
      have hl := DM.lp_01 y
      have hb := DM.bef_nonneg hy1
      have hs : DM.bef (y + 1) ≤ DM.bef y + 366 := by rw [DM.bef_succ]; omega
      clear hc g0
      go_wp2_with (go_at_call 45; refine (before_any _ (by omega) (by omega) _).mono ?_; rintro e w' ⟨rfl, rfl⟩)
      go_loop [4, 6] (fun r k => ∃ m : Int, 1 ≤ m ∧ m ≤ 12 ∧ k = .int .i64 m ∧ 0 ≤ n / 24 - DM.bef y - DM.cum y m ∧ r = .int .i64 (n / 24 - DM.bef y - DM.cum y m)) (fun _ k => (12 - intOf k).toNat)
      case atStart => exact ⟨1, by omega, by omega, rfl, by simp [DM.cum_1]; omega, by simp [DM.cum_1]⟩
      case round =>
        obtain ⟨m, hm1, hm2, rfl, hr, rfl⟩ := hrel
        have cb := DM.cum_bd y m
        have db := DM.len_bd y m
        have cs := Lib.hid (DM.cum_succ y m hm1 hm2)
        by_cases hc : DM.len y m ≤ n / 24 - DM.bef y - DM.cum y m
        · have hm3 : m < 12 := by
            rcases Int.lt_or_eq_of_le hm2 with g | g
            · exact g
            · subst g; have h3 := DM.cum_succ y 12 (by omega) (by omega); have h13 := DM.cum_13 y; rw [show (12 : Int) + 1 = 13 from rfl] at h3; have := DM.bef_succ y; omega
          go_wp2_with (go_at_call 46; refine (length_any _ _ (by omega) (by omega) _ hM2).mono ?_; rintro e w' ⟨rfl, rfl⟩)
          go_round
          case rel => exact ⟨m + 1, by omega, by omega, rfl, by rw [cs.out]; omega, by rw [cs.out]; go_num⟩
          case measure => simp [intOf]; omega
        · have hv : n / 24 - DM.bef y - DM.cum y m < DM.len y m := by omega
          clear hc
          go_wp2_with (go_at_call 46; refine (length_any _ _ (by omega) (by omega) _ hM2).mono ?_; rintro e w' ⟨rfl, rfl⟩)
          refine bodyPost_ret (v := .tuple #[.agg #[.int .i64 y, .int .i64 m, .int .i64 (n / 24 - DM.bef y - DM.cum y m + 1), .int .i64 (n % 24)], .bool true]) (by simp [results, Tryd.results34, go_sem]) rfl ⟨y, m, _, rfl, (of_end hm1 hm2 hr hv).1, (of_end hm1 hm2 hr hv).2, hy1, hy4, ?_⟩
          exact (Below.refl _ _).alloc (Nat.le_refl _) _
end Go.Proofs.YtkbceeobnbbfbaaDoor.RR

/- Walks of the reference's Length, Of, Valid, and the reference's Valid. -/
namespace Go.Proofs.YtkbceeobnbbfbaaDoor.RR
open Go.RowKit

theorem Months.drewN {w : World} (h : Months w) (n : Nat) : Months (w.drewN n) := h

theorem len2 (y : Int) : DM.len y 2 = if y % 4 = 0 ∧ (y % 100 ≠ 0 ∨ y % 400 = 0) then 29 else 28 := by
  simp only [DM.len, DM.lp, if_pos]
  by_cases hq : y % 4 = 0 ∧ (y % 100 ≠ 0 ∨ y % 400 = 0)
  · rw [if_pos hq, if_pos hq]; rfl
  · rw [if_neg hq, if_neg hq]; rfl
/-- A date and an hour of the day that the reference calls valid. -/
def okB (y m d h : Int) : Bool := decide (1 ≤ m ∧ m ≤ 12 ∧ 1 ≤ d ∧ d ≤ DM.len y m ∧ 0 ≤ h ∧ h ≤ 23)
def agg4 (y m d h : Int) : Value := .agg #[.int .i64 y, .int .i64 m, .int .i64 d, .int .i64 h]

end Go.Proofs.YtkbceeobnbbfbaaDoor.RR

/- Walks of date.exists and date.In, and of the reference's MonthDay and In. -/
namespace Go.Proofs.YtkbceeobnbbfbaaDoor.RR
open Go.RowKit RG
attribute [local go_sem] alloc_drewN setCell_drewN shape_drewN

theorem quiet_drawn {P : Program} {f : FuncId} {args : Array Value} {w : World} {n : Nat} {v : Value}
    (h : Calls P f args (w.drewN n) fun e w' => e = .returned v ∧ ∃ k, w' = (w.drewN n).drewN k) : Calls P f args (w.drewN n) fun e w'' => e = .returned v ∧ ∃ m, w'' = w.drewN m :=
  h.mono fun _ _ ⟨he, k, hk⟩ => ⟨he, n + k, by rw [hk, World.drewN_drewN]⟩
theorem quiet_add_drawn {P : Program} {f : FuncId} {args : Array Value} {w : World} {a n : Nat} {v : Value}
    (h : Calls P f args (w.drewN (a + n)) fun e w' => e = .returned v ∧ ∃ k, w' = (w.drewN (a + n)).drewN k) :
    Calls P f args (w.drewN (a + n)) fun e w'' => e = .returned v ∧ ∃ m, w'' = w.drewN (a + m) :=
  h.mono fun _ _ ⟨he, k, hk⟩ => ⟨he, n + k, by rw [hk, World.drewN_drewN, Nat.add_assoc]⟩
theorem exB_no {m d : Int} (h : ¬ (1 ≤ m ∧ m ≤ 12 ∧ 1 ≤ d ∧ d ≤ DM.len 2000 m)) : exB m d = false := decide_eq_false h
def DrawnB (b : Bool) (w : World) (e : Ending) (w' : World) : Prop := e = .returned (.bool b) ∧ ∃ n, w' = w.drewN n

set_option maxHeartbeats 1000000 in
theorem exists_any (m d : Int) (w : World) (hM : Months w) : Calls Tryd.prog 47 #[.int .i64 m, .int .i64 d] w fun e w' => e = .returned (.bool (exB m d)) ∧ w = w' := by
  by_cases k1 : 1 ≤ m
  case neg =>
    have H := Lib.hid (exB_no (d := d) (m := m) (by omega))
    have hd : decide (1 ≤ m) = false := by rw [decide_eq_false_iff_not]; omega
    go_enter Tryd.func47, Tryd.ntmps47
    go_wp2_with fail
    go_ret
    exact ⟨ret_bool H.out.symm, rfl⟩
  by_cases k2 : m ≤ 12
  case neg =>
    have H := Lib.hid (exB_no (d := d) (m := m) (by omega))
    have hd : decide (m ≤ 12) = false := by rw [decide_eq_false_iff_not]; omega
    go_enter Tryd.func47, Tryd.ntmps47
    go_wp2_with fail
    go_ret
    exact ⟨ret_bool H.out.symm, rfl⟩
  by_cases k3 : 1 ≤ d
  case neg =>
    have H := Lib.hid (exB_no (d := d) (m := m) (by omega))
    have hd : decide (1 ≤ d) = false := by rw [decide_eq_false_iff_not]; omega
    go_enter Tryd.func47, Tryd.ntmps47
    go_wp2_with fail
    go_ret
    exact ⟨ret_bool H.out.symm, rfl⟩
  have hc : w.cell? ⟨0, m.toNat - 1, none⟩ = some (.int .i64 (mon (m - 1).toNat)) := by
    have := hM (m - 1).toNat (by omega)
    rwa [show (m - 1).toNat = m.toNat - 1 by omega] at this ⊢
  have H : Hid (exB m d = decide (d ≤ mon (m - 1).toNat)) := by
    show _ = _
    rw [mon_len m k1 k2 2000 (fun _ => by decide)]
    unfold exB
    rw [Bool.eq_iff_iff]
    simp
    omega
  generalize mon (m - 1).toNat = mm at hc H
  generalize exB m d = r at H ⊢
  clear hM
  go_enter Tryd.func47, Tryd.ntmps47
  go_wp2_with fail
  go_ret
  exact ⟨ret_bool H.out.symm, rfl⟩

def In64 (x : Int) : Prop := -9223372036854775808 ≤ x ∧ x ≤ 9223372036854775807
theorem wrap_tdiv {f : Int} (h : In64 f) : wrap64 (f.tdiv 100) = f.tdiv 100 := by
  obtain ⟨h1, h2⟩ := h
  have hb : -9223372036854775808 ≤ f.tdiv 100 ∧ f.tdiv 100 ≤ 9223372036854775807 := by
    rcases Int.lt_or_le f 0 with g | g
    · have e : f.tdiv 100 = -((-f).tdiv 100) := by rw [Int.neg_tdiv, Int.neg_neg]
      rw [e, Int.tdiv_eq_ediv_of_nonneg (by omega)]
      omega
    · rw [Int.tdiv_eq_ediv_of_nonneg g]; omega
  unfold wrap64; omega
set_option maxHeartbeats 1000000 in
theorem in_any (y m d h f u : Int) (w : World) (hM : Months w) (hf : In64 f) (hu : In64 u) : Calls Tryd.prog 35 #[.agg #[.int .i64 y, .int .i64 m, .int .i64 d, .int .i64 h], .int .i64 f, .int .i64 u] w fun e w' => e = .returned (.bool (inB m d f u)) ∧ Below w.heap.size w w' := by
  have K1 : Hid (Calls Tryd.prog 47 #[.int .i64 (f.tdiv 100), .int .i64 (f.tmod 100)] (w.alloc (.cells #[.int .i64 y, .int .i64 m, .int .i64 d, .int .i64 h] 87)) fun e w' => e = .returned (.bool (mdB f)) ∧ w.alloc (.cells #[.int .i64 y, .int .i64 m, .int .i64 d, .int .i64 h] 87) = w') := exists_any _ _ _ (hM.alloc _)
  have K2 : Hid (Calls Tryd.prog 47 #[.int .i64 (u.tdiv 100), .int .i64 (u.tmod 100)] (w.alloc (.cells #[.int .i64 y, .int .i64 m, .int .i64 d, .int .i64 h] 87)) fun e w' => e = .returned (.bool (mdB u)) ∧ w.alloc (.cells #[.int .i64 y, .int .i64 m, .int .i64 d, .int .i64 h] 87) = w') := exists_any _ _ _ (hM.alloc _)
  have K3 : Hid (Calls Tryd.prog 47 #[.int .i64 m, .int .i64 d] (w.alloc (.cells #[.int .i64 y, .int .i64 m, .int .i64 d, .int .i64 h] 87)) fun e w' => e = .returned (.bool (exB m d)) ∧ w.alloc (.cells #[.int .i64 y, .int .i64 m, .int .i64 d, .int .i64 h] 87) = w') := exists_any _ _ _ (hM.alloc _)
  have HR : Hid (inB m d f u = (mdB f && mdB u && exB m d && inX (100 * m + d) f u)) := rfl
  have HX : exB m d = true → 1 ≤ m ∧ m ≤ 12 ∧ 1 ≤ d ∧ d ≤ 31 := fun h => by
    have := DM.len_bd 2000 m
    have := of_decide_eq_true h
    omega
  generalize inB m d f u = R at HR ⊢
  generalize mdB f = b1 at *
  generalize mdB u = b2 at *
  generalize exB m d = b3 at *
  have hw1 := wrap_tdiv hf
  have hw2 := wrap_tdiv hu
  clear hM hf hu
  cases b1 with
  | false =>
    go_enter Tryd.func35, Tryd.ntmps35
    go_wp2_with (first | (go_at_call 47; first | ((with_reducible refine K1.out.mono ?_); rintro e1 w1 ⟨rfl, rfl⟩) | ((with_reducible refine K2.out.mono ?_); rintro e1 w1 ⟨rfl, rfl⟩) | ((with_reducible refine K3.out.mono ?_); rintro e1 w1 ⟨rfl, rfl⟩) | fail) | fail)
    go_ret
    exact ⟨ret_bool (by rw [HR.out]; rfl), (Below.refl _ _).alloc (Nat.le_refl _) _⟩
  | true =>
  cases b2 with
  | false =>
    go_enter Tryd.func35, Tryd.ntmps35
    go_wp2_with (first | (go_at_call 47; first | ((with_reducible refine K1.out.mono ?_); rintro e1 w1 ⟨rfl, rfl⟩) | ((with_reducible refine K2.out.mono ?_); rintro e1 w1 ⟨rfl, rfl⟩) | ((with_reducible refine K3.out.mono ?_); rintro e1 w1 ⟨rfl, rfl⟩) | fail) | fail)
    go_ret
    exact ⟨ret_bool (by rw [HR.out]; rfl), (Below.refl _ _).alloc (Nat.le_refl _) _⟩
  | true =>
  cases b3 with
  | false =>
    go_enter Tryd.func35, Tryd.ntmps35
    go_wp2_with (first | (go_at_call 47; first | ((with_reducible refine K1.out.mono ?_); rintro e1 w1 ⟨rfl, rfl⟩) | ((with_reducible refine K2.out.mono ?_); rintro e1 w1 ⟨rfl, rfl⟩) | ((with_reducible refine K3.out.mono ?_); rintro e1 w1 ⟨rfl, rfl⟩) | fail) | fail)
    go_ret
    exact ⟨ret_bool (by rw [HR.out]; rfl), (Below.refl _ _).alloc (Nat.le_refl _) _⟩
  | true =>
    obtain ⟨x1, x2, x3, x4⟩ := HX rfl
    clear HX
    have HR2 : Hid (R = if f ≤ u then decide (f ≤ 100 * m + d) && decide (100 * m + d ≤ u) else decide (f ≤ 100 * m + d) || decide (100 * m + d ≤ u)) := by rw [HR.out]; exact rfl
    clear HR
    obtain ⟨c1, hc1⟩ : ∃ c, decide (f ≤ 100 * m + d) = c := ⟨_, rfl⟩
    obtain ⟨c2, hc2⟩ : ∃ c, decide (100 * m + d ≤ u) = c := ⟨_, rfl⟩
    rw [hc1, hc2] at HR2
    by_cases fu : f ≤ u
    · have HR3 : Hid (R = (c1 && c2)) := by rw [HR2.out, if_pos fu]; exact rfl
      clear HR2
      cases c1 <;> cases c2
      all_goals
        go_enter Tryd.func35, Tryd.ntmps35
        go_wp2_with (first | (go_at_call 47; first | ((with_reducible refine (K1.out).mono ?_); rintro e1 w1 ⟨rfl, rfl⟩) | ((with_reducible refine (K2.out).mono ?_); rintro e1 w1 ⟨rfl, rfl⟩) | ((with_reducible refine (K3.out).mono ?_); rintro e1 w1 ⟨rfl, rfl⟩) | fail) | fail)
        go_ret
        exact ⟨ret_bool (by rw [HR3.out]; rfl), (Below.refl _ _).alloc (Nat.le_refl _) _⟩
    · have HR3 : Hid (R = (c1 || c2)) := by rw [HR2.out, if_neg fu]; exact rfl
      clear HR2
      cases c1 <;> cases c2
      all_goals
        go_enter Tryd.func35, Tryd.ntmps35
        go_wp2_with (first | (go_at_call 47; first | ((with_reducible refine (K1.out).mono ?_); rintro e1 w1 ⟨rfl, rfl⟩) | ((with_reducible refine (K2.out).mono ?_); rintro e1 w1 ⟨rfl, rfl⟩) | ((with_reducible refine (K3.out).mono ?_); rintro e1 w1 ⟨rfl, rfl⟩) | fail) | fail)
        go_ret
        exact ⟨ret_bool (by rw [HR3.out]; rfl), (Below.refl _ _).alloc (Nat.le_refl _) _⟩
end Go.Proofs.YtkbceeobnbbfbaaDoor.RR

/- Walks of the reference's MonthDay and In. -/
namespace Go.Proofs.YtkbceeobnbbfbaaDoor.RR
open Go.RowKit RG
attribute [local go_sem] alloc_drewN setCell_drewN shape_drewN

theorem okB_ex (m d : Int) : okB 2000 m d 0 = exB m d := by
  unfold okB exB
  rw [Bool.eq_iff_iff]; simp
theorem mdB_small {n : Int} (h : n < 101) : mdB n = false := by
  refine exB_no fun ⟨a, b, c, d⟩ => ?_
  rcases Int.lt_or_le n 0 with g | g
  · have e : n.tdiv 100 = -((-n).tdiv 100) := by rw [Int.neg_tdiv, Int.neg_neg]
    rw [e, Int.tdiv_eq_ediv_of_nonneg (by omega)] at a
    omega
  · rw [Int.tdiv_eq_ediv_of_nonneg g] at a
    rw [Int.tmod_eq_emod_of_nonneg g] at c
    omega
theorem mdB_big {n : Int} (h : 1231 < n) : mdB n = false := by
  refine exB_no fun ⟨a, b, c, d⟩ => ?_
  rw [Int.tdiv_eq_ediv_of_nonneg (by omega)] at b d
  rw [Int.tmod_eq_emod_of_nonneg (by omega)] at d
  have := DM.len_bd 2000 (n / 100)
  omega
theorem mdB_in {n : Int} (h1 : 101 ≤ n) : mdB n = exB (n / 100) (n % 100) := by
  unfold mdB
  rw [Int.tdiv_eq_ediv_of_nonneg (by omega), Int.tmod_eq_emod_of_nonneg (by omega)]
end Go.Proofs.YtkbceeobnbbfbaaDoor.RR

/- Memory words: a slice of elements of k cells each (enc: an element's cells), read as a list; rows of them that the call made. -/
namespace Go.Proofs.YtkbceeobnbbfbaaDoor.RR
open Go.RowKit
section
variable {α : Type} (enc : α → List Value) (k : Nat)
/-- The elements lie one behind the other, below a block. -/
def RowAt (w : World) (B : Nat) (C : Option Addr) (A : List α) : Prop :=
  0 < A.length → ∃ b off, C = some ⟨b, off, none⟩ ∧ b < B ∧ ∀ (i : Nat) (r : α), A[i]? = some r → ∀ (j : Nat) (v : Value), (enc r)[j]? = some v → w.cell? ⟨b, off + (i * k + j), none⟩ = some v
variable {enc k}
theorem RowAt.below {w w' : World} {B : Nat} {C : Option Addr} {A : List α} (h : RowAt enc k w B C A) (hb : Below B w w') : RowAt enc k w' B C A := fun hl => by
  obtain ⟨b, off, e, hlt, hc⟩ := h hl
  exact ⟨b, off, e, hlt, fun i r hk j v hj => (hb.cell (p := ⟨b, _, none⟩) hlt).trans (hc i r hk j v hj)⟩
theorem RowAt.more {w : World} {B B' : Nat} {C : Option Addr} {A : List α} (h : RowAt enc k w B C A) (hB : B ≤ B') : RowAt enc k w B' C A := fun hl => by
  obtain ⟨b, off, e, hlt, hc⟩ := h hl
  exact ⟨b, off, e, by omega, hc⟩
theorem RowAt.nil (w : World) (B : Nat) (C : Option Addr) : RowAt enc k w B C ([] : List α) := fun h => absurd h (by simp)
variable (hk : ∀ r, (enc r).length = k)
include hk
theorem rowk_len (A : List α) : (A.flatMap enc).length = A.length * k := by
  induction A with
  | nil => simp
  | cons t ts ih => rw [List.flatMap_cons, List.length_append, ih, hk, List.length_cons, Nat.succ_mul, Nat.add_comm]
theorem rowk_get : ∀ (A : List α) (i : Nat) (r : α), A[i]? = some r → ∀ j, j < k → (A.flatMap enc)[i * k + j]? = (enc r)[j]?
  | [], i, r, h, _, _ => by simp at h
  | t :: ts, 0, r, h, j, hj => by
    obtain rfl : t = r := by simpa using h
    rw [List.flatMap_cons, Nat.zero_mul, Nat.zero_add, List.getElem?_append_left (by rw [hk]; exact hj)]
  | t :: ts, i + 1, r, h, j, hj => by
    have ih := rowk_get ts i r (by simpa using h) j hj
    rw [List.flatMap_cons, List.getElem?_append_right (by rw [hk, Nat.succ_mul]; omega), hk, Nat.succ_mul, show i * k + k + j - k = i * k + j by omega]
    exact ih
theorem enc_lt {r : α} {j : Nat} {v : Value} (h : (enc r)[j]? = some v) : j < k := by
  have := (List.getElem?_eq_some_iff.1 h).1
  rw [hk] at this; exact this
/-- What the call has made of them, read as a slice. -/
theorem rowk_of_owns {w : World} {base e : Nat} {v : Value} {A : List α} (h : w.ownsRow base e k v A.length (A.flatMap enc)) : ∃ C cc, v = .slice C A.length cc ∧ RowAt enc k w w.heap.size C A ∧ ∀ a, C = some a → base ≤ a.block := by
  obtain ⟨h1, ⟨rfl, h0⟩ | ⟨g, cap, cur, rfl, h2, h3, h4, h5, h6, h7⟩⟩ := h
  · obtain rfl : A = [] := List.eq_nil_of_length_eq_zero h0
    exact ⟨none, 0, rfl, RowAt.nil _ _ _, fun a ha => by cases ha⟩
  · refine ⟨_, cap, rfl, fun _ => ⟨g, 0, rfl, ?_, fun i r hi j u hj => ?_⟩, fun a ha => by cases ha; exact h2⟩
    · rcases Nat.lt_or_ge g w.heap.size with h | h
      · exact h
      · rw [Array.getElem?_eq_none h] at h3; cases h3
    · have hil := (List.getElem?_eq_some_iff.1 hi).1
      have hjk := enc_lt hk hj
      have hl : i * k + j < A.length * k := by
        have : (i + 1) * k ≤ A.length * k := Nat.mul_le_mul_right _ hil
        rw [Nat.succ_mul] at this; omega
      rw [Nat.zero_add, cell_of_row w g _ cur e (0, 0) h3]
      have := rowk_get hk A i r hi j hjk
      rw [hj, ← h7, List.getElem?_take_of_lt hl] at this
      simpa using this
/-- .. as an array that may be written. -/
theorem rowkArr_of_owns {w : World} {base e : Nat} {v : Value} {A : List α} (hn : A.length ≠ 0) (h : w.ownsRow base e k v A.length (A.flatMap enc)) :
    ∃ g cc, v = .slice (some ⟨g, 0, none⟩) A.length cc ∧ base ≤ g ∧ g < w.heap.size ∧ ∀ i r, A[i]? = some r → ∀ j u, (enc r)[j]? = some u → w.cell? ⟨g, i * k + j, none⟩ = some u ∧ w.frozen? ⟨g, i * k + j, none⟩ = false := by
  obtain ⟨h1, ⟨rfl, h0⟩ | ⟨g, cap, cur, rfl, h2, h3, h4, h5, h6, h7⟩⟩ := h
  · exact absurd h0 hn
  · refine ⟨g, cap, rfl, h2, ?_, fun i r hi j u hj => ⟨?_, ?_⟩⟩
    · rcases Nat.lt_or_ge g w.heap.size with h | h
      · exact h
      · rw [Array.getElem?_eq_none h] at h3; cases h3
    · have hil := (List.getElem?_eq_some_iff.1 hi).1
      have hjk := enc_lt hk hj
      have hl : i * k + j < A.length * k := by
        have : (i + 1) * k ≤ A.length * k := Nat.mul_le_mul_right _ hil
        rw [Nat.succ_mul] at this; omega
      rw [cell_of_row w g _ cur e (0, 0) h3]
      have := rowk_get hk A i r hi j hjk
      rw [hj, ← h7, List.getElem?_take_of_lt hl] at this
      simpa using this
    · simp [World.frozen?, h3]
theorem reads_rowk {w : World} {B : Nat} {C : Option Addr} {A : List α} (h : RowAt enc k w B C A) (hk0 : 0 < k) : Reads w B k C A.length (A.flatMap enc) := by
  refine ⟨by rw [rowk_len hk], fun hl => ?_⟩
  obtain ⟨b, off, rfl, hb, hc⟩ := h hl
  refine ⟨_, rfl, hb, fun j u hj => ?_⟩
  have hlt : j < A.length * k := by have := (List.getElem?_eq_some_iff.1 hj).1; rw [rowk_len hk] at this; exact this
  have hq : j / k < A.length := (Nat.div_lt_iff_lt_mul hk0).2 hlt
  have hm := Nat.mod_lt j hk0
  have ej : j / k * k + j % k = j := by rw [Nat.mul_comm]; exact Nat.div_add_mod j k
  obtain ⟨r, hr⟩ : ∃ r, A[j / k]? = some r := ⟨_, List.getElem?_eq_getElem hq⟩
  have e := rowk_get hk A (j / k) r hr (j % k) hm
  rw [ej, hj] at e
  rw [Addr.add_lit]
  have := hc (j / k) r hr (j % k) u e.symm
  rwa [ej] at this
omit hk in
/-- Elements that a literal lays. -/
theorem rowk_new (hk : ∀ r, (enc r).length = k) (w : World) (A : List α) (t : TypeId) : RowAt enc k (w.alloc (.cells (A.flatMap enc).toArray t)) (w.alloc (.cells (A.flatMap enc).toArray t)).heap.size (some ⟨w.heap.size, 0, none⟩) A := fun _ =>
  ⟨w.heap.size, 0, rfl, by simp, fun i r hi j v hj => by
    have h := (rowk_get hk A i r hi j (enc_lt hk hj)).trans hj
    simpa using h⟩
end
section
theorem below_app {W w1 : World} {n₀ e size k : Nat} {v : Value} {xs : List Value} {tmp : Obj} (hrow : W.ownsRow n₀ e size v k xs) (hn₀ : n₀ ≤ W.heap.size) (hgrow : (W.alloc tmp).grownBy w1 v.ownBlock) : Below n₀ W w1 := by
  refine ((Below.refl n₀ W).alloc hn₀ tmp).grown hgrow (by simp; omega) fun j ej => ?_
  rcases hrow.2 with ⟨rfl, _⟩ | ⟨g, cap, cur, rfl, hb, _, _⟩
  · simp [Value.ownBlock] at ej
  · obtain rfl : g = j := by simpa [Value.ownBlock] using ej
    exact hb
theorem row_below {W w1 : World} {n₀ e size k : Nat} {v : Value} {xs : List Value} (hrow : W.ownsRow n₀ e size v k xs) (hb : Below W.heap.size W w1) : w1.ownsRow n₀ e size v k xs :=
  hrow.kept (row := none) ⟨hb.os, hb.tape, hb.output, hb.size, fun j hj _ => hb.block j hj⟩ (by
    rcases hrow.2 with ⟨rfl, _⟩ | ⟨g, cap, cur, rfl, hb, _, _⟩
    · exact .inl rfl
    · exact .inr (by simp [Value.ownBlock]))
theorem owns_cap {w : World} {base e size n : Nat} {v : Value} {xs : List Value} (h : w.ownsRow base e size v n xs) {C : Option Addr} {l cc : Nat} (hv : v = .slice C l cc) : l ≤ cc := by
  rcases h.2 with ⟨e1, _⟩ | ⟨g, cap, cur, e1, _, _, hle, _⟩
  · rw [hv] at e1; injection e1 with _ a b; omega
  · rw [hv] at e1; injection e1 with _ a b; omega
theorem cells_at {w : World} {b : Nat} (hb : w.heap.size = b) (t : Nat) (xs : List Value) : ∀ j u, xs[j]? = some u → (w.alloc (.cells xs.toArray t)).cell? ((⟨b, 0, none⟩ : Addr).add j) = some u := by
  subst hb
  intro j u hj
  rw [Addr.add_lit, World.cell?_alloc_new]
  simpa using hj
theorem below_own {W w1 : World} {n₀ e size k : Nat} {v : Value} {xs : List Value} (hrow : W.ownsRow n₀ e size v k xs) (hn₀ : n₀ ≤ W.heap.size) (hgrow : W.grownBy w1 v.ownBlock) : Below n₀ W w1 := by
  refine (Below.refl n₀ W).grown hgrow hn₀ fun j ej => ?_
  rcases hrow.2 with ⟨rfl, _⟩ | ⟨g, cap, cur, rfl, hb, _, _⟩
  · simp [Value.ownBlock] at ej
  · obtain rfl : g = j := by simpa [Value.ownBlock] using ej
    exact hb
theorem Reads.grown_off {w w' : World} {B size n : Nat} {b o : Nat} {xs : List Value} {row : Option Nat} (h : Reads w B size (some ⟨b, o, none⟩) n xs) (hB : B ≤ w.heap.size) (hg : w.grownBy w' row) (hr : row ≠ some b) : Reads w' w'.heap.size size (some ⟨b, o, none⟩) n xs := by
  refine ⟨h.1, fun hn => ?_⟩
  obtain ⟨ad, e, hb, hc⟩ := h.2 hn
  cases e
  have hb' : b < B := hb
  have hz : w.heap.size ≤ w'.heap.size := hg.size
  refine ⟨_, rfl, (show b < _ by omega), fun j u hj => ?_⟩
  rw [← hc j u hj, Addr.add_lit]
  exact Plan.grown_cells hg b _ (by omega) (fun e => hr e.symm)
theorem rowk_take {α : Type} {enc : α → List Value} {k : Nat} {w : World} {B : Nat} {C : Option Addr} {L : List α} (h : RowAt enc k w B C L) (c : Nat) : RowAt enc k w B C (L.take c) := fun hl => by
  rw [List.length_take] at hl
  obtain ⟨b, off, e, hb, hc⟩ := h (by omega)
  refine ⟨b, off, e, hb, fun i r hk => hc i r ?_⟩
  rw [List.getElem?_take] at hk
  split at hk
  · exact hk
  · cases hk
theorem rowk_drop {α : Type} {enc : α → List Value} {n : Nat} {w : World} {B b o : Nat} {L : List α} (h : RowAt enc n w B (some ⟨b, o, none⟩) L) {k cf : Nat} (hk : k ≤ L.length) (hcf : L.length ≤ cf) :
    RowAt enc n w B (if cf = k then some ⟨b, o, none⟩ else some ⟨b, o + k * n, none⟩) (L.drop k) := fun hl => by
  rw [List.length_drop] at hl
  rw [if_neg (by omega)]
  obtain ⟨b', off, e, hb, hc⟩ := h (by omega)
  obtain ⟨rfl, rfl⟩ : b = b' ∧ o = off := by simpa using e
  refine ⟨b, o + k * n, rfl, hb, fun j r hj i v hv => ?_⟩
  rw [List.getElem?_drop] at hj
  have := hc (k + j) r hj i v hv
  rwa [show o + k * n + (j * n + i) = o + ((k + j) * n + i) by rw [Nat.add_mul]; omega]
theorem below_new (w : World) (o : Obj) : Below w.heap.size w (w.alloc o) := (Below.refl _ _).alloc (Nat.le_refl _) _
end
end Go.Proofs.YtkbceeobnbbfbaaDoor.RR

/- Memory words: a slice of deals; rows of rights and of deals that the call made of them. -/
namespace Go.Proofs.YtkbceeobnbbfbaaDoor.RR
open Go.RowKit CM RG

theorem Tryd.infoRight : (Tryd.prog.info? 36).map (fun i => (i.zero, i.size, i.bytes)) = some (some (.agg #[.int .i64 0, .int .i64 0, .int .i64 0, .int .i64 0, .int .i64 0, .int .i64 0, .int .i64 0, .int .i64 0, .int .i64 0]), 9, 72) := by kernel_rfl
def BoolIs (b : Bool) (w : World) (e : Ending) (w' : World) : Prop := e = .returned (.bool b) ∧ Below w.heap.size w w'
def IntBe (n : Int) (w : World) (e : Ending) (w' : World) : Prop := e = .returned (.int .i64 n) ∧ Below w.heap.size w w'
theorem rt_len (r : Rt) : r.cells.length = 9 := rfl
theorem rt_one (r : Rt) : ∀ v ∈ r.cells, v.oneCell' = true := fun u h => by
  simp only [CM.Rt.cells, List.mem_cons, List.not_mem_nil, or_false] at h
  rcases h with rfl | rfl | rfl | rfl | rfl | rfl | rfl | rfl | rfl <;> rfl
/-- A deal's cells. -/
def Dl.cells (d : Dl) : List Value := [.int .i64 d.kind, .int .i64 d.known, .int .i64 d.right.id, .int .i64 d.right.owner, .int .i64 d.right.date, .int .i64 d.right.place, .int .i64 d.right.rate, .int .i64 d.right.from1, .int .i64 d.right.until1, .int .i64 d.right.back, .int .i64 d.right.backTo, .int .i64 d.from1, .int .i64 d.until1]
theorem dl_len (d : Dl) : d.cells.length = 13 := rfl
theorem dl_one (d : Dl) : ∀ v ∈ d.cells, v.oneCell' = true := fun u h => by
  simp only [Dl.cells, List.mem_cons, List.not_mem_nil, or_false] at h
  rcases h with rfl | rfl | rfl | rfl | rfl | rfl | rfl | rfl | rfl | rfl | rfl | rfl | rfl <;> rfl
def DealsAt (w : World) (B : Nat) (C : Option Addr) (A : List Dl) : Prop := RowAt Dl.cells 13 w B C A
def rowR (A : List Rt) : List Value := A.flatMap CM.Rt.cells
def rowD (A : List Dl) : List Value := A.flatMap Dl.cells
theorem DealsAt.below {w w' : World} {B : Nat} {C : Option Addr} {A : List Dl} (h : DealsAt w B C A) (hb : Below B w w') : DealsAt w' B C A := RowAt.below h hb
theorem DealsAt.more {w : World} {B B' : Nat} {C : Option Addr} {A : List Dl} (h : DealsAt w B C A) (hB : B ≤ B') : DealsAt w B' C A := RowAt.more h hB
theorem DealsAt.at_ {w : World} {B : Nat} {C : Option Addr} {A : List Dl} (h : DealsAt w B C A) {k : Nat} {d : Dl} (hk : A[k]? = some d) : ∃ b off, C = some ⟨b, off, none⟩ ∧ b < B ∧
    w.cell? ⟨b, off + k * 13, none⟩ = some (.int .i64 d.kind) ∧ w.cell? ⟨b, off + k * 13 + 1, none⟩ = some (.int .i64 d.known) ∧
    w.cell? ⟨b, off + k * 13 + 2, none⟩ = some (.int .i64 d.right.id) ∧ w.cell? ⟨b, off + k * 13 + 3, none⟩ = some (.int .i64 d.right.owner) ∧ w.cell? ⟨b, off + k * 13 + 4, none⟩ = some (.int .i64 d.right.date) ∧
    w.cell? ⟨b, off + k * 13 + 5, none⟩ = some (.int .i64 d.right.place) ∧ w.cell? ⟨b, off + k * 13 + 6, none⟩ = some (.int .i64 d.right.rate) ∧ w.cell? ⟨b, off + k * 13 + 7, none⟩ = some (.int .i64 d.right.from1) ∧
    w.cell? ⟨b, off + k * 13 + 8, none⟩ = some (.int .i64 d.right.until1) ∧ w.cell? ⟨b, off + k * 13 + 9, none⟩ = some (.int .i64 d.right.back) ∧ w.cell? ⟨b, off + k * 13 + 10, none⟩ = some (.int .i64 d.right.backTo) ∧
    w.cell? ⟨b, off + k * 13 + 11, none⟩ = some (.int .i64 d.from1) ∧ w.cell? ⟨b, off + k * 13 + 12, none⟩ = some (.int .i64 d.until1) := by
  have hlt := (List.getElem?_eq_some_iff.1 hk).1
  obtain ⟨b, off, e, hb, hc⟩ := h (by omega)
  have g := hc k d hk
  exact ⟨b, off, e, hb, g 0 _ rfl, g 1 _ rfl, g 2 _ rfl, g 3 _ rfl, g 4 _ rfl, g 5 _ rfl, g 6 _ rfl, g 7 _ rfl, g 8 _ rfl, g 9 _ rfl, g 10 _ rfl, g 11 _ rfl, g 12 _ rfl⟩
theorem rights_row {w : World} {B : Nat} {C : Option Addr} {A : List Rt} : RightsAt w B C A ↔ RowAt CM.Rt.cells 9 w B C A := Iff.rfl
theorem RightsAt.nil (w : World) (B : Nat) (C : Option Addr) : RightsAt w B C [] := fun h => absurd h (by simp)
end Go.Proofs.YtkbceeobnbbfbaaDoor.RR

/- Walks of index, in, monthDay, and of both Rights. -/
namespace Go.Proofs.YtkbceeobnbbfbaaDoor.RR
open Go.RowKit CM RG
attribute [local go_sem] alloc_drewN setCell_drewN shape_drewN

theorem wit_n (i n : Int) : (decide (0 ≤ i) && decide (i < n)) = wit i 0 (n - 1) := by
  unfold wit; rw [Bool.eq_iff_iff]; simp; omega
theorem index_any (i n : Int) (w : World) : Calls Tryd.prog 33 #[.int .i64 i, .int .i64 n] w fun e w' => e = .returned (.bool (wit i 0 (n - 1))) ∧ w = w' := by
  have H := Lib.hid (wit_n i n)
  generalize wit i 0 (n - 1) = r at H ⊢
  obtain ⟨c1, hq1⟩ : ∃ c, decide (0 ≤ i) = c := ⟨_, rfl⟩
  obtain ⟨c2, hq2⟩ : ∃ c, decide (i < n) = c := ⟨_, rfl⟩
  rw [hq1, hq2] at H
  cases c1 <;> cases c2
  all_goals
    go_enter Tryd.func33, Tryd.ntmps33
    go_wp2_with fail
    go_ret
    exact ⟨ret_bool (by rw [← H.out]; rfl), rfl⟩
theorem inB_self (n : Int) : inB (n.tdiv 100) (n.tmod 100) n n = mdB n := by
  have e : 100 * n.tdiv 100 + n.tmod 100 = n := by rw [Int.mul_comm]; exact Int.tdiv_mul_add_tmod n 100
  unfold inB
  rw [e]
  show (mdB n && mdB n && mdB n && inX n n n) = mdB n
  have : inX n n n = true := by simp [inX]
  rw [this]
  cases mdB n <;> rfl
theorem monthDay_any (n : Int) (w : World) (hM : Months w) (hn : In64 n) : Calls Tryd.prog 44 #[.int .i64 n] w (BoolIs (mdB n) w) := by
  have hw := wrap_tdiv hn
  have K : Hid (Calls Tryd.prog 35 #[.agg #[.int .i64 0, .int .i64 (n.tdiv 100), .int .i64 (n.tmod 100), .int .i64 0], .int .i64 n, .int .i64 n] w fun e w' => e = .returned (.bool (mdB n)) ∧ Below w.heap.size w w') := by
    rw [← inB_self]; exact in_any 0 _ _ 0 n n w hM hn hn
  generalize mdB n = r at K ⊢
  clear hM hn
  go_enter Tryd.func44, Tryd.ntmps44
  go_wp2_with (first | (go_at_call 35; (with_reducible refine K.out.mono ?_); rintro e1 w1 ⟨rfl, hb1⟩) | fail)
  go_ret
  exact ⟨rfl, hb1⟩
theorem rightB_of {no np : Nat} {r : Rt} {c1 c2 c3 c4 c5 c6 c7 c8 c9 c10 bo bp bb mf mu : Bool} (h1 : decide (r.id < 0) = c1) (h2 : decide (2147483647 < r.id) = c2) (h3 : decide (r.date < 0) = c3) (h4 : decide (1125899906842624 < r.date) = c4)
    (h5 : decide (r.rate < 0) = c5) (h6 : decide (1125899906842624 < r.rate) = c6) (h7 : decide (r.back < 0) = c7) (h8 : decide (1000 < r.back) = c8) (h9 : (r.backTo == -1) = c9) (h10 : (r.back == 0) = c10)
    (ho : wit r.owner 0 (no - 1) = bo) (hp : wit r.place 0 (np - 1) = bp) (hb : wit r.backTo 0 (np - 1) = bb) (hf : mdB r.from1 = mf) (hu : mdB r.until1 = mu) :
    rightB no np r = (!c1 && !c2 && (!c3 && !c4) && (!c5 && !c6) && bo && bp && (!c7 && !c8) && (bb || (c9 && c10)) && mf && mu) := by
  have w1 : ∀ (x y z : Int), wit x y z = (!decide (x < y) && !decide (z < x)) := fun x y z => by unfold wit; rw [Bool.eq_iff_iff]; simp
  unfold rightB
  rw [ho, hp, hb, hf, hu, w1 r.id, w1 r.date, w1 r.rate, w1 r.back, h1, h2, h3, h4, h5, h6, h7, h8]
  subst h9 h10
  rfl
def RtIn (r : Rt) : Prop := In64 r.from1 ∧ In64 r.until1
set_option maxHeartbeats 8000000 in
theorem right_any (X : Bas) (pl : Pl) (r : Rt) (w : World) (hM : Months w) (hr : RtIn r) : Calls Tryd.prog 32 #[.agg #[.string X.nm, .slice X.a1 X.l1 X.c1, .int .i64 X.cl, .slice X.P pl.length X.cP, .slice X.a4 X.l4 X.c4, .slice X.a5 X.l5 X.c5, .slice X.a6 X.l6 X.c6, .slice X.a7 X.l7 X.c7, .slice X.a8 X.l8 X.c8, .slice X.a9 X.l9 X.c9, .int .i64 X.er], .agg #[.int .i64 r.id, .int .i64 r.owner, .int .i64 r.date, .int .i64 r.place, .int .i64 r.rate, .int .i64 r.from1, .int .i64 r.until1, .int .i64 r.back, .int .i64 r.backTo]] w (BoolIs (rightB X.l1 pl.length r) w) := by
  obtain ⟨c1, h1⟩ : ∃ c, decide (r.id < 0) = c := ⟨_, rfl⟩
  obtain ⟨c2, h2⟩ : ∃ c, decide (2147483647 < r.id) = c := ⟨_, rfl⟩
  obtain ⟨c3, h3⟩ : ∃ c, decide (r.date < 0) = c := ⟨_, rfl⟩
  obtain ⟨c4, h4⟩ : ∃ c, decide (1125899906842624 < r.date) = c := ⟨_, rfl⟩
  obtain ⟨c5, h5⟩ : ∃ c, decide (r.rate < 0) = c := ⟨_, rfl⟩
  obtain ⟨c6, h6⟩ : ∃ c, decide (1125899906842624 < r.rate) = c := ⟨_, rfl⟩
  obtain ⟨c7, h7⟩ : ∃ c, decide (r.back < 0) = c := ⟨_, rfl⟩
  obtain ⟨c8, h8⟩ : ∃ c, decide (1000 < r.back) = c := ⟨_, rfl⟩
  obtain ⟨c9, h9⟩ : ∃ c, (r.backTo == -1) = c := ⟨_, rfl⟩
  obtain ⟨c10, h10⟩ : ∃ c, (r.back == 0) = c := ⟨_, rfl⟩
  obtain ⟨bo, ho⟩ : ∃ c, wit r.owner 0 (X.l1 - 1) = c := ⟨_, rfl⟩
  obtain ⟨bp, hp⟩ : ∃ c, wit r.place 0 (pl.length - 1) = c := ⟨_, rfl⟩
  obtain ⟨bb, hb⟩ : ∃ c, wit r.backTo 0 (pl.length - 1) = c := ⟨_, rfl⟩
  obtain ⟨mf, hf⟩ : ∃ c, mdB r.from1 = c := ⟨_, rfl⟩
  obtain ⟨mu, hu⟩ : ∃ c, mdB r.until1 = c := ⟨_, rfl⟩
  have HR := Lib.hid (rightB_of h1 h2 h3 h4 h5 h6 h7 h8 h9 h10 ho hp hb hf hu)
  have KO : Hid (∀ w, Calls Tryd.prog 33 #[.int .i64 r.owner, .int .i64 X.l1] w fun e w' => e = .returned (.bool bo) ∧ w = w') := fun w => by rw [← ho]; exact index_any _ _ w
  have KP : Hid (∀ w, Calls Tryd.prog 33 #[.int .i64 r.place, .int .i64 pl.length] w fun e w' => e = .returned (.bool bp) ∧ w = w') := fun w => by rw [← hp]; exact index_any _ _ w
  have KB : Hid (∀ w, Calls Tryd.prog 33 #[.int .i64 r.backTo, .int .i64 pl.length] w fun e w' => e = .returned (.bool bb) ∧ w = w') := fun w => by rw [← hb]; exact index_any _ _ w
  have KF : Hid (∀ wx, Below w.heap.size w wx → Calls Tryd.prog 44 #[.int .i64 r.from1] wx (BoolIs mf wx)) := fun wx h => by rw [← hf]; exact monthDay_any _ wx (hM.below hM.pos h) hr.1
  have KU : Hid (∀ wx, Below w.heap.size w wx → Calls Tryd.prog 44 #[.int .i64 r.until1] wx (BoolIs mu wx)) := fun wx h => by rw [← hu]; exact monthDay_any _ wx (hM.below hM.pos h) hr.2
  generalize rightB X.l1 pl.length r = R at HR ⊢
  have hB0 : Below w.heap.size w ((w.alloc (.cells (Value.cells (.agg #[.string X.nm, .slice X.a1 X.l1 X.c1, .int .i64 X.cl, .slice X.P pl.length X.cP, .slice X.a4 X.l4 X.c4, .slice X.a5 X.l5 X.c5, .slice X.a6 X.l6 X.c6, .slice X.a7 X.l7 X.c7, .slice X.a8 X.l8 X.c8, .slice X.a9 X.l9 X.c9, .int .i64 X.er])) 31)).alloc (.cells (Value.cells (.agg #[.int .i64 r.id, .int .i64 r.owner, .int .i64 r.date, .int .i64 r.place, .int .i64 r.rate, .int .i64 r.from1, .int .i64 r.until1, .int .i64 r.back, .int .i64 r.backTo])) 36)) := ((Below.refl _ _).alloc (Nat.le_refl _) _).alloc (by simp) _
  have hz0 : ((w.alloc (.cells (Value.cells (.agg #[.string X.nm, .slice X.a1 X.l1 X.c1, .int .i64 X.cl, .slice X.P pl.length X.cP, .slice X.a4 X.l4 X.c4, .slice X.a5 X.l5 X.c5, .slice X.a6 X.l6 X.c6, .slice X.a7 X.l7 X.c7, .slice X.a8 X.l8 X.c8, .slice X.a9 X.l9 X.c9, .int .i64 X.er])) 31)).alloc (.cells (Value.cells (.agg #[.int .i64 r.id, .int .i64 r.owner, .int .i64 r.date, .int .i64 r.place, .int .i64 r.rate, .int .i64 r.from1, .int .i64 r.until1, .int .i64 r.back, .int .i64 r.backTo])) 36)).heap.size = w.heap.size + 1 + 1 := by simp
  have q6 : ((w.alloc (.cells (Value.cells (.agg #[.string X.nm, .slice X.a1 X.l1 X.c1, .int .i64 X.cl, .slice X.P pl.length X.cP, .slice X.a4 X.l4 X.c4, .slice X.a5 X.l5 X.c5, .slice X.a6 X.l6 X.c6, .slice X.a7 X.l7 X.c7, .slice X.a8 X.l8 X.c8, .slice X.a9 X.l9 X.c9, .int .i64 X.er])) 31)).alloc (.cells (Value.cells (.agg #[.int .i64 r.id, .int .i64 r.owner, .int .i64 r.date, .int .i64 r.place, .int .i64 r.rate, .int .i64 r.from1, .int .i64 r.until1, .int .i64 r.back, .int .i64 r.backTo])) 36)).cell? ⟨w.heap.size + 1, 6, none⟩ = some (.int .i64 r.until1) := by rw [World.cell?_alloc_at _ _ _ _ (by simp)]; rfl
  have q7 : ((w.alloc (.cells (Value.cells (.agg #[.string X.nm, .slice X.a1 X.l1 X.c1, .int .i64 X.cl, .slice X.P pl.length X.cP, .slice X.a4 X.l4 X.c4, .slice X.a5 X.l5 X.c5, .slice X.a6 X.l6 X.c6, .slice X.a7 X.l7 X.c7, .slice X.a8 X.l8 X.c8, .slice X.a9 X.l9 X.c9, .int .i64 X.er])) 31)).alloc (.cells (Value.cells (.agg #[.int .i64 r.id, .int .i64 r.owner, .int .i64 r.date, .int .i64 r.place, .int .i64 r.rate, .int .i64 r.from1, .int .i64 r.until1, .int .i64 r.back, .int .i64 r.backTo])) 36)).cell? ⟨w.heap.size + 1, 7, none⟩ = some (.int .i64 r.back) := by rw [World.cell?_alloc_at _ _ _ _ (by simp)]; rfl
  have q8 : ((w.alloc (.cells (Value.cells (.agg #[.string X.nm, .slice X.a1 X.l1 X.c1, .int .i64 X.cl, .slice X.P pl.length X.cP, .slice X.a4 X.l4 X.c4, .slice X.a5 X.l5 X.c5, .slice X.a6 X.l6 X.c6, .slice X.a7 X.l7 X.c7, .slice X.a8 X.l8 X.c8, .slice X.a9 X.l9 X.c9, .int .i64 X.er])) 31)).alloc (.cells (Value.cells (.agg #[.int .i64 r.id, .int .i64 r.owner, .int .i64 r.date, .int .i64 r.place, .int .i64 r.rate, .int .i64 r.from1, .int .i64 r.until1, .int .i64 r.back, .int .i64 r.backTo])) 36)).cell? ⟨w.heap.size + 1, 8, none⟩ = some (.int .i64 r.backTo) := by rw [World.cell?_alloc_at _ _ _ _ (by simp)]; rfl
  have q3 : ((w.alloc (.cells (Value.cells (.agg #[.string X.nm, .slice X.a1 X.l1 X.c1, .int .i64 X.cl, .slice X.P pl.length X.cP, .slice X.a4 X.l4 X.c4, .slice X.a5 X.l5 X.c5, .slice X.a6 X.l6 X.c6, .slice X.a7 X.l7 X.c7, .slice X.a8 X.l8 X.c8, .slice X.a9 X.l9 X.c9, .int .i64 X.er])) 31)).alloc (.cells (Value.cells (.agg #[.int .i64 r.id, .int .i64 r.owner, .int .i64 r.date, .int .i64 r.place, .int .i64 r.rate, .int .i64 r.from1, .int .i64 r.until1, .int .i64 r.back, .int .i64 r.backTo])) 36)).cell? ⟨w.heap.size, 3, none⟩ = some (.slice X.P pl.length X.cP) := by rw [World.cell?_alloc_past _ _ _ (by simp), World.cell?_alloc_at _ _ _ _ rfl]; rfl
  simp only [Value.cells] at hB0 hz0 q3 q6 q7 q8
  have Q := Lib.hid (And.intro hz0 (And.intro q3 (And.intro q6 (And.intro q7 q8))))
  clear hz0 q3 q6 q7 q8
  clear ho hp hb hf hu hM hr
  go_enter Tryd.func32, Tryd.ntmps32
  go_wp2_with (first | (go_at_call 33; first | ((with_reducible refine (KO.out _).mono ?_); rintro e1 w1 ⟨rfl, rfl⟩) | ((with_reducible refine (KP.out _).mono ?_); rintro e1 w1 ⟨rfl, rfl⟩) | ((with_reducible refine (KB.out _).mono ?_); rintro e1 w1 ⟨rfl, rfl⟩) | fail) | (go_at_call 44; first | ((with_reducible refine (KF.out _ hB0).mono ?_); rintro e1 w1 ⟨rfl, hb1⟩; obtain ⟨z0, q3, q6, q7, q8⟩ := Q.out; have z1 := hb1.size; rw [z0] at z1; have f3 := (hb1.cell (p := ⟨w.heap.size, 3, none⟩) (by rw [z0]; show w.heap.size < _; omega)).trans q3; have f6 := (hb1.cell (p := ⟨w.heap.size + 1, 6, none⟩) (by rw [z0]; show w.heap.size + 1 < _; omega)).trans q6; have f7 := (hb1.cell (p := ⟨w.heap.size + 1, 7, none⟩) (by rw [z0]; show w.heap.size + 1 < _; omega)).trans q7; have f8 := (hb1.cell (p := ⟨w.heap.size + 1, 8, none⟩) (by rw [z0]; show w.heap.size + 1 < _; omega)).trans q8; have hB1 := hB0.trans (hb1.mono (by rw [z0]; omega)); clear z0 q3 q6 q7 q8 hb1) | ((with_reducible refine (KU.out _ hB1).mono ?_); rintro e2 w2 ⟨rfl, hb2⟩; have g3 := (hb2.cell (p := ⟨w.heap.size, 3, none⟩) (by show w.heap.size < _; omega)).trans f3; have g7 := (hb2.cell (p := ⟨w.heap.size + 1, 7, none⟩) (by show w.heap.size + 1 < _; omega)).trans f7; have g8 := (hb2.cell (p := ⟨w.heap.size + 1, 8, none⟩) (by show w.heap.size + 1 < _; omega)).trans f8; have hB2 := hB1.trans (hb2.mono (by omega)); clear hb2 f3 f6 f7 f8) | fail) | fail)
  all_goals go_ret
  all_goals first
    | exact ⟨ret_bool (by rw [HR.out]; clear HR Q KO KP KB KF KU; simp_all), hB2⟩
    | exact ⟨ret_bool (by rw [HR.out]; clear HR Q KO KP KB KF KU; simp_all), hB1⟩
    | exact ⟨ret_bool (by rw [HR.out]; clear HR Q KO KP KB KF KU; simp_all), hB0⟩
    | fail
end Go.Proofs.YtkbceeobnbbfbaaDoor.RR

/- Walks of the reference's Right, and of both Seasons. -/
namespace Go.Proofs.YtkbceeobnbbfbaaDoor.RR
open Go.RowKit CM RG
attribute [local go_sem] alloc_drewN setCell_drewN shape_drewN

theorem rightB_of2 {no np : Nat} {r : Rt} {c1 c2 c3 c7 c9 c10 bo bp bb mf mu : Bool} (h1 : wit r.id 0 2147483647 = c1) (h2 : wit r.date 0 1125899906842624 = c2) (h3 : wit r.rate 0 1125899906842624 = c3) (h7 : wit r.back 0 1000 = c7) (h9 : (r.backTo == -1) = c9) (h10 : (r.back == 0) = c10)
    (ho : wit r.owner 0 (no - 1) = bo) (hp : wit r.place 0 (np - 1) = bp) (hb : wit r.backTo 0 (np - 1) = bb) (hf : mdB r.from1 = mf) (hu : mdB r.until1 = mu) :
    rightB no np r = (c1 && c2 && c3 && bo && bp && c7 && (bb || (c9 && c10)) && mf && mu) := by
  subst h1 h2 h3 h7 h9 h10 ho hp hb hf hu
  rfl
theorem sub1 {n : Nat} (h : n ≤ 9223372036854775807) : wrap64 ((n : Int) - 1) = (n : Int) - 1 := by unfold wrap64; omega
set_option maxHeartbeats 8000000 in
theorem season_any (r : Rt) (day : Int) (w : World) (hM : Months w) (hr : RtIn r) : Calls Tryd.prog 18 #[.agg #[.int .i64 r.id, .int .i64 r.owner, .int .i64 r.date, .int .i64 r.place, .int .i64 r.rate, .int .i64 r.from1, .int .i64 r.until1, .int .i64 r.back, .int .i64 r.backTo], .int .i64 day] w (BoolIs (seasonB r day) w) := by
  have hB0 : Below w.heap.size w (w.alloc (.cells (Value.cells (.agg #[.int .i64 r.id, .int .i64 r.owner, .int .i64 r.date, .int .i64 r.place, .int .i64 r.rate, .int .i64 r.from1, .int .i64 r.until1, .int .i64 r.back, .int .i64 r.backTo])) 36)) := (Below.refl _ _).alloc (Nat.le_refl _) _
  have q5 : (w.alloc (.cells (Value.cells (.agg #[.int .i64 r.id, .int .i64 r.owner, .int .i64 r.date, .int .i64 r.place, .int .i64 r.rate, .int .i64 r.from1, .int .i64 r.until1, .int .i64 r.back, .int .i64 r.backTo])) 36)).cell? ⟨w.heap.size, 5, none⟩ = some (.int .i64 r.from1) := by rw [World.cell?_alloc_at _ _ _ _ rfl]; rfl
  have q6 : (w.alloc (.cells (Value.cells (.agg #[.int .i64 r.id, .int .i64 r.owner, .int .i64 r.date, .int .i64 r.place, .int .i64 r.rate, .int .i64 r.from1, .int .i64 r.until1, .int .i64 r.back, .int .i64 r.backTo])) 36)).cell? ⟨w.heap.size, 6, none⟩ = some (.int .i64 r.until1) := by rw [World.cell?_alloc_at _ _ _ _ rfl]; rfl
  have z0 : (w.alloc (.cells (Value.cells (.agg #[.int .i64 r.id, .int .i64 r.owner, .int .i64 r.date, .int .i64 r.place, .int .i64 r.rate, .int .i64 r.from1, .int .i64 r.until1, .int .i64 r.back, .int .i64 r.backTo])) 36)).heap.size = w.heap.size + 1 := by simp
  simp only [Value.cells] at hB0 q5 q6 z0
  by_cases hd : 0 ≤ day ∧ day ≤ 699050
  case neg =>
    have hw : wit day 0 699050 = false := by unfold wit; rw [Bool.and_eq_false_iff]; simp; omega
    have H : Hid (seasonB r day = false) := by show _ = _; unfold seasonB; rw [hw]; rfl
    generalize seasonB r day = R at H ⊢
    clear hw
    by_cases h0 : day < 0
    · clear hd
      go_enter Tryd.func18, Tryd.ntmps18
      go_wp2_with fail
      go_ret
      exact ⟨ret_bool H.out.symm, hB0⟩
    · have h1 : 699050 < day := by omega
      clear hd
      go_enter Tryd.func18, Tryd.ntmps18
      go_wp2_with fail
      go_ret
      exact ⟨ret_bool H.out.symm, hB0⟩
  obtain ⟨hd1, hd2⟩ := hd
  have hw : wit day 0 699050 = true := by unfold wit; simp; omega
  have H : Hid (seasonB r day = inB (monOf day) (dayOf day) r.from1 r.until1) := by show _ = _; unfold seasonB; rw [hw]; rfl
  have HD : Hid (∀ y m d, DM.vld y m d → DM.num y m d = 24 * day / 24 → m = monOf day ∧ d = dayOf day) := fun y m d h1 h2 => by
    have e : 24 * day / 24 = day := by omega
    have := dateOf_eq h1 (h2.trans e)
    unfold monOf dayOf
    rw [this]
    exact ⟨rfl, rfl⟩
  generalize seasonB r day = R at H ⊢
  generalize monOf day = MO at *
  generalize dayOf day = DA at *
  have KO : Hid (∀ wx, Below w.heap.size w wx → Calls Tryd.prog 34 #[.int .i64 (24 * day)] wx (fun e w' => ∃ y z, e = .returned (.tuple #[.agg #[.int .i64 y, .int .i64 MO, .int .i64 DA, .int .i64 z], .bool true]) ∧ Below wx.heap.size wx w')) := fun wx h => (of_yes _ wx (by omega) (by omega) (hM.below hM.pos h)).mono fun e w' ⟨y, m, d, he, hv, hn, _, _, hb⟩ => by
    obtain ⟨rfl, rfl⟩ := HD.out y m d hv hn
    exact ⟨y, _, he, hb⟩
  have KI : Hid (∀ y z wx, Below w.heap.size w wx → Calls Tryd.prog 35 #[.agg #[.int .i64 y, .int .i64 MO, .int .i64 DA, .int .i64 z], .int .i64 r.from1, .int .i64 r.until1] wx fun e w' => e = .returned (.bool R) ∧ Below wx.heap.size wx w') := fun y z wx h => by
    rw [H.out]; exact in_any y MO DA z _ _ wx (hM.below hM.pos h) hr.1 hr.2

  clear hw H hM hr HD
  go_enter Tryd.func18, Tryd.ntmps18
  go_wp2_with fail
  go_at_call 34
  ((with_reducible refine (KO.out _ hB0).mono ?_); rintro e1 w1 ⟨y, z, rfl, hb1⟩; have z1 := hb1.size; rw [z0] at z1; have f5 := (hb1.cell (p := ⟨w.heap.size, 5, none⟩) (show w.heap.size < _ by omega)).trans q5; have f6 := (hb1.cell (p := ⟨w.heap.size, 6, none⟩) (show w.heap.size < _ by omega)).trans q6; have hB1 := (hB0.trans (hb1.mono (by omega))).alloc (by omega) (.cells #[.int .i64 y, .int .i64 MO, .int .i64 DA, .int .i64 z] 87); have z2 : w.heap.size < w1.heap.size := (by omega); clear q5 q6 hb1)
  go_wp2_with fail
  go_at_call 35
  (with_reducible refine (KI.out _ _ _ hB1).mono ?_)
  rintro e2 w2 ⟨rfl, hb2⟩
  have hB2 := hB1.trans (hb2.mono (by simp; omega))
  go_wp2_with fail
  go_ret
  exact ⟨rfl, hB2⟩
end Go.Proofs.YtkbceeobnbbfbaaDoor.RR

