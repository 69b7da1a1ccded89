/- Walk of the reference's Hour. -/
import Derived.Test.YticjghibdjambaaDoorW5
namespace Go.Proofs.YticjghibdjambaaDoor
open Go.RowKit

theorem bcell {W w1 : World} (hb : Below W.heap.size W w1) : (∀ b o, b < W.heap.size → w1.cell? ⟨b, o, none⟩ = W.cell? ⟨b, o, none⟩) ∧ (∀ b o, b < W.heap.size → w1.frozen? ⟨b, o, none⟩ = W.frozen? ⟨b, o, none⟩) :=
  ⟨fun b o h => hb.cell (p := ⟨b, o, none⟩) h, fun b o h => hb.frozen (p := ⟨b, o, none⟩) h⟩

theorem valid_t (y m d h : Int) (w : World) (k : okB y m d h = true) :
    Calls Tryd.prog 23 #[.agg #[.int .i64 y, .int .i64 m, .int .i64 d, .int .i64 h]] w fun e w' => e = .returned (.bool true) ∧ Below w.heap.size w w' := by
  rw [← k]; exact valid_any y m d h w
theorem valid_f (y m d h : Int) (w : World) (k : okB y m d h = false) :
    Calls Tryd.prog 23 #[.agg #[.int .i64 y, .int .i64 m, .int .i64 d, .int .i64 h]] w fun e w' => e = .returned (.bool false) ∧ Below w.heap.size w w' := by
  rw [← k]; exact valid_any y m d h w

/-- What the reference's Hour returns where its tests fail, before the loop. -/
def NoHour (w : World) (e : Ending) (w' : World) : Prop := e = .returned (.tuple #[.int .i64 0, .bool false]) ∧ Below w.heap.size w w'

set_option maxHeartbeats 1000000 in
theorem rhour_no1 (y m d z : Int) (w : World) (k : okB y m d z = false) : Calls Tryd.prog 12 #[.agg #[.int .i64 y, .int .i64 m, .int .i64 d, .int .i64 z]] w (NoHour w) := by
  have K := Lib.hid k
  clear k
  go_enter Tryd.func12, Tryd.ntmps12
  go_wp2_with (go_at_call 23; refine (valid_f _ _ _ _ _ K.out).mono ?_; rintro e w1 ⟨rfl, hb⟩)
  go_ret2
  exact ⟨rfl, (((Below.refl _ _).alloc (Nat.le_refl _) _)).trans (hb.mono (by simp))⟩
set_option maxHeartbeats 1000000 in
theorem rhour_no2 (y m d z : Int) (w : World) (k : okB y m d z = true) (h2 : y < 2000) : Calls Tryd.prog 12 #[.agg #[.int .i64 y, .int .i64 m, .int .i64 d, .int .i64 z]] w (NoHour w) := by
  have K := Lib.hid k
  clear k
  go_enter Tryd.func12, Tryd.ntmps12
  go_wp2_with (go_at_call 23; refine (valid_t _ _ _ _ _ K.out).mono ?_; rintro e w1 ⟨rfl, hb⟩; obtain ⟨hc, hf⟩ := bcell hb)
  go_ret2
  exact ⟨rfl, (((Below.refl _ _).alloc (Nat.le_refl _) _)).trans (hb.mono (by simp))⟩
set_option maxHeartbeats 1000000 in
theorem rhour_no3 (y m d z : Int) (w : World) (k : okB y m d z = true) (h2 : 4000 < y) : Calls Tryd.prog 12 #[.agg #[.int .i64 y, .int .i64 m, .int .i64 d, .int .i64 z]] w (NoHour w) := by
  have K := Lib.hid k
  clear k
  go_enter Tryd.func12, Tryd.ntmps12
  go_wp2_with (go_at_call 23; refine (valid_t _ _ _ _ _ K.out).mono ?_; rintro e w1 ⟨rfl, hb⟩; obtain ⟨hc, hf⟩ := bcell hb)
  go_ret2
  exact ⟨rfl, (((Below.refl _ _).alloc (Nat.le_refl _) _)).trans (hb.mono (by simp))⟩

theorem cum_top (y : Int) : Hid (DM.bef (y + 1) + DM.cum (y + 1) 1 = DM.bef y + DM.cum y 12 + DM.len y 12) := by
  have h3 := DM.cum_succ y 12 (by omega) (by omega); have h13 := DM.cum_13 y; rw [show (12 : Int) + 1 = 13 from rfl] at h3
  have := DM.bef_succ y
  have := DM.cum_1 (y + 1)
  exact (by omega : DM.bef (y + 1) + DM.cum (y + 1) 1 = DM.bef y + DM.cum y 12 + DM.len y 12)

set_option maxHeartbeats 2000000 in
theorem rhour_go (y m d z : Int) (w : World) (k : okB y m d z = true) (k1 : 2000 ≤ y) (k2 : y ≤ 4000) :
    Calls Tryd.prog 12 #[.agg #[.int .i64 y, .int .i64 m, .int .i64 d, .int .i64 z]] w fun e w' =>
      e = .returned (.tuple #[.int .i64 (capN (24 * DM.num y m d + z)), .bool (capB (24 * DM.num y m d + z))]) ∧ Below w.heap.size w w' := by
  obtain ⟨k3, k4, k5, k6, k7, k8⟩ := of_decide_eq_true k
  have l0 := DM.len_bd y m
  have K := Lib.hid k
  clear k
  have e0 : Hid (DM.bef 2000 + DM.cum 2000 1 = 0) := by have := DM.bef_2000; have := DM.cum_1 2000; exact (by omega : DM.bef 2000 + DM.cum 2000 1 = 0)
  go_enter Tryd.func12, Tryd.ntmps12
  go_wp2_with (go_at_call 23; refine (valid_t _ _ _ _ _ K.out).mono ?_; rintro e w1 ⟨rfl, hb⟩; obtain ⟨hc, hf⟩ := bcell hb)
  have hB : Below w.heap.size w w1 := (((Below.refl _ _).alloc (Nat.le_refl _) _)).trans (hb.mono (by simp))
  clear hb
  go_loop [5, 6, 7] (fun r t s => ∃ yy mm : Int, 2000 ≤ yy ∧ yy ≤ y ∧ 1 ≤ mm ∧ mm ≤ 12 ∧ (yy < y ∨ mm ≤ m) ∧ t = .int .i64 yy ∧ s = .int .i64 mm ∧ r = .int .i64 (d - 1 + (DM.bef yy + DM.cum yy mm))) (fun _ t s => ((y - intOf t) * 13 + 13 - intOf s).toNat)
  case atStart => exact ⟨2000, 1, by omega, by omega, by omega, by omega, by omega, rfl, rfl, by rw [e0.out]; go_num⟩
  case round =>
    obtain ⟨yy, mm, hy1, hy2, hm1, hm2, hor, rfl, rfl, rfl⟩ := hrel
    have cb := DM.cum_bd yy mm
    have db := DM.len_bd yy mm
    have b0 := DM.bef_nonneg hy1
    have b1 : DM.bef yy ≤ 800000 := by unfold DM.bef; omega
    by_cases hj : yy < y ∨ mm < m
    · have H : yy < y ∧ Hid (yy < y) ∨ (decide (yy < y) = false ∧ mm < m) := by
        by_cases g : yy < y
        · exact .inl ⟨g, g⟩
        · exact .inr ⟨decide_eq_false g, by omega⟩
      by_cases h12 : mm < 12
      · have cs := Lib.hid (DM.cum_succ yy mm hm1 (by omega))
        rcases H with ⟨g, _⟩ | ⟨g, g2⟩
        all_goals
          go_wp2_with (go_at_call 22; refine (rlength_any _ _ _).mono ?_; rintro e w' ⟨rfl, rfl⟩)
          go_round
          case rel => exact ⟨yy, mm + 1, by omega, by omega, by omega, by omega, by omega, rfl, rfl, by rw [cs.out]; go_num⟩
          case measure => simp [intOf]; omega
      · obtain rfl : (12 : Int) = mm := by omega
        have cs := cum_top yy
        rcases H with ⟨g, _⟩ | ⟨g, g2⟩
        · go_wp2_with (go_at_call 22; refine (rlength_any _ _ _).mono ?_; rintro e w' ⟨rfl, rfl⟩)
          go_round
          case rel => exact ⟨yy + 1, 1, by omega, by omega, by omega, by omega, by omega, rfl, rfl, by rw [cs.out]; go_num⟩
          case measure => simp [intOf]; omega
        · exfalso; omega
    · obtain rfl : y = yy := by omega
      obtain rfl : m = mm := by omega
      have hn : Hid (d - 1 + (DM.bef y + DM.cum y m) = DM.num y m d) := (by unfold DM.num; omega : d - 1 + (DM.bef y + DM.cum y m) = DM.num y m d)
      clear hor hj
      by_cases ht : 16777216 < 24 * (d - 1 + (DM.bef y + DM.cum y m)) + z
      · go_wp2_with fail
        go_ret2
        rw [hn.out] at ht
        rw [(cap_big ht).1, (cap_big ht).2]
        exact ⟨rfl, hB⟩
      · go_wp2_with fail
        go_ret2
        rw [← hn.out, (cap_low (by omega)).1, (cap_low (by omega)).2]
        exact ⟨rfl, hB⟩
end Go.Proofs.YticjghibdjambaaDoor
