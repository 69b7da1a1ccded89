/- Walks of the reference's Parse. -/
import Derived.Test.YticjghibdjambaaDoorP1
namespace Go.Proofs.YticjghibdjambaaDoor
open Go.RowKit

theorem hourB_far {y m d z : Int} (h : 4000 < y) : hourB y m d z = false := by
  rcases hb : hourB y m d z with _ | _
  · rfl
  · obtain ⟨_, a1, a2, a3, a4, a5, a6, a7⟩ := of_decide_eq_true hb
    have := (DM.num_lt y m d ⟨a1, a2, a3, a4⟩).1
    have := bef_far (y := y) (by omega)
    omega

theorem rhour_any (y m d h : Int) (w : World) :
    Calls Tryd.prog 12 #[.agg #[.int .i64 y, .int .i64 m, .int .i64 d, .int .i64 h]] w fun e w' => e = .returned (.tuple #[.int .i64 (hourN y m d h), .bool (hourB y m d h)]) ∧ Below w.heap.size w w' := by
  have no : (hourB y m d h = false) → Ending.returned (.tuple #[.int .i64 (hourN y m d h), .bool (hourB y m d h)]) = Ending.returned (.tuple #[.int .i64 0, .bool false]) := by
    intro e; unfold hourN; rw [e]; rfl
  cases k : okB y m d h
  · refine (rhour_no1 y m d h w k).mono fun e w' ⟨he, hw⟩ => ⟨he.trans (no (decide_eq_false ?_)).symm, hw⟩
    rintro ⟨_, a⟩
    have hk : okB y m d h = true := decide_eq_true ⟨a.1, a.2.1, a.2.2.1, a.2.2.2.1, a.2.2.2.2.1, a.2.2.2.2.2.1⟩
    rw [k] at hk; cases hk
  · obtain ⟨k3, k4, k5, k6, k7, k8⟩ := of_decide_eq_true k
    by_cases k1 : 2000 ≤ y
    · by_cases k2 : y ≤ 4000
      · refine (rhour_go y m d h w k k1 k2).mono fun e w' ⟨he, hw⟩ => ⟨he.trans ?_, hw⟩
        by_cases ht : 16777216 < 24 * DM.num y m d + h
        · rw [no (decide_eq_false (by omega)), (cap_big ht).1, (cap_big ht).2]
        · have hb : hourB y m d h = true := decide_eq_true ⟨k1, k3, k4, k5, k6, k7, k8, by omega⟩
          unfold hourN
          rw [hb, if_pos rfl, (cap_low (by omega)).1, (cap_low (by omega)).2]
      · exact (rhour_no3 y m d h w k (by omega)).mono fun e w' ⟨he, hw⟩ => ⟨he.trans (no (hourB_far (by omega))).symm, hw⟩
    · exact (rhour_no2 y m d h w k (by omega)).mono fun e w' ⟨he, hw⟩ => ⟨he.trans (no (decide_eq_false (by omega))).symm, hw⟩

theorem rnumber_at (s : ByteArray) (a b : Nat) (v : Int) (w : World) (hab : b = a + 2) (hb : b ≤ s.size) (h : Hid (numL ((s.data.toList.drop a).take 2) = v)) :
    Calls Tryd.prog 25 #[.string (s.extract a b)] w fun e w' => e = .returned (.int .i64 v) ∧ Drawn w w' := by
  have := rnumber_any (s.extract a b) w (by rw [ext_size s a b hb]; omega)
  rw [ext_list s a b (by omega) hb, show b - a = 2 by omega, h.out] at this
  exact this

theorem at_list (s : ByteArray) (k : Nat) (h : k < s.size) (c : UInt8) : s.data.toList[k]? = some c ↔ s[k] = c := by
  rw [List.getElem?_eq_getElem (by simpa using h)]
  simp
  rfl
theorem byte_int (a c : UInt8) : a = c ↔ (a.toNat : Int) = (c.toNat : Int) := by
  constructor
  · intro h; rw [h]
  · intro h; exact UInt8.toNat_inj.1 (by omega)

set_option maxHeartbeats 400000 in
theorem rparse_short (s : ByteArray) (w : World) (h : s.size ≠ 14) (hs : s.size ≤ 9223372036854775807) : Calls Tryd.prog 16 #[.string s] w (NoParse w) := by
  have h' : ((s.size : Int) != 14) = true := by rw [bne_iff_ne]; omega
  go_enter Tryd.func16, Tryd.ntmps16
  go_wp2
  go_ret2
  exact ⟨rfl, Below.refl _ _⟩

set_option maxHeartbeats 400000 in
theorem rparse_sep1 (s : ByteArray) (w : World) (h0 : 14 ≤ s.size) (h9 : s.size ≤ 14) (k4 : (s[4].toNat : Int) ≠ 45) : Calls Tryd.prog 16 #[.string s] w (NoParse w) := by
  have h' : ((s.size : Int) != 14) = false := by rw [bne_eq_false_iff_eq]; omega
  have b4 : ((s[4].toNat : Int) != 45) = true := by rw [bne_iff_ne]; exact k4
  clear k4
  go_enter Tryd.func16, Tryd.ntmps16
  go_wp2
  go_ret2
  exact ⟨rfl, Below.refl _ _⟩

set_option maxHeartbeats 400000 in
theorem rparse_sep2 (s : ByteArray) (w : World) (h0 : 14 ≤ s.size) (h9 : s.size ≤ 14) (k4 : (s[4].toNat : Int) = 45) (k7 : (s[7].toNat : Int) ≠ 45) : Calls Tryd.prog 16 #[.string s] w (NoParse w) := by
  have h' : ((s.size : Int) != 14) = false := by rw [bne_eq_false_iff_eq]; omega
  have b4 : ((s[4].toNat : Int) != 45) = false := by rw [bne_eq_false_iff_eq]; exact k4
  clear k4
  have b7 : ((s[7].toNat : Int) != 45) = true := by rw [bne_iff_ne]; exact k7
  clear k7
  go_enter Tryd.func16, Tryd.ntmps16
  go_wp2
  go_ret2
  exact ⟨rfl, Below.refl _ _⟩

set_option maxHeartbeats 400000 in
theorem rparse_sep3 (s : ByteArray) (w : World) (h0 : 14 ≤ s.size) (h9 : s.size ≤ 14) (k4 : (s[4].toNat : Int) = 45) (k7 : (s[7].toNat : Int) = 45) (k10 : (s[10].toNat : Int) ≠ 32) : Calls Tryd.prog 16 #[.string s] w (NoParse w) := by
  have h' : ((s.size : Int) != 14) = false := by rw [bne_eq_false_iff_eq]; omega
  have b4 : ((s[4].toNat : Int) != 45) = false := by rw [bne_eq_false_iff_eq]; exact k4
  clear k4
  have b7 : ((s[7].toNat : Int) != 45) = false := by rw [bne_eq_false_iff_eq]; exact k7
  clear k7
  have b10 : ((s[10].toNat : Int) != 32) = true := by rw [bne_iff_ne]; exact k10
  clear k10
  go_enter Tryd.func16, Tryd.ntmps16
  go_wp2
  go_ret2
  exact ⟨rfl, Below.refl _ _⟩

set_option maxHeartbeats 400000 in
theorem rparse_sep4 (s : ByteArray) (w : World) (h0 : 14 ≤ s.size) (h9 : s.size ≤ 14) (k4 : (s[4].toNat : Int) = 45) (k7 : (s[7].toNat : Int) = 45) (k10 : (s[10].toNat : Int) = 32) (k13 : (s[13].toNat : Int) ≠ 104) : Calls Tryd.prog 16 #[.string s] w (NoParse w) := by
  have h' : ((s.size : Int) != 14) = false := by rw [bne_eq_false_iff_eq]; omega
  have b4 : ((s[4].toNat : Int) != 45) = false := by rw [bne_eq_false_iff_eq]; exact k4
  clear k4
  have b7 : ((s[7].toNat : Int) != 45) = false := by rw [bne_eq_false_iff_eq]; exact k7
  clear k7
  have b10 : ((s[10].toNat : Int) != 32) = false := by rw [bne_eq_false_iff_eq]; exact k10
  clear k10
  have b13 : ((s[13].toNat : Int) != 104) = true := by rw [bne_iff_ne]; exact k13
  clear k13
  go_enter Tryd.func16, Tryd.ntmps16
  go_wp2
  go_ret2
  exact ⟨rfl, Below.refl _ _⟩
end Go.Proofs.YticjghibdjambaaDoor
