/- Walks of the string leaves: number, the reference's number. -/
import Derived.Test.YticjghibdjambaaDoorW6
namespace Go.Proofs.YticjghibdjambaaDoor
open Go.RowKit

/-- The number that digits make, after acc; -1 if one of the bytes is no digit. -/
def numA (acc : Int) : List UInt8 → Int
  | [] => acc
  | c :: r => if 48 ≤ (c.toNat : Int) ∧ (c.toNat : Int) ≤ 57 then numA (10 * acc + ((c.toNat : Int) - 48)) r else -1
def numL (l : List UInt8) : Int := numA 0 l

theorem drop_cons (s : ByteArray) (k : Nat) (h : k < s.size) : s.data.toList.drop k = s[k] :: s.data.toList.drop (k + 1) := by
  rw [List.drop_eq_getElem_cons (by simpa using h)]; rfl
theorem numA_yes (acc : Int) (s : ByteArray) (k : Nat) (h : k < s.size) (h1 : 48 ≤ (s[k].toNat : Int)) (h2 : (s[k].toNat : Int) ≤ 57) :
    numA acc (s.data.toList.drop k) = numA (10 * acc + ((s[k].toNat : Int) - 48)) (s.data.toList.drop (k + 1)) := by
  rw [drop_cons s k h, numA, if_pos ⟨h1, h2⟩]
theorem numA_no (acc : Int) (s : ByteArray) (k : Nat) (h : k < s.size) (h1 : ¬ (48 ≤ (s[k].toNat : Int) ∧ (s[k].toNat : Int) ≤ 57)) :
    numA acc (s.data.toList.drop k) = -1 := by
  rw [drop_cons s k h, numA, if_neg h1]
theorem numA_end (acc : Int) (s : ByteArray) : numA acc (s.data.toList.drop s.size) = acc := by
  rw [List.drop_of_length_le (by simp)]; rfl

set_option maxHeartbeats 400000 in
theorem number_any (s : ByteArray) (w : World) (hs : s.size ≤ 8) :
    Calls Tryd.prog 24 #[.string s] w fun e w' => e = .returned (.int .i64 (numL s.data.toList)) ∧ w = w' := by
  go_enter Tryd.func24, Tryd.ntmps24
  go_wp2
  go_loop [3, 7] (fun n i => ∃ (k : Nat) (a : Int), k ≤ s.size ∧ i = .int .i64 k ∧ n = .int .i64 a ∧ 0 ≤ a ∧ a + 1 ≤ 10 ^ k ∧ Hid (numL s.data.toList = numA a (s.data.toList.drop k))) (fun _ i => s.size - (intOf i).toNat)
  case atStart => exact ⟨0, 0, Nat.zero_le _, rfl, rfl, by omega, by simp, rfl⟩
  case round =>
    obtain ⟨k, a, hk, rfl, rfl, ha0, ha1, hn⟩ := hrel
    by_cases hlt : k < s.size
    · have hp : (10 : Int) ^ k ≤ 10000000 := by
        have : k ≤ 7 := by omega
        have : (10 : Int) ^ k ≤ 10 ^ 7 := by exact_mod_cast Nat.pow_le_pow_right (by omega) this
        simpa using this
      have ha2 : a ≤ 10000000 := by omega
      have hps : Hid ((10 : Int) ^ (k + 1) = 10 * 10 ^ k) := by rw [Int.pow_succ]; exact Int.mul_comm _ _
      have hb := s[k].toNat_lt
      by_cases h1 : 48 ≤ (s[k].toNat : Int)
      · by_cases h2 : (s[k].toNat : Int) ≤ 57
        · have hn' : Hid (numL s.data.toList = numA (10 * a + ((s[k].toNat : Int) - 48)) (s.data.toList.drop (k + 1))) := hn.out.trans (numA_yes a s k hlt h1 h2)
          have h9 : 10 * a + ((s[k].toNat : Int) - 48) + 1 ≤ 10 * 10 ^ k := by omega
          have ha3 : 0 ≤ 10 * a + ((s[k].toNat : Int) - 48) ∧ Hid (10 * a + ((s[k].toNat : Int) - 48) + 1 ≤ 10 ^ (k + 1)) := ⟨by omega, by rw [hps.out]; exact h9⟩
          clear hn ha1 hp hps h9
          go_wp2
          go_round
          case rel => exact ⟨k + 1, _, by omega, by go_num, rfl, ha3.1, ha3.2.out, hn'⟩
          case measure => simp [intOf]; omega
        · have hn' : Hid (numL s.data.toList = -1) := hn.out.trans (numA_no a s k hlt (by omega))
          clear hn ha1 hp hps
          go_wp2
          go_ret
          exact ⟨ret_int hn'.out.symm, rfl⟩
      · have hn' : Hid (numL s.data.toList = -1) := hn.out.trans (numA_no a s k hlt (by omega))
        clear hn ha1 hp hps
        go_wp2
        go_ret
        exact ⟨ret_int hn'.out.symm, rfl⟩
    · have hn' : Hid (numL s.data.toList = a) := by
        have e : k = s.size := by omega
        have := hn.out; rw [e, numA_end] at this; exact this
      clear hn ha1
      go_wp2
      go_ret
      exact ⟨ret_int hn'.out.symm, rfl⟩

/-- Nothing has happened but draws. -/
def Drawn (w w' : World) : Prop := ∃ k, w' = w.drewN k
theorem Drawn.below {w w' : World} (h : Drawn w w') : Below w.heap.size w w' := by
  obtain ⟨k, rfl⟩ := h; exact below_drewN (Below.refl _ _) k
theorem num2 (s : ByteArray) (hs : s.size = 2) (hs0 : 0 < s.size) (hs1 : 1 < s.size) : numL s.data.toList =
    if 48 ≤ (s[0].toNat : Int) ∧ (s[0].toNat : Int) ≤ 57 ∧ 48 ≤ (s[1].toNat : Int) ∧ (s[1].toNat : Int) ≤ 57 then 10 * ((s[0].toNat : Int) - 48) + ((s[1].toNat : Int) - 48) else -1 := by
  have e0 := drop_cons s 0 (by omega)
  have e1 := drop_cons s 1 (by omega)
  have e2 : s.data.toList.drop 2 = [] := List.drop_of_length_le (by simp; omega)
  rw [List.drop_zero] at e0
  rw [numL, e0, e1, e2]
  simp only [numA]
  split
  · split
    · rw [if_pos (by omega)]; omega
    · rw [if_neg (by omega)]
  · rw [if_neg (by omega)]

set_option maxHeartbeats 400000 in
theorem rnumber_any (s : ByteArray) (w : World) (hs : s.size = 2) :
    Calls Tryd.prog 25 #[.string s] w fun e w' => e = .returned (.int .i64 (numL s.data.toList)) ∧ Drawn w w' := by
  have hs0 : 0 < s.size := by omega
  have hs1 : 1 < s.size := by omega
  have H := Lib.hid (num2 s hs hs0 hs1)
  have hb0 := s[0].toNat_lt
  have hb1 := s[1].toNat_lt
  clear hs
  by_cases h1 : 48 ≤ (s[0].toNat : Int)
  case neg =>
    have H2 : Hid (numL s.data.toList = -1) := by rw [H.out, if_neg (by omega)]; exact rfl
    clear H
    go_enter Tryd.func25, Tryd.ntmps25
    go_wp2
    go_ret
    exact ⟨ret_int H2.out.symm, ⟨0, rfl⟩⟩
  by_cases h2 : (s[0].toNat : Int) ≤ 57
  case neg =>
    have H2 : Hid (numL s.data.toList = -1) := by rw [H.out, if_neg (by omega)]; exact rfl
    clear H
    go_enter Tryd.func25, Tryd.ntmps25
    go_wp2
    go_ret
    exact ⟨ret_int H2.out.symm, ⟨0, rfl⟩⟩
  by_cases h3 : 48 ≤ (s[1].toNat : Int)
  case neg =>
    have H2 : Hid (numL s.data.toList = -1) := by rw [H.out, if_neg (by omega)]; exact rfl
    clear H
    go_enter Tryd.func25, Tryd.ntmps25
    go_wp2
    go_ret
    exact ⟨ret_int H2.out.symm, ⟨0, rfl⟩⟩
  by_cases h4 : (s[1].toNat : Int) ≤ 57
  case neg =>
    have H2 : Hid (numL s.data.toList = -1) := by rw [H.out, if_neg (by omega)]; exact rfl
    clear H
    go_enter Tryd.func25, Tryd.ntmps25
    go_wp2
    go_ret
    exact ⟨ret_int H2.out.symm, ⟨0, rfl⟩⟩
  have H2 : Hid (numL s.data.toList = 10 * ((s[0].toNat : Int) - 48) + ((s[1].toNat : Int) - 48)) := by rw [H.out, if_pos (by omega)]; exact rfl
  clear H
  go_enter Tryd.func25, Tryd.ntmps25
  go_wp2_with fail
  go_quiet (fail)
  go_wp2
  go_ret
  exact ⟨ret_int H2.out.symm, ⟨_, rfl⟩⟩
end Go.Proofs.YticjghibdjambaaDoor
