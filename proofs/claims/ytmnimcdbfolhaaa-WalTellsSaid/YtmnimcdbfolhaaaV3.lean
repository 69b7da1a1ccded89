/- row, walked: the row whose record stands at the front. -/
import Derived.Test.YtmnimcdbfolhaaaV2
set_option linter.unusedSimpArgs false
set_option linter.unusedVariables false
namespace Go.Proofs.Ytmnimcdbfolhaaa
open Go.RowKit DK
theorem wrap_nat (n : Nat) (h : n < 9223372036854775808) : IntKind.i64.wrap (n : Int) = (n : Int) := by rw [IntKind.wrap_i64]; omega
theorem bits_or (a b k : Nat) (hb : b < 2 ^ k) (h : a * 2 ^ k + b < 9223372036854775808) : bits .or .i64 ((a * 2 ^ k : Nat) : Int) (b : Int) = ((a * 2 ^ k + b : Nat) : Int) := by
  have h1 : a * 2 ^ k < 9223372036854775808 := by omega
  have h2 : b < 9223372036854775808 := by omega
  have ha' : (a * 2 ^ k) % 2 ^ IntKind.i64.bits = a * 2 ^ k := Nat.mod_eq_of_lt (by show _ < 18446744073709551616; omega)
  have hb' : b % 2 ^ IntKind.i64.bits = b := Nat.mod_eq_of_lt (by show b < 18446744073709551616; omega)
  have e : a * 2 ^ k ||| b = a * 2 ^ k + b := by
    rw [← Nat.shiftLeft_eq, Nat.shiftLeft_add_eq_or_of_lt hb]
  simp only [bits, BitVec.ofInt_natCast, BitVec.toNat_or, BitVec.toNat_ofNat, ha', hb']
  rw [e]; exact wrap_nat _ h
theorem wrap64_nat (n : Nat) (h : n < 9223372036854775808) : wrap64 (n : Int) = (n : Int) := by simp only [wrap64]; omega
theorem or_two (a b : Nat) (ha : a < 256) (hb : b < 256) : bits .or .i64 (wrap64 (wrap64 (a : Int) * 256)) (wrap64 (b : Int)) = ((a * 256 + b : Nat) : Int) := by
  have h := bits_or a b 8 (by omega) (by omega)
  rw [wrap64_nat a (by omega), wrap64_nat b (by omega), show (a : Int) * 256 = ((a * 2 ^ 8 : Nat) : Int) by omega, wrap64_nat _ (by omega), h]
theorem or_three (a b c : Nat) (ha : a < 256) (hb : b < 256) (hc : c < 256) : bits .or .i64 (bits .or .i64 (wrap64 (wrap64 (a : Int) * 65536)) (wrap64 (wrap64 (b : Int) * 256))) (wrap64 (c : Int)) = (((a * 256 + b) * 256 + c : Nat) : Int) := by
  have h := bits_or a (b * 256) 16 (by omega) (by omega)
  have h2 := bits_or (a * 256 + b) c 8 (by omega) (by omega)
  rw [wrap64_nat a (by omega), wrap64_nat b (by omega), wrap64_nat c (by omega), show (a : Int) * 65536 = ((a * 2 ^ 16 : Nat) : Int) by omega, wrap64_nat _ (by omega), show (b : Int) * 256 = ((b * 256 : Nat) : Int) by omega, wrap64_nat (b * 256) (by omega), h, show a * 2 ^ 16 + b * 256 = (a * 256 + b) * 2 ^ 8 by omega, h2]
def rowX (s : Bts) : Bts := if rowT s then (s.drop 4).take (told s) else []
theorem bs_at (s : Bts) (k : Nat) (h : k < (bs s).size) : (bs s)[k]'h = s.getD k 0 := by
  have : k < s.length := by rw [bs_size] at h; exact h
  simp [List.getD_eq_getElem?_getD, this]
  rfl
set_option maxRecDepth 100000 in
set_option maxHeartbeats 4000000 in
theorem row_any (s : Bts) (w : World) (hs : s.length ≤ 9223372036854775807) : Calls Try.prog 64 #[.string (bs s)] w fun e w' => e = .returned (.tuple #[.string (bs (rowX s)), .bool (rowT s)]) ∧ Below w.heap.size w w' := by
  have z1 := bs_size s
  by_cases h7 : s.length < 7
  · have hT : rowT s = false := by unfold rowT; rw [decide_eq_false (by omega)]; rfl
    have hX : bs (rowX s) = ⟨#[]⟩ := by unfold rowX; rw [hT]; rfl
    have g1 : (s.length : Int) < 7 := by omega
    rw [hT, hX]
    go_enter Try.func64, Try.ntmps64
    go_wp2_with fail
    go_ret2
    exact ⟨rfl, Below.refl _ _⟩
  have y0 := bs_at s 0 (by omega)
  have y1 := bs_at s 1 (by omega)
  have y2 := bs_at s 2 (by omega)
  have y3 := bs_at s 3 (by omega)
  have g1 : ¬ (s.length : Int) < 7 := by omega
  have g2 : decide ((s.length : Int) < 7) = false := decide_eq_false g1
  have p0 : 0 < s.length := by omega
  have p1 : 1 < s.length := by omega
  have p2 : 2 < s.length := by omega
  have p3 : 3 < s.length := by omega
  obtain ⟨b0, e0⟩ : ∃ b, s.getD 0 0 = b := ⟨_, rfl⟩
  obtain ⟨b1, e1⟩ : ∃ b, s.getD 1 0 = b := ⟨_, rfl⟩
  obtain ⟨b2, e2⟩ : ∃ b, s.getD 2 0 = b := ⟨_, rfl⟩
  obtain ⟨b3, e3⟩ : ∃ b, s.getD 3 0 = b := ⟨_, rfl⟩
  rw [e0] at y0
  rw [e1] at y1
  rw [e2] at y2
  rw [e3] at y3
  have hT0 : rowT s = (decide (b0 = 87) && decide (told s ≤ 1048576) && decide (told s + 7 ≤ s.length) && decide ((s.getD (4 + told s) 0).toNat * 256 + (s.getD (5 + told s) 0).toNat = crc ((s.drop 1).take (3 + told s))) && decide (s.getD (6 + told s) 0 = 233)) := by
    unfold rowT; rw [e0, decide_eq_true (show 7 ≤ s.length by omega)]; rfl
  by_cases h0 : b0 = 87
  case neg =>
    have hT : rowT s = false := by rw [hT0, decide_eq_false h0]; rfl
    have hX : bs (rowX s) = ⟨#[]⟩ := by unfold rowX; rw [hT]; rfl
    have g3 : ¬ (b0.toNat : Int) = 87 := fun e => h0 (byte_eq (by show _ = 87; omega))
    have g4 : ((b0.toNat : Int) != 87) = true := by rw [bne_iff_ne]; exact g3
    rw [hT, hX]
    clear hT0 hT hX
    go_enter Try.func64, Try.ntmps64
    go_wp2_with fail
    go_ret2
    exact ⟨rfl, Below.refl _ _⟩
  subst h0
  have l1 := b1.toNat_lt
  have l2 := b2.toNat_lt
  have l3 := b3.toNat_lt
  have hto : told s = (b1.toNat * 256 + b2.toNat) * 256 + b3.toNat := by unfold told; rw [e1, e2, e3]; omega
  have X4 := or_three b1.toNat b2.toNat b3.toNat (by omega) (by omega) (by omega)
  rw [← hto] at X4
  have hTo : told s < 16777216 := by omega
  clear l1 l2 l3 hto
  obtain ⟨n, hn⟩ : ∃ n, told s = n := ⟨_, rfl⟩
  rw [hn] at X4 hT0 hTo
  rw [decide_eq_true rfl, Bool.true_and] at hT0
  by_cases hA : n ≤ 1048576 ∧ n + 7 ≤ s.length
  case neg =>
    have hT : rowT s = false := by
      rw [hT0]
      rcases Nat.lt_or_ge 1048576 n with q | q
      · rw [decide_eq_false (by omega)]; rfl
      · rw [decide_eq_false (show ¬ n + 7 ≤ s.length by omega)]; simp
    have hX : bs (rowX s) = ⟨#[]⟩ := by unfold rowX; rw [hT]; rfl
    rw [hT, hX]
    clear hT0 hT hX hn e0 e1 e2 e3
    go_enter Try.func64, Try.ntmps64
    go_upto_region 3 with fail
    go_quiet (fail)
    clear X4 y0 y1 y2 y3
    rcases Nat.lt_or_ge 1048576 n with q | q
    · have g5 : (1048576 : Int) < (n : Int) := by omega
      have g6 : decide ((1048576 : Int) < (n : Int)) = true := decide_eq_true g5
      go_wp2_with fail
      go_ret2
      exact ⟨rfl, below_drewN (Below.refl _ _) _⟩
    · have g5 : ¬ (1048576 : Int) < (n : Int) := by omega
      have g6 : decide ((1048576 : Int) < (n : Int)) = false := decide_eq_false g5
      have g7 : (s.length : Int) < 4 + (n : Int) + 3 := by omega
      go_wp2_with fail
      go_ret2
      exact ⟨rfl, below_drewN (Below.refl _ _) _⟩
  obtain ⟨hA1, hA2⟩ := hA
  rw [decide_eq_true hA1, decide_eq_true hA2, Bool.true_and, Bool.true_and] at hT0
  have g5 : ¬ (1048576 : Int) < (n : Int) := by omega
  have g6 : decide ((1048576 : Int) < (n : Int)) = false := decide_eq_false g5
  have g7 : ¬ (s.length : Int) < 4 + (n : Int) + 3 := by omega
  obtain ⟨c0, f0⟩ : ∃ b, s.getD (4 + n) 0 = b := ⟨_, rfl⟩
  obtain ⟨c1, f1⟩ : ∃ b, s.getD (5 + n) 0 = b := ⟨_, rfl⟩
  obtain ⟨c2, f2⟩ : ∃ b, s.getD (6 + n) 0 = b := ⟨_, rfl⟩
  rw [f0, f1, f2] at hT0
  have X5 : (bs s).extract (4 + n) (4 + n + 3) = bs [c0, c1, c2] := by
    rw [bs_cut _ _ _ (by omega), List.drop_take, show 4 + n + 3 - (4 + n) = 0 + 1 + 1 + 1 by omega, getD_cons (k := 4 + n) (by omega), getD_cons (k := 4 + n + 1) (by omega), getD_cons (k := 4 + n + 1 + 1) (by omega), List.take_succ_cons, List.take_succ_cons, List.take_succ_cons, List.take_zero, f0, show 4 + n + 1 = 5 + n by omega, f1, show 5 + n + 1 = 6 + n by omega, f2]
  have X6 : (bs s).extract 1 (4 + n) = bs ((s.drop 1).take (3 + n)) := by
    rw [bs_cut _ _ _ (by omega), List.drop_take, show 4 + n - 1 = 3 + n by omega]
  have X7 : (bs s).extract 4 (4 + n) = bs ((s.drop 4).take n) := by
    rw [bs_cut _ _ _ (by omega), List.drop_take, show 4 + n - 4 = n by omega]
  have KC := Lib.hid fun wx => crc_any ((s.drop 1).take (3 + n)) wx (by rw [List.length_take, List.length_drop]; omega)
  obtain ⟨C, hC⟩ : ∃ c, crc ((s.drop 1).take (3 + n)) = c := ⟨_, rfl⟩
  rw [hC] at KC hT0
  clear hC
  obtain ⟨T, hTT⟩ : ∃ T, (s.drop 1).take (3 + n) = T := ⟨_, rfl⟩
  obtain ⟨U, hU⟩ : ∃ U, (s.drop 4).take n = U := ⟨_, rfl⟩
  rw [hTT] at X6 KC
  rw [hU] at X7
  clear hTT
  have m0 := c0.toNat_lt
  have m1 := c1.toNat_lt
  have X8 := or_two c0.toNat c1.toNat (by omega) (by omega)
  obtain ⟨v, hv⟩ : ∃ v, c0.toNat * 256 + c1.toNat = v := ⟨_, rfl⟩
  rw [hv] at X8 hT0
  clear m0 m1 hv f0 f1 f2
  have y5 : ∀ h, (bs [c0, c1, c2])[0]'h = c0 := fun _ => rfl
  have y6 : ∀ h, (bs [c0, c1, c2])[1]'h = c1 := fun _ => rfl
  have y7 : ∀ h, (bs [c0, c1, c2])[2]'h = c2 := fun _ => rfl
  have z5 : (bs [c0, c1, c2]).size = 3 := rfl
  by_cases hvC : v = C
  case neg =>
    have hT : rowT s = false := by rw [hT0, decide_eq_false hvC]; rfl
    have hX : bs (rowX s) = ⟨#[]⟩ := by unfold rowX; rw [hT]; rfl
    rw [hT, hX]
    clear hT0 hT hX hn hU e0 e1 e2 e3
    have g8 : ¬ (v : Int) = (C : Int) := by omega
    have g9 : ((v : Int) != (C : Int)) = true := by rw [bne_iff_ne]; exact g8
    go_enter Try.func64, Try.ntmps64
    go_upto_region 3 with fail
    go_quiet (fail)
    clear X4 y0 y1 y2 y3
    go_upto_region 8 with (first | (go_at_call 70; (with_reducible refine (KC.out _).mono ?_); rintro e5 w5 ⟨rfl, rfl⟩) | fail)
    go_quiet (fail)
    go_wp2_with fail
    go_ret2
    exact ⟨rfl, below_drewN (below_drewN (Below.refl _ _) _) _⟩
  subst hvC
  rw [decide_eq_true rfl, Bool.true_and] at hT0
  have g8 : ((v : Int) != (v : Int)) = false := by simp
  by_cases h9 : c2 = 233
  case neg =>
    have hT : rowT s = false := by rw [hT0, decide_eq_false h9]
    have hX : bs (rowX s) = ⟨#[]⟩ := by unfold rowX; rw [hT]; rfl
    rw [hT, hX]
    clear hT0 hT hX hn hU e0 e1 e2 e3
    have g10 : ¬ (c2.toNat : Int) = 233 := fun e => h9 (byte_eq (by show _ = 233; omega))
    have g11 : ((c2.toNat : Int) != 233) = true := by rw [bne_iff_ne]; exact g10
    go_enter Try.func64, Try.ntmps64
    go_upto_region 3 with fail
    go_quiet (fail)
    clear X4 y0 y1 y2 y3
    go_upto_region 8 with (first | (go_at_call 70; (with_reducible refine (KC.out _).mono ?_); rintro e5 w5 ⟨rfl, rfl⟩) | fail)
    go_quiet (fail)
    go_wp2_with fail
    go_ret2
    exact ⟨rfl, below_drewN (below_drewN (Below.refl _ _) _) _⟩
  subst h9
  have hT : rowT s = true := by rw [hT0]; rfl
  have hX : bs (rowX s) = bs U := by unfold rowX; rw [hT, hn, hU]; rfl
  rw [hT, hX]
  clear hT0 hT hX hn hU e0 e1 e2 e3
  go_enter Try.func64, Try.ntmps64
  go_upto_region 3 with fail
  go_quiet (fail)
  clear X4 y0 y1 y2 y3
  go_upto_region 8 with (first | (go_at_call 70; (with_reducible refine (KC.out _).mono ?_); rintro e5 w5 ⟨rfl, rfl⟩) | fail)
  go_quiet (fail)
  go_wp2_with fail
  go_ret2
  rw [← X7]
  exact ⟨rfl, below_drewN (Below.refl _ _) _⟩
end Go.Proofs.Ytmnimcdbfolhaaa
