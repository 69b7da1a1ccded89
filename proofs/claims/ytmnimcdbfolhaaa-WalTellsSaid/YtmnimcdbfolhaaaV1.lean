/- The check sum and a row's record, walked. -/
import Derived.Test.YtmnimcdbfolhaaaH1
import Derived.Test.YtmnimcdbfolhaaaRC
import Derived.Laws.BitsLemmas
set_option linter.unusedSimpArgs false
set_option linter.unusedVariables false
namespace Go.Proofs.Ytmnimcdbfolhaaa
open Go.RowKit DK
theorem bs_toList (x : Bts) : (bs x).toList = x := by rw [ByteArray.toList_eq, bs_list]
theorem bs_cut (l : Bts) (i j : Nat) (h : j ≤ l.length) : (bs l).extract i j = bs ((l.take j).drop i) := by
  apply ByteArray.ext
  apply Array.ext'
  rw [ByteArray.data_extract]
  simp [bs, List.extract_eq_take_drop, List.drop_take]
theorem bs_app (a b : Bts) : bs a ++ bs b = bs (a ++ b) := by
  apply ByteArray.ext; simp [bs, ByteArray.data_append]
theorem bits_xor (a b : Nat) (ha : a < 65536) (hb : b < 65536) : bits .xor .i64 (a : Int) (b : Int) = ((a ^^^ b : Nat) : Int) := by
  have h := Nat.xor_lt_two_pow (n := 16) ha hb
  have ha' : a % 2 ^ IntKind.i64.bits = a := Nat.mod_eq_of_lt (by show a < 18446744073709551616; omega)
  have hb' : b % 2 ^ IntKind.i64.bits = b := Nat.mod_eq_of_lt (by show b < 18446744073709551616; omega)
  simp only [bits, BitVec.ofInt_natCast, BitVec.toNat_xor, BitVec.toNat_ofNat, ha', hb']
  rw [IntKind.wrap_i64]; omega
set_option maxRecDepth 100000 in
theorem crc_any (x : Bts) (w : World) (hx : x.length ≤ 9223372036854775807) : Calls Try.prog 70 #[.string (bs x)] w fun e w' => e = .returned (.int .i64 (crc x)) ∧ w = w' := by
  have z1 := bs_size x
  go_enter Try.func70, Try.ntmps70
  go_wp2_with fail
  go_loop [3, 8] (fun u3 u8 => ∃ (k r : Nat), k ≤ x.length ∧ u3 = .int .i64 r ∧ u8 = .int .i64 k ∧ r < 65536 ∧ Hid (creg x 65535 = creg (x.drop k) r)) (fun _ u8 => x.length - (intOf u8).toNat)
  case atStart => exact ⟨0, 65535, Nat.zero_le _, rfl, rfl, by omega, rfl⟩
  case round =>
    obtain ⟨k, r, hk, rfl, rfl, hr, hR⟩ := hrel
    by_cases hlt : k < x.length
    · have e1 : (k : Int) < (x.length : Int) := by omega
      have e2 : k < (bs x).size := by omega
      have e3 : (0 : Int) ≤ (k : Int) := by omega
      obtain ⟨b, hb⟩ : ∃ b, (bs x)[k]'e2 = b := ⟨_, rfl⟩
      have hd : x.drop k = b :: x.drop (k + 1) := by rw [List.drop_eq_getElem_cons hlt, ← hb]; rfl
      have hbl := b.toNat_lt
      have hxr := bits_xor r b.toNat hr (by omega)
      have hxl := xor_byte_lt hr b
      obtain ⟨r1, hr1⟩ : ∃ q, r ^^^ b.toNat = q := ⟨_, rfl⟩
      rw [hr1] at hxr hxl
      have hR2 : Hid (creg x 65535 = creg (x.drop (k + 1)) (cit 8 r1)) := by show _ = _; rw [hR.out, hd, ← hr1]; rfl
      clear hR hd hr1
      go_wp2_with fail
      go_loop [3, 17] (fun u3 u17 => ∃ (j q : Nat), j ≤ 8 ∧ u3 = .int .i64 q ∧ u17 = .int .i64 j ∧ q < 65536 ∧ Hid (cit 8 r1 = cit (8 - j) q)) (fun _ u17 => 8 - (intOf u17).toNat)
      case atStart => exact ⟨0, r1, by omega, rfl, rfl, hxl, rfl⟩
      case round =>
        obtain ⟨j, q, hj, rfl, rfl, hq, hQ⟩ := hrel
        by_cases hj8 : j < 8
        · have e4 : (j : Int) < 8 := by omega
          have hQ2 : Hid (cit 8 r1 = cit (8 - (j + 1)) (cstep q)) := by
            show _ = _; rw [hQ.out, show 8 - j = (8 - (j + 1)) + 1 by omega]; rfl
          clear hQ
          have t1 : Int.tmod (q : Int) 2 = ((q % 2 : Nat) : Int) := by rw [Int.tmod_eq_emod_of_nonneg (by omega)]; omega
          have t2 : Int.tdiv (q : Int) 2 = ((q / 2 : Nat) : Int) := by rw [Int.tdiv_eq_ediv_of_nonneg (by omega)]; omega
          have t6 : IntKind.i64.wrap ((q / 2 : Nat) : Int) = ((q / 2 : Nat) : Int) := by rw [IntKind.wrap_i64]; omega
          have t7 : IntKind.i64.wrap ((q % 2 : Nat) : Int) = ((q % 2 : Nat) : Int) := by rw [IntKind.wrap_i64]; omega
          have hl2 := cstep_lt hq
          rcases Nat.mod_two_eq_zero_or_one q with hp | hp
          · have hc : cstep q = q / 2 := by unfold cstep; rw [if_neg (by omega)]
            rw [hc] at hQ2 hl2
            clear hc
            rw [hp] at t1 t7
            obtain ⟨h2, hh2⟩ : ∃ z, q / 2 = z := ⟨_, rfl⟩
            rw [hh2] at hQ2 hl2 t2 t6
            clear hh2
            go_wp2_with fail
            go_round
            case rel => exact ⟨j + 1, h2, by omega, rfl, by go_num, hl2, hQ2⟩
            case measure => simp [intOf]; omega
          · have hc : cstep q = (q / 2) ^^^ 33800 := by unfold cstep; rw [if_pos hp]
            rw [hc] at hQ2 hl2
            clear hc
            rw [hp] at t1 t7
            have t3 := bits_xor (q / 2) 33800 (by omega) (by omega)
            have t5 : IntKind.i64.wrap ((q : Int) / 2) = (q : Int) / 2 := by rw [IntKind.wrap_i64]; omega
            obtain ⟨h2, hh2⟩ : ∃ z, q / 2 = z := ⟨_, rfl⟩
            rw [hh2] at hQ2 hl2 t2 t6 t3
            clear hh2 t5
            obtain ⟨h3, hh3⟩ : ∃ z, h2 ^^^ 33800 = z := ⟨_, rfl⟩
            rw [hh3] at hQ2 hl2 t3
            clear hh3
            have t4 : bits .xor .i64 (h2 : Int) 33800 = (h3 : Int) := t3
            clear t3
            go_wp2_with fail
            go_round
            case rel => exact ⟨j + 1, h3, by omega, rfl, by go_num, hl2, hQ2⟩
            case measure => simp [intOf]; omega
        · have e4 : ¬ (j : Int) < 8 := by omega
          have hQ2 : Hid (cit 8 r1 = q) := by show _ = _; rw [hQ.out, show 8 - j = 0 by omega]; rfl
          have hR3 : Hid (creg x 65535 = creg (x.drop (k + 1)) q) := by show _ = _; rw [hR2.out, hQ2.out]
          clear hQ
          go_wp2_with fail
          go_round
          case rel => exact ⟨k + 1, q, by omega, rfl, by go_num, hq, hR3⟩
          case measure => simp [intOf]; omega
    · have e1 : ¬ (k : Int) < (x.length : Int) := by omega
      have hc : Hid (crc x = r ^^^ 65535) := by show _ = _; unfold crc; rw [hR.out, List.drop_of_length_le (by omega)]; rfl
      have t3 := bits_xor r 65535 hr (by omega)
      have t4 : bits .xor .i64 (r : Int) 65535 = ((r ^^^ 65535 : Nat) : Int) := t3
      clear hR t3
      go_wp2_with fail
      go_ret
      exact ⟨ret_int (by rw [hc.out]), rfl⟩
end Go.Proofs.Ytmnimcdbfolhaaa
