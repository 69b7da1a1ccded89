/- Joined of: RL1 RL2 RL3. -/
import Derived.Test.YtmnimcdbfolhaaaV7
import Derived.Test.YtmnimcdbfolhaaaX1
/- The reference's check sum, a row's record, the records of rows, walked. -/
set_option linter.unusedSimpArgs false
set_option linter.unusedVariables false
namespace Go.Proofs.Ytmnimcdbfolhaaa
open Go.RowKit DK
attribute [local go_sem] alloc_drewN setCell_drewN shape_drewN
set_option maxRecDepth 100000 in
theorem rcrc_any (x : Bts) (w : World) (hx : x.length ≤ 9223372036854775807) : Calls Try.prog 88 #[.string (bs x)] w fun e w' => e = .returned (.int .i64 (crc x)) ∧ w = w' := by
  have z1 := bs_size x
  go_enter Try.func88, Try.ntmps88
  go_wp2_with fail
  go_loop [3, 4] (fun u3 u8 => ∃ (k r : Nat), k ≤ x.length ∧ u3 = .int .i64 r ∧ u8 = .int .i64 k ∧ r < 65536 ∧ Hid (creg x 65535 = creg (x.drop k) r)) (fun _ u8 => x.length - (intOf u8).toNat)
  case atStart => exact ⟨0, 65535, Nat.zero_le _, rfl, rfl, by omega, rfl⟩
  case round =>
    obtain ⟨k, r, hk, rfl, rfl, hr, hR⟩ := hrel
    by_cases hlt : k < x.length
    · have e1 : (k : Int) < (x.length : Int) := by omega
      have e2 : k < (bs x).size := by omega
      have e3 : (0 : Int) ≤ (k : Int) := by omega
      obtain ⟨b, hb⟩ : ∃ b, (bs x)[k]'e2 = b := ⟨_, rfl⟩
      have hd : x.drop k = b :: x.drop (k + 1) := by rw [List.drop_eq_getElem_cons hlt, ← hb]; rfl
      have hbl := b.toNat_lt
      have hxr := bits_xor r b.toNat hr (by omega)
      have hxl := xor_byte_lt hr b
      obtain ⟨r1, hr1⟩ : ∃ q, r ^^^ b.toNat = q := ⟨_, rfl⟩
      rw [hr1] at hxr hxl
      have hR2 : Hid (creg x 65535 = creg (x.drop (k + 1)) (cit 8 r1)) := by show _ = _; rw [hR.out, hd, ← hr1]; rfl
      clear hR hd hr1
      go_wp2_with fail
      go_loop [3, 5] (fun u3 u17 => ∃ (j q : Nat), j ≤ 8 ∧ u3 = .int .i64 q ∧ u17 = .int .i64 j ∧ q < 65536 ∧ Hid (cit 8 r1 = cit (8 - j) q)) (fun _ u17 => 8 - (intOf u17).toNat)
      case atStart => exact ⟨0, r1, by omega, rfl, rfl, hxl, rfl⟩
      case round =>
        obtain ⟨j, q, hj, rfl, rfl, hq, hQ⟩ := hrel
        by_cases hj8 : j < 8
        · have e4 : (j : Int) < 8 := by omega
          have hQ2 : Hid (cit 8 r1 = cit (8 - (j + 1)) (cstep q)) := by
            show _ = _; rw [hQ.out, show 8 - j = (8 - (j + 1)) + 1 by omega]; rfl
          clear hQ
          have t1 : Int.tmod (q : Int) 2 = ((q % 2 : Nat) : Int) := by rw [Int.tmod_eq_emod_of_nonneg (by omega)]; omega
          have t2 : Int.tdiv (q : Int) 2 = ((q / 2 : Nat) : Int) := by rw [Int.tdiv_eq_ediv_of_nonneg (by omega)]; omega
          have t6 : IntKind.i64.wrap ((q / 2 : Nat) : Int) = ((q / 2 : Nat) : Int) := by rw [IntKind.wrap_i64]; omega
          have t7 : IntKind.i64.wrap ((q % 2 : Nat) : Int) = ((q % 2 : Nat) : Int) := by rw [IntKind.wrap_i64]; omega
          have hl2 := cstep_lt hq
          rcases Nat.mod_two_eq_zero_or_one q with hp | hp
          · have hc : cstep q = q / 2 := by unfold cstep; rw [if_neg (by omega)]
            rw [hc] at hQ2 hl2
            clear hc
            rw [hp] at t1 t7
            obtain ⟨h2, hh2⟩ : ∃ z, q / 2 = z := ⟨_, rfl⟩
            rw [hh2] at hQ2 hl2 t2 t6
            clear hh2
            go_wp2_with fail
            go_round
            case rel => exact ⟨j + 1, h2, by omega, rfl, by go_num, hl2, hQ2⟩
            case measure => simp [intOf]; omega
          · have hc : cstep q = (q / 2) ^^^ 33800 := by unfold cstep; rw [if_pos hp]
            rw [hc] at hQ2 hl2
            clear hc
            rw [hp] at t1 t7
            have t3 := bits_xor (q / 2) 33800 (by omega) (by omega)
            have t5 : IntKind.i64.wrap ((q : Int) / 2) = (q : Int) / 2 := by rw [IntKind.wrap_i64]; omega
            obtain ⟨h2, hh2⟩ : ∃ z, q / 2 = z := ⟨_, rfl⟩
            rw [hh2] at hQ2 hl2 t2 t6 t3
            clear hh2 t5
            obtain ⟨h3, hh3⟩ : ∃ z, h2 ^^^ 33800 = z := ⟨_, rfl⟩
            rw [hh3] at hQ2 hl2 t3
            clear hh3
            have t4 : bits .xor .i64 (h2 : Int) 33800 = (h3 : Int) := t3
            clear t3
            go_wp2_with fail
            go_round
            case rel => exact ⟨j + 1, h3, by omega, rfl, by go_num, hl2, hQ2⟩
            case measure => simp [intOf]; omega
        · have e4 : ¬ (j : Int) < 8 := by omega
          have hQ2 : Hid (cit 8 r1 = q) := by show _ = _; rw [hQ.out, show 8 - j = 0 by omega]; rfl
          have hR3 : Hid (creg x 65535 = creg (x.drop (k + 1)) q) := by show _ = _; rw [hR2.out, hQ2.out]
          clear hQ
          go_wp2_with fail
          go_round
          case rel => exact ⟨k + 1, q, by omega, rfl, by go_num, hq, hR3⟩
          case measure => simp [intOf]; omega
    · have e1 : ¬ (k : Int) < (x.length : Int) := by omega
      have hc : Hid (crc x = r ^^^ 65535) := by show _ = _; unfold crc; rw [hR.out, List.drop_of_length_le (by omega)]; rfl
      have t3 := bits_xor r 65535 hr (by omega)
      have t4 : bits .xor .i64 (r : Int) 65535 = ((r ^^^ 65535 : Nat) : Int) := t3
      clear hR t3
      go_wp2_with fail
      go_ret
      exact ⟨ret_int (by rw [hc.out]), rfl⟩
set_option maxRecDepth 100000 in
set_option maxHeartbeats 2000000 in
theorem rrecord_any (x : Bts) (w : World) (hx : x.length ≤ 1048576) : Calls Try.prog 77 #[.string (bs x)] w fun e w' => e = .returned (.string (bs (recd x))) ∧ Below w.heap.size w w' := by
  have z1 := bs_size x
  obtain ⟨n, hn⟩ : ∃ n, x.length = n := ⟨_, rfl⟩
  have hch : Hid (chk x = [byteN (n / 65536), byteN (n / 256), byteN n] ++ x) := by show _ = _; unfold chk; rw [hn]; rfl
  have hlc : (chk x).length = n + 3 := by rw [hch.out, List.length_append, hn]; simp; omega
  rw [hn] at z1 hx
  have a1 : (n : Int) / 65536 = ((n / 65536 : Nat) : Int) := by omega
  have a2 : (n : Int) / 256 = ((n / 256 : Nat) : Int) := by omega
  have b1 : IntKind.u8.wrap ((n / 65536 : Nat) : Int) = ((byteN (n / 65536)).toNat : Int) := by rw [IntKind.wrap_u8, byteN_nat]; omega
  have b2 : IntKind.u8.wrap ((n / 256 : Nat) : Int) = ((byteN (n / 256)).toNat : Int) := by rw [IntKind.wrap_u8, byteN_nat]; omega
  have b3 : IntKind.u8.wrap (n : Int) = ((byteN n).toNat : Int) := by rw [IntKind.wrap_u8, byteN_nat]; omega
  obtain ⟨d1, e1⟩ : ∃ d, n / 65536 = d := ⟨_, rfl⟩
  obtain ⟨d2, e2⟩ : ∃ d, n / 256 = d := ⟨_, rfl⟩
  rw [e1] at a1 b1 hch
  rw [e2] at a2 b2 hch
  have k1 : (convert 69 9 (.slice (some ⟨w.heap.size, 0, none⟩) 3 3)).run Try.prog (w.alloc (.cells #[.int .u8 ((byteN d1).toNat : Int), .int .u8 ((byteN d2).toNat : Int), .int .u8 ((byteN n).toNat : Int)] 5)) = .ok (.string (bs [byteN d1, byteN d2, byteN n])) (w.alloc (.cells #[.int .u8 ((byteN d1).toNat : Int), .int .u8 ((byteN d2).toNat : Int), .int .u8 ((byteN n).toNat : Int)] 5)) := conv_new [byteN d1, byteN d2, byteN n] w 3
  have k2 : bs [byteN d1, byteN d2, byteN n] ++ bs x = bs (chk x) := by rw [bs_app, hch.out]
  have z3 : (bs [byteN d1, byteN d2, byteN n]).size = 3 := rfl
  have z4 : (bs (chk x)).size = n + 3 := by rw [bs_size, hlc]
  have KC := Lib.hid fun wx => rcrc_any (chk x) wx (by omega)
  go_enter Try.func77, Try.ntmps77
  go_upto_region 3 with fail
  have hB1 : Below w.heap.size w (w.alloc (.cells #[.int .u8 ((byteN d1).toNat : Int), .int .u8 ((byteN d2).toNat : Int), .int .u8 ((byteN n).toNat : Int)] 5)) := below_new _ _
  obtain ⟨w1, hw1⟩ : ∃ W, W = w.alloc (.cells #[.int .u8 ((byteN d1).toNat : Int), .int .u8 ((byteN d2).toNat : Int), .int .u8 ((byteN n).toNat : Int)] 5) := ⟨_, rfl⟩
  rw [← hw1] at hB1 ⊢
  clear hw1 k1 a1 a2 b1 b2 b3 e1 e2
  obtain ⟨C, hC⟩ : ∃ c, crc (chk x) = c := ⟨_, rfl⟩
  have hCl := crc_lt (chk x)
  have hrec : Hid (recd x = 87 :: (chk x ++ [byteN (C / 256), byteN C, 233])) := by show _ = _; rw [← hC]; rfl
  rw [hC] at KC hCl
  have a2 : (C : Int) / 256 = ((C / 256 : Nat) : Int) := by omega
  have b2 : IntKind.u8.wrap ((C / 256 : Nat) : Int) = ((byteN (C / 256)).toNat : Int) := by rw [IntKind.wrap_u8, byteN_nat]; omega
  have b3 : IntKind.u8.wrap (C : Int) = ((byteN C).toNat : Int) := by rw [IntKind.wrap_u8, byteN_nat]; omega
  obtain ⟨d3, e3⟩ : ∃ d, C / 256 = d := ⟨_, rfl⟩
  rw [e3] at a2 b2 hrec
  have k4 : (convert 69 9 (.slice (some ⟨w1.heap.size, 0, none⟩) 3 3)).run Try.prog (w1.alloc (.cells #[.int .u8 ((byteN d3).toNat : Int), .int .u8 ((byteN C).toNat : Int), .int .u8 233] 5)) = .ok (.string (bs [byteN d3, byteN C, 233])) (w1.alloc (.cells #[.int .u8 ((byteN d3).toNat : Int), .int .u8 ((byteN C).toNat : Int), .int .u8 233] 5)) := conv_new [byteN d3, byteN C, 233] w1 3
  have k5 : (⟨#[87]⟩ : ByteArray) ++ bs [byteN d1, byteN d2, byteN n] = bs (87 :: [byteN d1, byteN d2, byteN n]) := by
    have : (⟨#[87]⟩ : ByteArray) = bs [87] := rfl
    rw [this, bs_app]; rfl
  have k6 : bs (87 :: [byteN d1, byteN d2, byteN n]) ++ bs x = bs (87 :: chk x) := by rw [bs_app, hch.out]; rfl
  have k7 : bs (87 :: chk x) ++ bs [byteN d3, byteN C, 233] = bs (87 :: (chk x ++ [byteN d3, byteN C, 233])) := by rw [bs_app]; rfl
  have z5 : (⟨#[87]⟩ : ByteArray).size = 1 := rfl
  have z8 : (bs (87 :: [byteN d1, byteN d2, byteN n])).size = 4 := rfl
  have z6 : (bs (87 :: chk x)).size = n + 4 := by rw [bs_size, List.length_cons, hlc]
  have z7 : (bs [byteN d3, byteN C, 233]).size = 3 := rfl
  go_wp2_with (first | (go_at_call 88; refine (KC.out _).mono ?_; rintro e5 w5 ⟨rfl, rfl⟩) | fail)
  go_ret
  exact ⟨by rw [hrec.out]; rfl, hB1.alloc hB1.size _⟩
set_option maxRecDepth 100000 in
set_option maxHeartbeats 4000000 in
theorem rrecords_any (A : Option Addr) (c : Nat) (m : List Bts) (w : World) (hA : StrsAt w w.heap.size A m) (hm : Hid (∀ x ∈ m, x.length ≤ 1048576)) (hlen : (recs m).length ≤ 100000000) :
    Calls Try.prog 79 #[.slice A m.length c] w fun e w' => e = .returned (.string (bs (recs m))) ∧ Below w.heap.size w w' := by
  have hml := recs_many m
  have hA0 := Lib.hid hA
  clear hA
  obtain ⟨i0, hi, hy0, hy1, hy2⟩ := Try.infoU8
  go_enter Try.func79, Try.ntmps79
  go_wp2_with fail
  go_loopw [3, 4] (fun u3 u4 wr => ∃ (k L : Nat) (o : Option Nat) (c : Nat), k ≤ m.length ∧ u4 = .int .i64 k ∧ u3 = .slice (ad o) L c ∧ Hid (L = (recs (m.take k)).length) ∧ L ≤ 100000000 ∧ Hid (wr.ownsRow w.heap.size 5 1 (.slice (ad o) L c) L (bytesV (recs (m.take k)))) ∧ Hid (Below w.heap.size w wr)) (fun _ u4 _ => m.length - (intOf u4).toNat)
  case atStart => exact ⟨0, 0, none, 0, Nat.zero_le _, rfl, rfl, rfl, Nat.zero_le _, World.ownsRow_nil _ _ _ _, Below.refl _ _⟩
  case round =>
    obtain ⟨k, L, o, c, hk, rfl, rfl, hL, hLl, hO, hbw⟩ := hrel
    have hsz := hbw.out.size
    by_cases hlt : k < m.length
    · have e3 : (k : Int) < (m.length : Int) := by omega
      obtain ⟨x, hx⟩ : ∃ x, m[k]? = some x := ⟨_, List.getElem?_eq_getElem hlt⟩
      obtain ⟨ab, ao, rfl, hab, hac0⟩ := hA0.out.at_ hx
      have hac := (hbw.out.cell (p := ⟨ab, ao + k, none⟩) hab).trans hac0
      have hxl := hm.out x (List.mem_of_getElem? hx)
      have KR := Lib.hid (rrecord_any x wr hxl)
      have hrt := recs_take hx
      have hle := recs_take_le m (k + 1)
      rw [hrt, List.length_append, ← hL.out, recd_len] at hle
      have hL2 : Hid (L + (x.length + 7) = (recs (m.take (k + 1))).length) := by show _ = _; rw [hrt, List.length_append, ← hL.out, recd_len]
      have hx2 : byteCells (bs (recd x)) = bytesV (recd x) := byteCells_bs (recd x)
      have hSrc : Hid (∀ w, Src Try.prog 1 9 (.string (bs (recd x))) (x.length + 7) (bytesV (recd x)) w) := fun w => by
        rw [← hx2, ← recd_len, ← bs_size]; exact Src.ofString (P := Try.prog) w Try.underlying9 (bs (recd x))
      replace hrt := Lib.hid hrt
      clear hac0 hx2 hL
      go_wp2_with (first | (go_at_call 77; (with_reducible refine KR.out.mono ?_); rintro e wa ⟨rfl, hba⟩; replace hba := Lib.hid hba; have hOa := Lib.hid (row_below hO.out hba.out); have hza := hba.out.size) | (at_builtin; refine wpList_append_src _ (by rfl) _ _ 69 9 (by rfl) w.heap.size 5 i0 (.int .u8 0) 1 1 Try.underlying69 hi hy0 hy1 hy2 rfl _ _ _ (by rfl) hOa.out _ (x.length + 7) _ (by rfl) (hSrc.out _) (by unfold maxLen; omega) (by omega) (by omega) ?_; intro v' w3 hO3 hG3 hob3; obtain ⟨o3, c3, hv3, _⟩ := ad_of_owns hO3; subst hv3; rw [← bytesV_app, ← hrt.out] at hO3; replace hO3 := Lib.hid hO3; have hb3 := Lib.hid ((hbw.out.trans (hba.out.mono hsz)).trans (below_own hOa.out (by omega) hG3)); clear hG3 hob3) | fail)
      go_roundw
      case rel => exact ⟨k + 1, L + (x.length + 7), o3, c3, by omega, by go_num, rfl, hL2, by omega, hO3, hb3⟩
      case measure => simp [intOf]; omega
    · have e3 : ¬ (k : Int) < (m.length : Int) := by omega
      rw [List.take_of_length_le (show m.length ≤ k by omega)] at hO hL
      have hcv : (convert 69 9 (.slice (ad o) L c)).run Try.prog wr = .ok (.string (bs (recs m))) wr := by
        have := hO.out
        rw [hL.out] at this ⊢
        exact conv_own this
      clear hL
      go_wp2_with fail
      go_ret
      exact ⟨rfl, hbw.out⟩
end Go.Proofs.Ytmnimcdbfolhaaa

/- The reference's First and Rows, walked. -/
namespace Go.Proofs.Ytmnimcdbfolhaaa
open Go.RowKit DK
attribute [local go_sem] alloc_drewN setCell_drewN shape_drewN
theorem rowT_short {s : Bts} (h : s.length < 7) : rowT s = false := by unfold rowT; rw [decide_eq_false (by omega)]; rfl
theorem rowT_far {s : Bts} (h : 1048576 < told s ∨ s.length < told s + 7) : rowT s = false := by
  unfold rowT
  rcases h with h | h
  · rw [decide_eq_false (show ¬ told s ≤ 1048576 by omega)]; simp
  · rw [decide_eq_false (show ¬ told s + 7 ≤ s.length by omega)]; simp
theorem rowT_rec {s : Bts} (h1 : told s ≤ 1048576) (h2 : told s + 7 ≤ s.length) : rowT s = decide (recd ((s.drop 4).take (told s)) = s.take (told s + 7)) := by
  have hl : ((s.drop 4).take (told s)).length = told s := by rw [List.length_take, List.length_drop]; omega
  by_cases h : rowT s = true
  · obtain ⟨_, t, e⟩ := rowT_row h
    rw [h]
    refine (decide_eq_true ?_).symm
    have e2 := congrArg (List.take (told s + 7)) e
    rw [List.take_left' (by rw [recd_len, hl])] at e2
    exact e2.symm
  · rw [Bool.eq_false_iff.2 h]
    refine (decide_eq_false fun e => h ?_).symm
    refine (row_rowT (x := (s.drop 4).take (told s)) ⟨by omega, s.drop (told s + 7), ?_⟩).1
    rw [e, List.take_append_drop]
theorem noRow_row {s : Bts} (h : rowT s = true) : rowX s = (s.drop 4).take (told s) ∧ (rowX s).length = told s ∧ told s ≤ 1048576 ∧ told s + 7 ≤ s.length ∧ s = recd (rowX s) ++ s.drop (told s + 7) := by
  have hx : rowX s = (s.drop 4).take (told s) := by unfold rowX; rw [if_pos h]
  obtain ⟨h1, t, e⟩ := rowT_row h
  have h3 := (row_rowT ⟨h1, t, e⟩).2
  have h2 := congrArg List.length e
  rw [List.length_append, recd_len, ← h3] at h2
  rw [← h3] at h1
  refine ⟨hx, by rw [hx]; exact h3.symm, h1, by omega, ?_⟩
  rw [hx]
  have e2 := congrArg (List.drop (told s + 7)) e
  rw [List.drop_left' (by rw [recd_len, ← h3])] at e2
  rw [e2]; exact e
def firstN (s : Bts) : Nat := if rowT s then told s + 7 else 0
set_option maxRecDepth 100000 in
set_option maxHeartbeats 4000000 in
theorem rfirst_any (s : Bts) (w : World) (hs : s.length ≤ 9223372036854775807) : Calls Try.prog 86 #[.string (bs s)] w fun e w' => e = .returned (.tuple #[.string (bs (rowX s)), .int .i64 (firstN s)]) ∧ Below w.heap.size w w' := by
  have z1 := bs_size s
  by_cases h7 : s.length < 7
  · have hT : rowT s = false := rowT_short h7
    have hX : bs (rowX s) = ⟨#[]⟩ := by unfold rowX; rw [hT]; rfl
    have hN : firstN s = 0 := by unfold firstN; rw [hT]; rfl
    have g1 : (s.length : Int) < 7 := by omega
    rw [hN, hX]
    go_enter Try.func86, Try.ntmps86
    go_wp2_with fail
    go_ret2
    exact ⟨rfl, Below.refl _ _⟩
  have y1 := bs_at s 1 (by omega)
  have y2 := bs_at s 2 (by omega)
  have y3 := bs_at s 3 (by omega)
  have g1 : ¬ (s.length : Int) < 7 := by omega
  have g2 : decide ((s.length : Int) < 7) = false := decide_eq_false g1
  have p1 : 1 < s.length := by omega
  have p2 : 2 < s.length := by omega
  have p3 : 3 < s.length := by omega
  obtain ⟨b1, e1⟩ : ∃ b, s.getD 1 0 = b := ⟨_, rfl⟩
  obtain ⟨b2, e2⟩ : ∃ b, s.getD 2 0 = b := ⟨_, rfl⟩
  obtain ⟨b3, e3⟩ : ∃ b, s.getD 3 0 = b := ⟨_, rfl⟩
  rw [e1] at y1
  rw [e2] at y2
  rw [e3] at y3
  have l1 := b1.toNat_lt
  have l2 := b2.toNat_lt
  have l3 := b3.toNat_lt
  have hto : told s = b1.toNat * 65536 + b2.toNat * 256 + b3.toNat := by unfold told; rw [e1, e2, e3]
  have X4 : wrap64 (wrap64 (wrap64 (wrap64 (b1.toNat : Int) * 65536) + wrap64 (wrap64 (b2.toNat : Int) * 256)) + wrap64 (b3.toNat : Int)) = (told s : Int) := by
    rw [hto, wrap64_nat b1.toNat (by omega), wrap64_nat b2.toNat (by omega), wrap64_nat b3.toNat (by omega), show (b1.toNat : Int) * 65536 = ((b1.toNat * 65536 : Nat) : Int) by omega, wrap64_nat _ (by omega), show (b2.toNat : Int) * 256 = ((b2.toNat * 256 : Nat) : Int) by omega, wrap64_nat (b2.toNat * 256) (by omega), show ((b1.toNat * 65536 : Nat) : Int) + ((b2.toNat * 256 : Nat) : Int) = ((b1.toNat * 65536 + b2.toNat * 256 : Nat) : Int) by omega, wrap64_nat _ (by omega), show ((b1.toNat * 65536 + b2.toNat * 256 : Nat) : Int) + (b3.toNat : Int) = ((b1.toNat * 65536 + b2.toNat * 256 + b3.toNat : Nat) : Int) by omega, wrap64_nat _ (by omega)]
  have hTo : told s < 16777216 := by omega
  have hfar := fun h => rowT_far (s := s) h
  have hrec := fun h h' => rowT_rec (s := s) h h'
  have hfN : firstN s = if rowT s then told s + 7 else 0 := rfl
  have hrX : rowX s = if rowT s then (s.drop 4).take (told s) else [] := rfl
  clear l1 l2 l3 hto e1 e2 e3
  obtain ⟨n, hn⟩ : ∃ n, told s = n := ⟨_, rfl⟩
  rw [hn] at X4 hTo hfar hrec hfN hrX
  by_cases hA : n ≤ 1048576 ∧ n + 7 ≤ s.length
  case neg =>
    have hT : rowT s = false := hfar (by omega)
    have hX : bs (rowX s) = ⟨#[]⟩ := by rw [hrX, hT]; rfl
    have hN : firstN s = 0 := by rw [hfN, hT]; rfl
    rw [hN, hX]
    clear hT hX hN hn hfar hrec hfN hrX
    go_enter Try.func86, Try.ntmps86
    go_upto_region 3 with fail
    go_quiet (fail)
    rw [X4]
    clear X4 y1 y2 y3
    rcases Nat.lt_or_ge 1048576 n with q | q
    · have g5 : (1048576 : Int) < (n : Int) := by omega
      have g6 : decide ((1048576 : Int) < (n : Int)) = true := decide_eq_true g5
      go_wp2_with fail
      go_ret2
      exact ⟨rfl, below_drewN (Below.refl _ _) _⟩
    · have g5 : ¬ (1048576 : Int) < (n : Int) := by omega
      have g6 : decide ((1048576 : Int) < (n : Int)) = false := decide_eq_false g5
      have g7 : (s.length : Int) - 7 < (n : Int) := by omega
      go_wp2_with fail
      go_ret2
      exact ⟨rfl, below_drewN (Below.refl _ _) _⟩
  obtain ⟨hA1, hA2⟩ := hA
  have hR := hrec hA1 hA2
  have g5 : ¬ (1048576 : Int) < (n : Int) := by omega
  have g6 : decide ((1048576 : Int) < (n : Int)) = false := decide_eq_false g5
  have g7 : ¬ (s.length : Int) - 7 < (n : Int) := by omega
  have g10 : IntKind.i64.wrap ((n : Int) + 7) = (n : Int) + 7 := by rw [IntKind.wrap_i64]; omega
  have g11 : (n : Int) + 7 ≤ (s.length : Int) := by omega
  have g12 : (0 : Int) ≤ (n : Int) + 7 := by omega
  have g13 : ((n : Int) + 7).toNat = n + 7 := by omega
  have X7 : (bs s).extract 4 (4 + n) = bs ((s.drop 4).take n) := by
    rw [bs_cut _ _ _ (by omega), List.drop_take, show 4 + n - 4 = n by omega]
  have X8 : (bs s).extract 0 (n + 7) = bs (s.take (n + 7)) := by
    rw [bs_cut _ _ _ (by omega), List.drop_zero]
  have KC := Lib.hid fun wx => rrecord_any ((s.drop 4).take n) wx (by rw [List.length_take, List.length_drop]; omega)
  obtain ⟨U, hU⟩ : ∃ U, (s.drop 4).take n = U := ⟨_, rfl⟩
  obtain ⟨V, hV⟩ : ∃ V, s.take (n + 7) = V := ⟨_, rfl⟩
  rw [hU] at X7 KC hR hrX
  rw [hV] at X8 hR
  clear hfar hrec hU hV
  obtain ⟨Y, hY⟩ : ∃ Y, recd U = Y := ⟨_, rfl⟩
  rw [hY] at KC hR
  have t1 := bs_toList Y
  have t2 := bs_toList V
  by_cases hvC : Y = V
  case neg =>
    have hT : rowT s = false := by rw [hR]; exact decide_eq_false hvC
    have hX : bs (rowX s) = ⟨#[]⟩ := by rw [hrX, hT]; rfl
    have hN : firstN s = 0 := by rw [hfN, hT]; rfl
    have g9 : (Y == V) = false := by rw [beq_eq_false_iff_ne]; exact hvC
    rw [hN, hX]
    clear hT hX hN hn hfN hrX hR hY
    go_enter Try.func86, Try.ntmps86
    go_upto_region 3 with fail
    go_quiet (fail)
    rw [X4]
    clear X4 y1 y2 y3
    go_upto_region 7 with fail
    refine Plan.wp_region_tree (.rd 0 (.rd 2 (.rd 3 (.rd 4 (.rd 5 (.wr 1 (.rd 6 .done))))))) (by kernel_rfl) (by kernel_rfl) ?_
    (repeat (first | (refine Plan.tree_read (v := ?_) rfl rfl ?_ ?_; rotate_left; (focus ((intro wS hSw; have hkS := (bcell hSw).1; go_simp); try with_reducible rfl)); simp only [Act.put, List.setIfInBounds_toArray, List.set_cons_zero, List.set_cons_succ]) | (refine Plan.tree_skip rfl rfl ?_; simp only [Act.put, List.setIfInBounds_toArray, List.set_cons_zero, List.set_cons_succ])))
    (refine Plan.tree_write rfl (fun K hK => ?_); try go_simp)
    go_at_call 77
    refine (KC.out _).mono ?_
    rintro e5 w5 ⟨rfl, hb5⟩
    (refine hK.out _ _ ((Below.refl _ _).drew.trans hb5) ?_; clear hK K; try simp only [Act.put, List.setIfInBounds_toArray, List.set_cons_zero, List.set_cons_succ])
    (repeat (first | (refine Plan.tree_read (v := ?_) rfl rfl ?_ ?_; rotate_left; (focus ((intro wS hSw; have hkS := (bcell hSw).1; go_simp); try with_reducible rfl)); simp only [Act.put, List.setIfInBounds_toArray, List.set_cons_zero, List.set_cons_succ]) | (refine Plan.tree_skip rfl rfl ?_; simp only [Act.put, List.setIfInBounds_toArray, List.set_cons_zero, List.set_cons_succ])))
    refine Plan.tree_done ?_
    go_wp2_with fail
    go_ret2
    exact ⟨rfl, (below_drewN (Below.refl _ _) _).trans ((Below.refl _ _).drew.trans hb5)⟩
  subst hvC
  have hT : rowT s = true := by rw [hR]; exact decide_eq_true rfl
  have hX : rowX s = U := by rw [hrX, hT]; rfl
  have hN : firstN s = n + 7 := by rw [hfN, hT]; rfl
  have g9 : (Y == Y) = true := beq_self_eq_true _
  rw [hN, hX]
  clear hT hX hN hn hfN hrX hR hY
  go_enter Try.func86, Try.ntmps86
  go_upto_region 3 with fail
  go_quiet (fail)
  rw [X4]
  clear X4 y1 y2 y3
  go_upto_region 7 with fail
  refine Plan.wp_region_tree (.rd 0 (.rd 2 (.rd 3 (.rd 4 (.rd 5 (.wr 1 (.rd 6 .done))))))) (by kernel_rfl) (by kernel_rfl) ?_
  (repeat (first | (refine Plan.tree_read (v := ?_) rfl rfl ?_ ?_; rotate_left; (focus ((intro wS hSw; have hkS := (bcell hSw).1; go_simp); try with_reducible rfl)); simp only [Act.put, List.setIfInBounds_toArray, List.set_cons_zero, List.set_cons_succ]) | (refine Plan.tree_skip rfl rfl ?_; simp only [Act.put, List.setIfInBounds_toArray, List.set_cons_zero, List.set_cons_succ])))
  (refine Plan.tree_write rfl (fun K hK => ?_); try go_simp)
  go_at_call 77
  refine (KC.out _).mono ?_
  rintro e5 w5 ⟨rfl, hb5⟩
  (refine hK.out _ _ ((Below.refl _ _).drew.trans hb5) ?_; clear hK K; try simp only [Act.put, List.setIfInBounds_toArray, List.set_cons_zero, List.set_cons_succ])
  (repeat (first | (refine Plan.tree_read (v := ?_) rfl rfl ?_ ?_; rotate_left; (focus ((intro wS hSw; have hkS := (bcell hSw).1; go_simp); try with_reducible rfl)); simp only [Act.put, List.setIfInBounds_toArray, List.set_cons_zero, List.set_cons_succ]) | (refine Plan.tree_skip rfl rfl ?_; simp only [Act.put, List.setIfInBounds_toArray, List.set_cons_zero, List.set_cons_succ])))
  refine Plan.tree_done ?_
  go_wp2_with fail
  go_ret2
  exact ⟨by rfl, (below_drewN (Below.refl _ _) _).trans ((Below.refl _ _).drew.trans hb5)⟩
end Go.Proofs.Ytmnimcdbfolhaaa

/- The reference's Rows, walked. -/
namespace Go.Proofs.Ytmnimcdbfolhaaa
open Go.RowKit DK
attribute [local go_sem] alloc_drewN setCell_drewN shape_drewN
structure RowJ (s : Bts) (pre : List Bts) (q : Nat) : Prop where
  le : q ≤ s.length
  at_ : q = (recs pre).length
  sc : ∃ R, DK.Rows (s.drop q) R ∧ rowsOf s = pre ++ R
theorem RowJ.start (s : Bts) : RowJ s [] 0 := ⟨Nat.zero_le _, rfl, rowsOf s, rowsOf_is s, rfl⟩
theorem RowJ.done {s : Bts} {pre : List Bts} {q : Nat} (h : RowJ s pre q) (hT : rowT (s.drop q) = false) : rowsOf s = pre := by
  obtain ⟨R, hR, e⟩ := h.sc
  rw [e, rows_nil hR hT, List.append_nil]
theorem RowJ.end_ {s : Bts} {pre : List Bts} {q : Nat} (h : RowJ s pre q) (hq : ¬ q < s.length) : rowsOf s = pre :=
  h.done (rowT_short (by rw [List.length_drop]; omega))
theorem RowJ.next {s : Bts} {pre : List Bts} {q : Nat} (h : RowJ s pre q) (hT : rowT (s.drop q) = true) : RowJ s (pre ++ [rowX (s.drop q)]) (q + ((rowX (s.drop q)).length + 7)) := by
  obtain ⟨R, hR, e⟩ := h.sc
  obtain ⟨h1, h2, R', rfl, hR'⟩ := rows_next hR hT
  rw [List.length_drop] at h1
  have hle := h.le
  refine ⟨by omega, by rw [recs_snoc, List.length_append, recd_len, ← h.at_], R', ?_, by rw [e, List.append_assoc]; rfl⟩
  rw [List.drop_drop] at hR'; exact hR'
theorem RowJ.many {s : Bts} {pre : List Bts} {q : Nat} (h : RowJ s pre q) : pre.length ≤ s.length := by
  have := recs_many pre
  have := h.le
  have := h.at_
  omega
theorem firstN_yes {s : Bts} (h : rowT s = true) : firstN s = (rowX s).length + 7 := by unfold firstN; rw [if_pos h, (noRow_row h).2.1]
theorem firstN_no {s : Bts} (h : rowT s = false) : firstN s = 0 := by unfold firstN; rw [h]; rfl
def RRowsIs (s : Bts) (w : World) (e : Ending) (w' : World) : Prop := Below w.heap.size w w' ∧ ∃ o c, e = .returned (.tuple #[.slice (ad o) (rowsOf s).length c, .int .i64 ((recs (rowsOf s)).length : Nat)]) ∧ w'.ownsRow w.heap.size 9 1 (.slice (ad o) (rowsOf s).length c) (rowsOf s).length (strV (rowsOf s))
set_option maxRecDepth 100000 in
set_option maxHeartbeats 4000000 in
theorem rrows_any (s : Bts) (w : World) (hs : s.length ≤ 1000000000) : Calls Try.prog 74 #[.string (bs s)] w (RRowsIs s w) := by
  have z1 := bs_size s
  obtain ⟨i0, hi, hz0, hz1, hz2⟩ := info_parts (show (Try.prog.info? 9).map (fun i => (i.zero, i.size, i.bytes)) = some (some (.string ⟨#[]⟩), 1, 16) by kernel_rfl)
  have K1 := Lib.hid fun (x : Bts) wx (hx : x.length ≤ 1000000000) => rfirst_any x wx (by omega)
  go_enter Try.func74, Try.ntmps74
  go_wp2_with fail
  go_loopw [4, 5] (fun u4 u5 wr => ∃ (q n : Nat) (pre : List Bts) (o : Option Nat) (c : Nat), u5 = .int .i64 q ∧ u4 = .slice (ad o) n c ∧ Hid (n = pre.length) ∧ Hid (RowJ s pre q) ∧ q ≤ s.length ∧ n ≤ 1000000000 ∧ Hid (wr.ownsRow w.heap.size 9 1 (.slice (ad o) n c) n (strV pre)) ∧ Hid (Below w.heap.size w wr)) (fun _ u5 _ => s.length - (intOf u5).toNat)
  case atStart => exact ⟨0, 0, [], none, 0, rfl, rfl, rfl, RowJ.start s, Nat.zero_le _, Nat.zero_le _, World.ownsRow_nil _ _ _ _, Below.refl _ _⟩
  case round =>
    obtain ⟨q, n, pre, o, c, rfl, rfl, hn, hJ, hq, hnl, hO, hbw⟩ := hrel
    have hsz := hbw.out.size
    by_cases hlt : q < s.length
    case neg =>
      have e3 : ¬ (q : Int) < (s.length : Int) := by omega
      have hE := Lib.hid (hJ.out.end_ hlt)
      have hat := Lib.hid hJ.out.at_
      clear hJ
      go_wp2_with fail
      go_ret2
      refine ⟨hbw.out, o, c, ?_, ?_⟩
      · rw [hE.out, ← hn.out, ← hat.out]; rfl
      · rw [hE.out, ← hn.out]; exact hO.out
    case pos =>
    have e3 : (q : Int) < (s.length : Int) := by omega
    have X1 : (bs s).extract q s.length = bs (s.drop q) := by rw [bs_cut _ _ _ (Nat.le_refl _), List.take_length]
    have K2 := Lib.hid (K1.out (s.drop q) wr (by rw [List.length_drop]; omega))
    have hdone := Lib.hid fun h => hJ.out.done (hT := h)
    have hnext := Lib.hid fun h => hJ.out.next (hT := h)
    have hat := Lib.hid hJ.out.at_
    clear hJ
    obtain ⟨D, hD⟩ : ∃ D, s.drop q = D := ⟨_, rfl⟩
    rw [hD] at X1 K2 hdone hnext
    have q1 : q ≤ (bs s).size := by omega
    by_cases hT : rowT D = true
    case neg =>
      have hT0 : rowT D = false := Bool.eq_false_iff.2 hT
      have hE := Lib.hid (hdone.out hT0)
      have hN := firstN_no hT0
      rw [hN] at K2
      clear hT hT0 hN hdone hnext
      go_wp2_with (first | (go_at_call 86; (with_reducible refine K2.out.mono ?_); rintro e wa ⟨rfl, hba⟩) | fail)
      go_ret2
      refine ⟨hbw.out.trans (hba.mono hsz), o, c, ?_, ?_⟩
      · rw [hE.out, ← hn.out, ← hat.out]; rfl
      · rw [hE.out, ← hn.out]; exact row_below hO.out hba
    case pos =>
    have hN := firstN_yes hT
    have hJ2 := hnext.out hT
    have hle := hJ2.le
    have hJ2 := Lib.hid hJ2
    rw [hN] at K2
    clear hT hN hdone hnext
    obtain ⟨r, hr⟩ : ∃ r, rowX D = r := ⟨_, rfl⟩
    rw [hr] at K2 hJ2 hle
    have hn2 : Hid (n + 1 = (pre ++ [r]).length) := by show _ = _; rw [List.length_append, hn.out]; rfl
    have hn3 : n + 1 ≤ 1000000000 := by have := hJ2.out.many; rw [List.length_append] at this; have := hn.out; simp at *; omega
    have e5 : (((r.length + 7 : Nat) : Int) == 0) = false := by rw [beq_eq_false_iff_ne]; omega
    have e6 : ¬ ((r.length + 7 : Nat) : Int) = 0 := by omega
    obtain ⟨L, hL⟩ : ∃ L, r.length + 7 = L := ⟨_, rfl⟩
    rw [hL] at K2 hJ2 hle e5 e6
    clear hr hD hat
    go_wp2_with (first | (go_at_call 86; (with_reducible refine K2.out.mono ?_); rintro e wa ⟨rfl, hba⟩; replace hba := Lib.hid hba; have hOa := Lib.hid (row_below hO.out hba.out); have hza := hba.out.size) | (at_builtin; refine wpList_append_any _ (by rfl) _ _ 22 (by rfl) w.heap.size 9 i0 _ 1 16 Try.underlying22 hi hz0 hz1 hz2 rfl (by decide) _ n _ (by rfl) (hOa.out.alloc _) (_ + 1) (some ⟨_, 0, none⟩) 1 1 [.string (bs r)] (by rfl) ⟨rfl, fun _ => ⟨_, rfl, Nat.lt_succ_self _, cells_at (by rfl) _ _⟩⟩ (fun u hu => by obtain rfl := List.mem_singleton.1 hu; rfl) (by unfold maxLen; omega) (by omega) (by simp; omega) ?_; intro v' w3 hO3 hG3 hob3; obtain ⟨o3, c3, hv3, _⟩ := ad_of_owns hO3; subst hv3; rw [← strV_snoc] at hO3; replace hO3 := Lib.hid hO3; have hb3 := Lib.hid ((hbw.out.trans (hba.out.mono hsz)).trans (below_app hOa.out (by omega) hG3)); clear hG3 hob3) | fail)
    go_roundw
    case rel => exact ⟨q + L, n + 1, pre ++ [r], o3, c3, by go_num, rfl, hn2, hJ2, hle, hn3, hO3, hb3⟩
    case measure => simp [intOf]; omega
end Go.Proofs.Ytmnimcdbfolhaaa

