/- record, walked. -/
import Derived.Test.YtmnimcdbfolhaaaV1
set_option linter.unusedSimpArgs false
set_option linter.unusedVariables false
namespace Go.Proofs.Ytmnimcdbfolhaaa
open Go.RowKit DK
/-- A new block of bytes, as a string. -/
theorem conv_new (l : Bts) (W : World) (c : Nat) : (convert 69 9 (.slice (some ⟨W.heap.size, 0, none⟩) l.length c)).run Try.prog (W.alloc (.cells (bytesV l).toArray 5)) = .ok (.string (bs l)) (W.alloc (.cells (bytesV l).toArray 5)) := by
  refine run_convert_bytes_back _ 69 9 5 ⟨W.heap.size, 0, none⟩ _ l Try.underlying69 Try.underlying5 Try.underlying9 (fun j hj => ?_)
  rw [Addr.add_lit, Nat.zero_add, World.cell?_alloc_new]
  simp [bytesV, hj]
set_option maxRecDepth 100000 in
set_option maxHeartbeats 2000000 in
theorem record_any (x : Bts) (w : World) (hx : x.length ≤ 1048576) : Calls Try.prog 45 #[.string (bs x)] w fun e w' => e = .returned (.string (bs (recd x))) ∧ Below w.heap.size w w' := by
  have z1 := bs_size x
  obtain ⟨n, hn⟩ : ∃ n, x.length = n := ⟨_, rfl⟩
  have hch : Hid (chk x = [byteN (n / 65536), byteN (n / 256), byteN n] ++ x) := by show _ = _; unfold chk; rw [hn]; rfl
  have hlc : (chk x).length = n + 3 := by rw [hch.out, List.length_append, hn]; simp; omega
  rw [hn] at z1 hx
  have a1 : (n : Int) / 65536 = ((n / 65536 : Nat) : Int) := by omega
  have a2 : (n : Int) / 256 = ((n / 256 : Nat) : Int) := by omega
  have b1 : IntKind.u8.wrap ((n / 65536 : Nat) : Int) = ((byteN (n / 65536)).toNat : Int) := by rw [IntKind.wrap_u8, byteN_nat]; omega
  have b2 : IntKind.u8.wrap ((n / 256 : Nat) : Int) = ((byteN (n / 256)).toNat : Int) := by rw [IntKind.wrap_u8, byteN_nat]; omega
  have b3 : IntKind.u8.wrap (n : Int) = ((byteN n).toNat : Int) := by rw [IntKind.wrap_u8, byteN_nat]; omega
  obtain ⟨d1, e1⟩ : ∃ d, n / 65536 = d := ⟨_, rfl⟩
  obtain ⟨d2, e2⟩ : ∃ d, n / 256 = d := ⟨_, rfl⟩
  rw [e1] at a1 b1 hch
  rw [e2] at a2 b2 hch
  have k1 : (convert 69 9 (.slice (some ⟨w.heap.size, 0, none⟩) 3 3)).run Try.prog (w.alloc (.cells #[.int .u8 ((byteN d1).toNat : Int), .int .u8 ((byteN d2).toNat : Int), .int .u8 ((byteN n).toNat : Int)] 5)) = .ok (.string (bs [byteN d1, byteN d2, byteN n])) (w.alloc (.cells #[.int .u8 ((byteN d1).toNat : Int), .int .u8 ((byteN d2).toNat : Int), .int .u8 ((byteN n).toNat : Int)] 5)) := conv_new [byteN d1, byteN d2, byteN n] w 3
  have k2 : bs [byteN d1, byteN d2, byteN n] ++ bs x = bs (chk x) := by rw [bs_app, hch.out]
  have z3 : (bs [byteN d1, byteN d2, byteN n]).size = 3 := rfl
  have z4 : (bs (chk x)).size = n + 3 := by rw [bs_size, hlc]
  have KC := Lib.hid fun wx => crc_any (chk x) wx (by omega)
  go_enter Try.func45, Try.ntmps45
  go_upto_region 3 with fail
  have hB1 : Below w.heap.size w (w.alloc (.cells #[.int .u8 ((byteN d1).toNat : Int), .int .u8 ((byteN d2).toNat : Int), .int .u8 ((byteN n).toNat : Int)] 5)) := below_new _ _
  obtain ⟨w1, hw1⟩ : ∃ W, W = w.alloc (.cells #[.int .u8 ((byteN d1).toNat : Int), .int .u8 ((byteN d2).toNat : Int), .int .u8 ((byteN n).toNat : Int)] 5) := ⟨_, rfl⟩
  rw [← hw1] at hB1 ⊢
  clear hw1 k1 a1 a2 b1 b2 b3 e1 e2
  obtain ⟨C, hC⟩ : ∃ c, crc (chk x) = c := ⟨_, rfl⟩
  have hCl := crc_lt (chk x)
  have hrec : Hid (recd x = 87 :: (chk x ++ [byteN (C / 256), byteN C, 233])) := by show _ = _; rw [← hC]; rfl
  rw [hC] at KC hCl
  have a2 : (C : Int) / 256 = ((C / 256 : Nat) : Int) := by omega
  have b2 : IntKind.u8.wrap ((C / 256 : Nat) : Int) = ((byteN (C / 256)).toNat : Int) := by rw [IntKind.wrap_u8, byteN_nat]; omega
  have b3 : IntKind.u8.wrap (C : Int) = ((byteN C).toNat : Int) := by rw [IntKind.wrap_u8, byteN_nat]; omega
  obtain ⟨d3, e3⟩ : ∃ d, C / 256 = d := ⟨_, rfl⟩
  rw [e3] at a2 b2 hrec
  have k3 : (convert 69 9 (.slice (some ⟨w1.heap.size, 0, none⟩) 1 1)).run Try.prog (w1.alloc (.cells #[.int .u8 87] 5)) = .ok (.string (bs [87])) (w1.alloc (.cells #[.int .u8 87] 5)) := conv_new [87] w1 1
  have k4 : (convert 69 9 (.slice (some ⟨w1.heap.size + 1, 0, none⟩) 3 3)).run Try.prog ((w1.alloc (.cells #[.int .u8 87] 5)).alloc (.cells #[.int .u8 ((byteN d3).toNat : Int), .int .u8 ((byteN C).toNat : Int), .int .u8 233] 5)) = .ok (.string (bs [byteN d3, byteN C, 233])) ((w1.alloc (.cells #[.int .u8 87] 5)).alloc (.cells #[.int .u8 ((byteN d3).toNat : Int), .int .u8 ((byteN C).toNat : Int), .int .u8 233] 5)) := by
    have := conv_new [byteN d3, byteN C, 233] (w1.alloc (.cells #[.int .u8 87] 5)) 3
    rw [World.size_alloc] at this; exact this
  have k5 : bs [87] ++ bs (chk x) = bs (87 :: chk x) := by rw [bs_app]; rfl
  have k6 : bs (87 :: chk x) ++ bs [byteN d3, byteN C, 233] = bs (87 :: (chk x ++ [byteN d3, byteN C, 233])) := by rw [bs_app]; rfl
  have z5 : (bs [87]).size = 1 := rfl
  have z6 : (bs (87 :: chk x)).size = n + 4 := by rw [bs_size, List.length_cons, hlc]
  have z7 : (bs [byteN d3, byteN C, 233]).size = 3 := rfl
  go_wp2_with (first | (go_at_call 70; refine (KC.out _).mono ?_; rintro e5 w5 ⟨rfl, rfl⟩) | fail)
  go_ret
  exact ⟨by rw [hrec.out]; rfl, (hB1.alloc hB1.size _).alloc (by have := hB1.size; simp; omega) _⟩
end Go.Proofs.Ytmnimcdbfolhaaa
