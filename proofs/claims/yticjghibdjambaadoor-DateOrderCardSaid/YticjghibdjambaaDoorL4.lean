/- The laws DateBack and DateOrder return true. -/
import Derived.Test.YticjghibdjambaaDoorL3
namespace Go.Proofs.YticjghibdjambaaDoor
open Go.RowKit

theorem date_exists (n : Int) (w : World) (h0 : 0 ≤ n) (h1 : n ≤ 16777216) (hM : Months w) : ∃ y m d : Int, hourB y m d (n % 24) = true ∧ hourN y m d (n % 24) = n ∧ DM.vld y m d ∧ DM.num y m d = n / 24 := by
  obtain ⟨e, w', fr, ⟨y, m, d, _, hv, hn, _⟩, _⟩ := of_yes n w h0 h1 hM []
  obtain ⟨a, b⟩ := hourB_of h0 h1 hv hn
  exact ⟨y, m, d, a, b, hv, hn⟩
theorem parse_l (l : List UInt8) (y m d z v : Int) (w : World) (hT : Tabs w) (hB : hourB y m d z = true) (hv : Hid (hourN y m d z = v)) (hl : Hid (textL y m d z = l)) :
    Calls Tryd.prog 15 #[.string ⟨l.toArray⟩] w fun e w' => e = .returned (.tuple #[.int .i64 v, .bool true]) ∧ Below w.heap.size w w' := by
  have := parse_any ⟨l.toArray⟩ w hT (by
    have : (⟨l.toArray⟩ : ByteArray).size = l.length := rfl
    rw [this, ← hl.out, textL_size]; omega)
  have e : (⟨l.toArray⟩ : ByteArray).data.toList = l := rfl
  obtain ⟨k1, k2⟩ := parse_text hB
  rw [e, ← hl.out, k1, k2, hv.out, hl.out] at this
  exact this
theorem hour_v (y m d h v : Int) (w : World) (hM : Months w) (h1 : hourB y m d h = true) (h2 : Hid (hourN y m d h = v)) :
    Calls Tryd.prog 11 #[.agg #[.int .i64 y, .int .i64 m, .int .i64 d, .int .i64 h]] w fun e w' => e = .returned (.tuple #[.int .i64 v, .bool true]) ∧ Below w.heap.size w w' :=
  hour_b y m d h true v w hM h1 h2
theorem textVal_of {n y m d : Int} (h0 : 0 ≤ n) (h1 : n ≤ 16777216) (hv : DM.vld y m d) (hn : DM.num y m d = n / 24) : TextVal n (textL y m d (n % 24)) :=
  .inr ⟨h0, h1, y, m, d, rfl, hv, hn⟩
set_option maxHeartbeats 2000000 in
theorem back_a (n y m d z : Int) (l1 l2 : List UInt8) (w : World) (hT : Tabs w) (n0 : 0 ≤ n) (n1 : n < 16777216) (y0 : 2000 ≤ y) (y1 : y ≤ 3914) (m0 : 1 ≤ m) (m1 : m ≤ 12) (d0 : 1 ≤ d) (d1 : d ≤ 31) (z0 : 0 ≤ z) (z1 : z < 23)
    (B1 : Hid (hourB y m d z = true)) (N1 : Hid (hourN y m d z = n)) (L1 : Hid (textL y m d z = l1))
    (B2 : Hid (hourB (y) (m) (d) (z + 1) = true)) (N2 : Hid (hourN (y) (m) (d) (z + 1) = n + 1)) (L2 : Hid (textL (y) (m) (d) (z + 1) = l2))
    (hless : Op.bytesLess l1 l2 = true) :
    Calls Tryd.prog 5 #[.int .i64 n] w fun e w' => e = .returned (.bool true) ∧ Below w.heap.size w w' := by
  go_enter Tryd.func5, Tryd.ntmps5
  go_wp2_with fail
  refine (small_any _ hT).mono ?_
  rintro e w1 ⟨rfl, q1⟩
  have hT1 := hT.below hT.size q1 q1.size
  go_wp2_with fail
  refine (of_at _ _ _ _ _ hT1.mon B1.out _ N1).mono ?_
  rintro e w2 ⟨rfl, hb2⟩
  have hT2' := hT1.below hT1.size hb2 hb2.size
  have q2' := q1.trans (hb2.mono q1.size)
  have hT2 := hT2'.alloc (.cells #[.int .i64 y, .int .i64 m, .int .i64 d, .int .i64 z] 23)
  have A2 := At4.new w2 (.int .i64 y) (.int .i64 m) (.int .i64 d) (.int .i64 z) 23
  have q2 := q2'.alloc q2'.size (.cells #[.int .i64 y, .int .i64 m, .int .i64 d, .int .i64 z] 23)
  clear hT1 q1 hb2 hT2' q2'
  go_wp2_with fail
  refine (of_at _ _ _ _ _ hT2.mon B2.out _ N2).mono ?_
  rintro e w3 ⟨rfl, hb3⟩
  have hT3' := hT2.below hT2.size hb3 hb3.size
  have A3' := A2.later hb3
  have q3' := q2.trans (hb3.mono q2.size)
  have hal : Below w3.heap.size w3 (w3.alloc (.cells #[.int .i64 y, .int .i64 m, .int .i64 d, .int .i64 (z + 1)] 23)) := (Below.refl _ _).alloc (Nat.le_refl _) _
  have hT3 := hT3'.alloc (.cells #[.int .i64 y, .int .i64 m, .int .i64 d, .int .i64 (z + 1)] 23)
  have A3 := A3'.later hal
  have C3 := At4.new w3 (.int .i64 y) (.int .i64 m) (.int .i64 d) (.int .i64 (z + 1)) 23
  have q3 := q3'.alloc q3'.size (.cells #[.int .i64 y, .int .i64 m, .int .i64 d, .int .i64 (z + 1)] 23)
  clear hT2 A2 q2 hb3 hT3' A3' q3' hal
  have A3c := A3
  obtain ⟨a0, a1, a2, a3⟩ := A3c
  go_wp2_with fail
  refine (hour_v _ _ _ _ _ _ hT3.mon B1.out N1).mono ?_
  rintro e w4 ⟨rfl, hb4⟩
  clear a0 a1 a2 a3
  have hT4 := hT3.below hT3.size hb4 hb4.size
  have A4 := A3.later hb4
  have C4 := C3.later hb4
  have q4 := q3.trans (hb4.mono q3.size)
  clear hT3 A3 C3 q3 hb4
  go_wp2_with fail
  refine (text_v _ _ _ _ _ _ _ hT4 B1.out N1 L1).mono ?_
  rintro e w5 ⟨rfl, hb5⟩
  have hT5 := hT4.below hT4.size hb5 hb5.size
  have A5 := A4.later hb5
  have C5 := C4.later hb5
  have q5 := q4.trans (hb5.mono q4.size)
  clear hT4 A4 C4 q4 hb5
  go_wp2_with fail
  refine (parse_l _ _ _ _ _ _ _ hT5 B1.out N1 L1).mono ?_
  rintro e w6 ⟨rfl, hb6⟩
  have hT6 := hT5.below hT5.size hb6 hb6.size
  have A6 := A5.later hb6
  have C6 := C5.later hb6
  have q6 := q5.trans (hb6.mono q5.size)
  clear hT5 A5 C5 q5 hb6
  go_wp2_with fail
  refine (text_v _ _ _ _ _ _ _ hT6 B1.out N1 L1).mono ?_
  rintro e w7 ⟨rfl, hb7⟩
  have hT7 := hT6.below hT6.size hb7 hb7.size
  have A7 := A6.later hb7
  have C7 := C6.later hb7
  have q7 := q6.trans (hb7.mono q6.size)
  clear hT6 A6 C6 q6 hb7
  go_wp2_with fail
  refine (text_v _ _ _ _ _ _ _ hT7 B2.out N2 L2).mono ?_
  rintro e w8 ⟨rfl, hb8⟩
  have A8 := A7.later hb8
  have C8 := C7.later hb8
  have q8 := q7.trans (hb8.mono q7.size)
  clear hT7 A7 C7 q7 hb8
  obtain ⟨a0, a1, a2, a3⟩ := A8
  obtain ⟨c0, c1, c2, c3⟩ := C8
  go_wp2
  go_ret
  exact ⟨rfl, q8⟩

set_option maxHeartbeats 2000000 in
theorem back_b (n y m d : Int) (l1 l2 : List UInt8) (w : World) (hT : Tabs w) (n0 : 0 ≤ n) (n1 : n < 16777216) (y0 : 2000 ≤ y) (y1 : y ≤ 3914) (m0 : 1 ≤ m) (m1 : m ≤ 12) (d0 : 1 ≤ d) (d1 : d ≤ 31) 
    (B1 : Hid (hourB y m d 23 = true)) (N1 : Hid (hourN y m d 23 = n)) (L1 : Hid (textL y m d 23 = l1))
    (B2 : Hid (hourB (y) (m) (d + 1) (0) = true)) (N2 : Hid (hourN (y) (m) (d + 1) (0) = n + 1)) (L2 : Hid (textL (y) (m) (d + 1) (0) = l2))
    (hless : Op.bytesLess l1 l2 = true) :
    Calls Tryd.prog 5 #[.int .i64 n] w fun e w' => e = .returned (.bool true) ∧ Below w.heap.size w w' := by
  go_enter Tryd.func5, Tryd.ntmps5
  go_wp2_with fail
  refine (small_any _ hT).mono ?_
  rintro e w1 ⟨rfl, q1⟩
  have hT1 := hT.below hT.size q1 q1.size
  go_wp2_with fail
  refine (of_at _ _ _ _ _ hT1.mon B1.out _ N1).mono ?_
  rintro e w2 ⟨rfl, hb2⟩
  have hT2' := hT1.below hT1.size hb2 hb2.size
  have q2' := q1.trans (hb2.mono q1.size)
  have hT2 := hT2'.alloc (.cells #[.int .i64 y, .int .i64 m, .int .i64 d, .int .i64 23] 23)
  have A2 := At4.new w2 (.int .i64 y) (.int .i64 m) (.int .i64 d) (.int .i64 23) 23
  have q2 := q2'.alloc q2'.size (.cells #[.int .i64 y, .int .i64 m, .int .i64 d, .int .i64 23] 23)
  clear hT1 q1 hb2 hT2' q2'
  go_wp2_with fail
  refine (of_at _ _ _ _ _ hT2.mon B2.out _ N2).mono ?_
  rintro e w3 ⟨rfl, hb3⟩
  have hT3' := hT2.below hT2.size hb3 hb3.size
  have A3' := A2.later hb3
  have q3' := q2.trans (hb3.mono q2.size)
  have hal : Below w3.heap.size w3 (w3.alloc (.cells #[.int .i64 y, .int .i64 m, .int .i64 (d + 1), .int .i64 0] 23)) := (Below.refl _ _).alloc (Nat.le_refl _) _
  have hT3 := hT3'.alloc (.cells #[.int .i64 y, .int .i64 m, .int .i64 (d + 1), .int .i64 0] 23)
  have A3 := A3'.later hal
  have C3 := At4.new w3 (.int .i64 y) (.int .i64 m) (.int .i64 (d + 1)) (.int .i64 0) 23
  have q3 := q3'.alloc q3'.size (.cells #[.int .i64 y, .int .i64 m, .int .i64 (d + 1), .int .i64 0] 23)
  clear hT2 A2 q2 hb3 hT3' A3' q3' hal
  have A3c := A3
  obtain ⟨a0, a1, a2, a3⟩ := A3c
  go_wp2_with fail
  refine (hour_v _ _ _ _ _ _ hT3.mon B1.out N1).mono ?_
  rintro e w4 ⟨rfl, hb4⟩
  clear a0 a1 a2 a3
  have hT4 := hT3.below hT3.size hb4 hb4.size
  have A4 := A3.later hb4
  have C4 := C3.later hb4
  have q4 := q3.trans (hb4.mono q3.size)
  clear hT3 A3 C3 q3 hb4
  go_wp2_with fail
  refine (text_v _ _ _ _ _ _ _ hT4 B1.out N1 L1).mono ?_
  rintro e w5 ⟨rfl, hb5⟩
  have hT5 := hT4.below hT4.size hb5 hb5.size
  have A5 := A4.later hb5
  have C5 := C4.later hb5
  have q5 := q4.trans (hb5.mono q4.size)
  clear hT4 A4 C4 q4 hb5
  go_wp2_with fail
  refine (parse_l _ _ _ _ _ _ _ hT5 B1.out N1 L1).mono ?_
  rintro e w6 ⟨rfl, hb6⟩
  have hT6 := hT5.below hT5.size hb6 hb6.size
  have A6 := A5.later hb6
  have C6 := C5.later hb6
  have q6 := q5.trans (hb6.mono q5.size)
  clear hT5 A5 C5 q5 hb6
  go_wp2_with fail
  refine (text_v _ _ _ _ _ _ _ hT6 B1.out N1 L1).mono ?_
  rintro e w7 ⟨rfl, hb7⟩
  have hT7 := hT6.below hT6.size hb7 hb7.size
  have A7 := A6.later hb7
  have C7 := C6.later hb7
  have q7 := q6.trans (hb7.mono q6.size)
  clear hT6 A6 C6 q6 hb7
  go_wp2_with fail
  refine (text_v _ _ _ _ _ _ _ hT7 B2.out N2 L2).mono ?_
  rintro e w8 ⟨rfl, hb8⟩
  have A8 := A7.later hb8
  have C8 := C7.later hb8
  have q8 := q7.trans (hb8.mono q7.size)
  clear hT7 A7 C7 q7 hb8
  obtain ⟨a0, a1, a2, a3⟩ := A8
  obtain ⟨c0, c1, c2, c3⟩ := C8
  go_wp2
  go_ret
  exact ⟨rfl, q8⟩

set_option maxHeartbeats 2000000 in
theorem back_c (n y m d : Int) (l1 l2 : List UInt8) (w : World) (hT : Tabs w) (n0 : 0 ≤ n) (n1 : n < 16777216) (y0 : 2000 ≤ y) (y1 : y ≤ 3914) (m0 : 1 ≤ m) (m1 : m ≤ 12) (d0 : 1 ≤ d) (d1 : d ≤ 31) (d28 : 28 ≤ d)
    (B1 : Hid (hourB y m d 23 = true)) (N1 : Hid (hourN y m d 23 = n)) (L1 : Hid (textL y m d 23 = l1))
    (B2 : Hid (hourB (y) (m + 1) (1) (0) = true)) (N2 : Hid (hourN (y) (m + 1) (1) (0) = n + 1)) (L2 : Hid (textL (y) (m + 1) (1) (0) = l2))
    (hless : Op.bytesLess l1 l2 = true) :
    Calls Tryd.prog 5 #[.int .i64 n] w fun e w' => e = .returned (.bool true) ∧ Below w.heap.size w w' := by
  go_enter Tryd.func5, Tryd.ntmps5
  go_wp2_with fail
  refine (small_any _ hT).mono ?_
  rintro e w1 ⟨rfl, q1⟩
  have hT1 := hT.below hT.size q1 q1.size
  go_wp2_with fail
  refine (of_at _ _ _ _ _ hT1.mon B1.out _ N1).mono ?_
  rintro e w2 ⟨rfl, hb2⟩
  have hT2' := hT1.below hT1.size hb2 hb2.size
  have q2' := q1.trans (hb2.mono q1.size)
  have hT2 := hT2'.alloc (.cells #[.int .i64 y, .int .i64 m, .int .i64 d, .int .i64 23] 23)
  have A2 := At4.new w2 (.int .i64 y) (.int .i64 m) (.int .i64 d) (.int .i64 23) 23
  have q2 := q2'.alloc q2'.size (.cells #[.int .i64 y, .int .i64 m, .int .i64 d, .int .i64 23] 23)
  clear hT1 q1 hb2 hT2' q2'
  go_wp2_with fail
  refine (of_at _ _ _ _ _ hT2.mon B2.out _ N2).mono ?_
  rintro e w3 ⟨rfl, hb3⟩
  have hT3' := hT2.below hT2.size hb3 hb3.size
  have A3' := A2.later hb3
  have q3' := q2.trans (hb3.mono q2.size)
  have hal : Below w3.heap.size w3 (w3.alloc (.cells #[.int .i64 y, .int .i64 (m + 1), .int .i64 1, .int .i64 0] 23)) := (Below.refl _ _).alloc (Nat.le_refl _) _
  have hT3 := hT3'.alloc (.cells #[.int .i64 y, .int .i64 (m + 1), .int .i64 1, .int .i64 0] 23)
  have A3 := A3'.later hal
  have C3 := At4.new w3 (.int .i64 y) (.int .i64 (m + 1)) (.int .i64 1) (.int .i64 0) 23
  have q3 := q3'.alloc q3'.size (.cells #[.int .i64 y, .int .i64 (m + 1), .int .i64 1, .int .i64 0] 23)
  clear hT2 A2 q2 hb3 hT3' A3' q3' hal
  have A3c := A3
  obtain ⟨a0, a1, a2, a3⟩ := A3c
  go_wp2_with fail
  refine (hour_v _ _ _ _ _ _ hT3.mon B1.out N1).mono ?_
  rintro e w4 ⟨rfl, hb4⟩
  clear a0 a1 a2 a3
  have hT4 := hT3.below hT3.size hb4 hb4.size
  have A4 := A3.later hb4
  have C4 := C3.later hb4
  have q4 := q3.trans (hb4.mono q3.size)
  clear hT3 A3 C3 q3 hb4
  go_wp2_with fail
  refine (text_v _ _ _ _ _ _ _ hT4 B1.out N1 L1).mono ?_
  rintro e w5 ⟨rfl, hb5⟩
  have hT5 := hT4.below hT4.size hb5 hb5.size
  have A5 := A4.later hb5
  have C5 := C4.later hb5
  have q5 := q4.trans (hb5.mono q4.size)
  clear hT4 A4 C4 q4 hb5
  go_wp2_with fail
  refine (parse_l _ _ _ _ _ _ _ hT5 B1.out N1 L1).mono ?_
  rintro e w6 ⟨rfl, hb6⟩
  have hT6 := hT5.below hT5.size hb6 hb6.size
  have A6 := A5.later hb6
  have C6 := C5.later hb6
  have q6 := q5.trans (hb6.mono q5.size)
  clear hT5 A5 C5 q5 hb6
  go_wp2_with fail
  refine (text_v _ _ _ _ _ _ _ hT6 B1.out N1 L1).mono ?_
  rintro e w7 ⟨rfl, hb7⟩
  have hT7 := hT6.below hT6.size hb7 hb7.size
  have A7 := A6.later hb7
  have C7 := C6.later hb7
  have q7 := q6.trans (hb7.mono q6.size)
  clear hT6 A6 C6 q6 hb7
  go_wp2_with fail
  refine (text_v _ _ _ _ _ _ _ hT7 B2.out N2 L2).mono ?_
  rintro e w8 ⟨rfl, hb8⟩
  have A8 := A7.later hb8
  have C8 := C7.later hb8
  have q8 := q7.trans (hb8.mono q7.size)
  clear hT7 A7 C7 q7 hb8
  obtain ⟨a0, a1, a2, a3⟩ := A8
  obtain ⟨c0, c1, c2, c3⟩ := C8
  go_wp2
  go_ret
  exact ⟨rfl, q8⟩

set_option maxHeartbeats 2000000 in
theorem back_d (n y : Int) (l1 l2 : List UInt8) (w : World) (hT : Tabs w) (n0 : 0 ≤ n) (n1 : n < 16777216) (y0 : 2000 ≤ y) (y1 : y ≤ 3914) 
    (B1 : Hid (hourB y 12 31 23 = true)) (N1 : Hid (hourN y 12 31 23 = n)) (L1 : Hid (textL y 12 31 23 = l1))
    (B2 : Hid (hourB (y + 1) (1) (1) (0) = true)) (N2 : Hid (hourN (y + 1) (1) (1) (0) = n + 1)) (L2 : Hid (textL (y + 1) (1) (1) (0) = l2))
    (hless : Op.bytesLess l1 l2 = true) :
    Calls Tryd.prog 5 #[.int .i64 n] w fun e w' => e = .returned (.bool true) ∧ Below w.heap.size w w' := by
  go_enter Tryd.func5, Tryd.ntmps5
  go_wp2_with fail
  refine (small_any _ hT).mono ?_
  rintro e w1 ⟨rfl, q1⟩
  have hT1 := hT.below hT.size q1 q1.size
  go_wp2_with fail
  refine (of_at _ _ _ _ _ hT1.mon B1.out _ N1).mono ?_
  rintro e w2 ⟨rfl, hb2⟩
  have hT2' := hT1.below hT1.size hb2 hb2.size
  have q2' := q1.trans (hb2.mono q1.size)
  have hT2 := hT2'.alloc (.cells #[.int .i64 y, .int .i64 12, .int .i64 31, .int .i64 23] 23)
  have A2 := At4.new w2 (.int .i64 y) (.int .i64 12) (.int .i64 31) (.int .i64 23) 23
  have q2 := q2'.alloc q2'.size (.cells #[.int .i64 y, .int .i64 12, .int .i64 31, .int .i64 23] 23)
  clear hT1 q1 hb2 hT2' q2'
  go_wp2_with fail
  refine (of_at _ _ _ _ _ hT2.mon B2.out _ N2).mono ?_
  rintro e w3 ⟨rfl, hb3⟩
  have hT3' := hT2.below hT2.size hb3 hb3.size
  have A3' := A2.later hb3
  have q3' := q2.trans (hb3.mono q2.size)
  have hal : Below w3.heap.size w3 (w3.alloc (.cells #[.int .i64 (y + 1), .int .i64 1, .int .i64 1, .int .i64 0] 23)) := (Below.refl _ _).alloc (Nat.le_refl _) _
  have hT3 := hT3'.alloc (.cells #[.int .i64 (y + 1), .int .i64 1, .int .i64 1, .int .i64 0] 23)
  have A3 := A3'.later hal
  have C3 := At4.new w3 (.int .i64 (y + 1)) (.int .i64 1) (.int .i64 1) (.int .i64 0) 23
  have q3 := q3'.alloc q3'.size (.cells #[.int .i64 (y + 1), .int .i64 1, .int .i64 1, .int .i64 0] 23)
  clear hT2 A2 q2 hb3 hT3' A3' q3' hal
  have A3c := A3
  obtain ⟨a0, a1, a2, a3⟩ := A3c
  go_wp2_with fail
  refine (hour_v _ _ _ _ _ _ hT3.mon B1.out N1).mono ?_
  rintro e w4 ⟨rfl, hb4⟩
  clear a0 a1 a2 a3
  have hT4 := hT3.below hT3.size hb4 hb4.size
  have A4 := A3.later hb4
  have C4 := C3.later hb4
  have q4 := q3.trans (hb4.mono q3.size)
  clear hT3 A3 C3 q3 hb4
  go_wp2_with fail
  refine (text_v _ _ _ _ _ _ _ hT4 B1.out N1 L1).mono ?_
  rintro e w5 ⟨rfl, hb5⟩
  have hT5 := hT4.below hT4.size hb5 hb5.size
  have A5 := A4.later hb5
  have C5 := C4.later hb5
  have q5 := q4.trans (hb5.mono q4.size)
  clear hT4 A4 C4 q4 hb5
  go_wp2_with fail
  refine (parse_l _ _ _ _ _ _ _ hT5 B1.out N1 L1).mono ?_
  rintro e w6 ⟨rfl, hb6⟩
  have hT6 := hT5.below hT5.size hb6 hb6.size
  have A6 := A5.later hb6
  have C6 := C5.later hb6
  have q6 := q5.trans (hb6.mono q5.size)
  clear hT5 A5 C5 q5 hb6
  go_wp2_with fail
  refine (text_v _ _ _ _ _ _ _ hT6 B1.out N1 L1).mono ?_
  rintro e w7 ⟨rfl, hb7⟩
  have hT7 := hT6.below hT6.size hb7 hb7.size
  have A7 := A6.later hb7
  have C7 := C6.later hb7
  have q7 := q6.trans (hb7.mono q6.size)
  clear hT6 A6 C6 q6 hb7
  go_wp2_with fail
  refine (text_v _ _ _ _ _ _ _ hT7 B2.out N2 L2).mono ?_
  rintro e w8 ⟨rfl, hb8⟩
  have A8 := A7.later hb8
  have C8 := C7.later hb8
  have q8 := q7.trans (hb8.mono q7.size)
  clear hT7 A7 C7 q7 hb8
  obtain ⟨a0, a1, a2, a3⟩ := A8
  obtain ⟨c0, c1, c2, c3⟩ := C8
  go_wp2
  go_ret
  exact ⟨rfl, q8⟩

set_option maxHeartbeats 400000 in
theorem back_out (n : Int) (w : World) (hT : Tabs w) (h : n < 0 ∨ 16777216 ≤ n) : Calls Tryd.prog 5 #[.int .i64 n] w fun e w' => e = .returned (.bool true) ∧ Below w.heap.size w w' := by
  rcases h with h | h
  · go_enter Tryd.func5, Tryd.ntmps5
    go_wp2_with fail
    refine (small_any _ hT).mono ?_
    rintro e w1 ⟨rfl, q1⟩
    go_wp2
    go_ret
    exact ⟨rfl, q1⟩
  · have h' : 0 ≤ n := by omega
    go_enter Tryd.func5, Tryd.ntmps5
    go_wp2_with fail
    refine (small_any _ hT).mono ?_
    rintro e w1 ⟨rfl, q1⟩
    go_wp2
    go_ret
    exact ⟨rfl, q1⟩

theorem back_any (n : Int) (w : World) (hT : Tabs w) : Calls Tryd.prog 5 #[.int .i64 n] w fun e w' => e = .returned (.bool true) ∧ Below w.heap.size w w' := by
  by_cases h : n < 0 ∨ 16777216 ≤ n
  · exact back_out n w hT h
  obtain ⟨y, m, d, hB, hN, hv, hn⟩ := date_exists n w (by omega) (by omega) hT.mon
  obtain ⟨y', m', d', hB', hN', hv', hn'⟩ := date_exists (n + 1) w (by omega) (by omega) hT.mon
  have t1 := textVal_of (n := n) (by omega) (by omega) hv hn
  have t2 := textVal_of (n := n + 1) (by omega) (by omega) hv' hn'
  have hless := hours_less t1 t2 (by omega) (by omega) (by omega)
  have bd := DM.num_lt _ _ _ hv
  have hy1 := DM.bef_big (y := y) (by omega)
  have hy0 : 2000 ≤ y := (of_decide_eq_true hB).1
  have l := DM.len_bd y m
  have hv0 := hv
  obtain ⟨p1, p2, p3, p4⟩ := hv
  by_cases g : n % 24 < 23
  · obtain ⟨rfl, rfl, rfl⟩ := DM.num_inj hv' hv0 (by omega)
    rw [show (n + 1) % 24 = n % 24 + 1 by omega] at hB' hN' hless
    exact back_a n _ _ _ (n % 24) _ _ w hT (by omega) (by omega) hy0 hy1 p1 p2 p3 (by omega) (by omega) g hB hN rfl hB' hN' rfl hless
  · rw [show (n + 1) % 24 = 0 by omega] at hB' hN' hless
    rw [show n % 24 = 23 by omega] at hB hN hless
    rcases next_day hv0 hv' (by omega) with ⟨c, rfl, rfl, rfl⟩ | ⟨c, c2, rfl, rfl, rfl⟩ | ⟨rfl, rfl, rfl, rfl, rfl⟩
    · exact back_b n _ _ _ _ _ w hT (by omega) (by omega) hy0 hy1 p1 p2 p3 (by omega) hB hN rfl hB' hN' rfl hless
    · exact back_c n _ _ _ _ _ w hT (by omega) (by omega) hy0 hy1 p1 p2 p3 (by omega) (by omega) hB hN rfl hB' hN' rfl hless
    · exact back_d n _ _ _ w hT (by omega) (by omega) hy0 hy1 hB hN rfl hB' hN' rfl hless
end Go.Proofs.YticjghibdjambaaDoor
