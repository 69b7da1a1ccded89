/- The laws DateTells and DateTexts return true. -/
import Derived.Test.YticjghibdjambaaDoorL1
namespace Go.Proofs.YticjghibdjambaaDoor
open Go.RowKit

theorem hour_b (y m d h : Int) (b : Bool) (v : Int) (w : World) (hM : Months w) (h1 : Hid (hourB y m d h = b)) (h2 : Hid (hourN y m d h = v)) :
    Calls Tryd.prog 11 #[.agg #[.int .i64 y, .int .i64 m, .int .i64 d, .int .i64 h]] w fun e w' => e = .returned (.tuple #[.int .i64 v, .bool b]) ∧ Below w.heap.size w w' := by
  rw [← h1.out, ← h2.out]; exact hour_any y m d h w hM
theorem rhour_b (y m d h : Int) (b : Bool) (v : Int) (w : World) (h1 : Hid (hourB y m d h = b)) (h2 : Hid (hourN y m d h = v)) :
    Calls Tryd.prog 12 #[.agg #[.int .i64 y, .int .i64 m, .int .i64 d, .int .i64 h]] w fun e w' => e = .returned (.tuple #[.int .i64 v, .bool b]) ∧ Below w.heap.size w w' := by
  rw [← h1.out, ← h2.out]; exact rhour_any y m d h w
theorem day_b (n v : Int) (w : World) (h : Hid (dayF n = v)) : Calls Tryd.prog 13 #[.int .i64 n] w fun e w' => e = .returned (.int .i64 v) ∧ w = w' := by
  rw [← h.out]; exact day_any n w
theorem rday_b (n v : Int) (w : World) (h : Hid (dayF n = v)) : Calls Tryd.prog 14 #[.int .i64 n] w fun e w' => e = .returned (.int .i64 v) ∧ w = w' := by
  rw [← h.out]; exact rday_any n w

/-- Both Ofs at once: one answer. -/
def OfVal (n : Int) (y m d z : Int) (b : Bool) : Prop := (b = false ∧ (n < 0 ∨ 16777216 < n) ∧ y = 0 ∧ m = 0 ∧ d = 0 ∧ z = 0) ∨ (b = true ∧ 0 ≤ n ∧ n ≤ 16777216 ∧ DM.vld y m d ∧ DM.num y m d = n / 24 ∧ z = n % 24)
theorem OfVal.same {n y m d z y' m' d' z' : Int} {b b' : Bool} (h : OfVal n y m d z b) (h' : OfVal n y' m' d' z' b') : y' = y ∧ m' = m ∧ d' = d ∧ z' = z ∧ b' = b := by
  rcases h with ⟨rfl, g, rfl, rfl, rfl, rfl⟩ | ⟨rfl, g1, g2, hv, hn, rfl⟩ <;> rcases h' with ⟨rfl, k, rfl, rfl, rfl, rfl⟩ | ⟨rfl, k1, k2, kv, kn, rfl⟩
  · exact ⟨rfl, rfl, rfl, rfl, rfl⟩
  · exfalso; omega
  · exfalso; omega
  · obtain ⟨rfl, rfl, rfl⟩ := DM.num_inj kv hv (kn.trans hn.symm)
    exact ⟨rfl, rfl, rfl, rfl, rfl⟩
def OfGives (n : Int) (w : World) (e : Ending) (w' : World) : Prop := ∃ y m d z b, e = .returned (.tuple #[.agg #[.int .i64 y, .int .i64 m, .int .i64 d, .int .i64 z], .bool b]) ∧ OfVal n y m d z b ∧ Below w.heap.size w w'
theorem of_any (n : Int) (w : World) (hM : Months w) : Calls Tryd.prog 9 #[.int .i64 n] w (OfGives n w) := by
  by_cases h : n < 0 ∨ 16777216 < n
  · exact (of_no n w h).mono fun e w' ⟨he, hb⟩ => ⟨_, _, _, _, _, he, .inl ⟨rfl, h, rfl, rfl, rfl, rfl⟩, hb⟩
  · exact (of_yes n w (by omega) (by omega) hM).mono fun e w' ⟨y, m, d, he, hv, hn, _, _, hb⟩ => ⟨_, _, _, _, _, he, .inr ⟨rfl, by omega, by omega, hv, hn, rfl⟩, hb⟩
theorem rof_any (n : Int) (w : World) : Calls Tryd.prog 10 #[.int .i64 n] w (OfGives n w) := by
  by_cases h : n < 0 ∨ 16777216 < n
  · exact (rof_no n w h).mono fun e w' ⟨he, hb⟩ => ⟨_, _, _, _, _, he, .inl ⟨rfl, h, rfl, rfl, rfl, rfl⟩, hb⟩
  · exact (rof_yes n w (by omega) (by omega)).mono fun e w' ⟨y, m, d, he, hv, hn, _, _, hb⟩ => ⟨_, _, _, _, _, he, .inr ⟨rfl, by omega, by omega, hv, hn, rfl⟩, hb⟩

set_option maxHeartbeats 2000000 in
theorem tells_any (n y m d h : Int) (w : World) (hT : Tabs w) :
    Calls Tryd.prog 3 #[.int .i64 n, .agg #[.int .i64 y, .int .i64 m, .int .i64 d, .int .i64 h]] w fun e w' => e = .returned (.bool true) ∧ Below w.heap.size w w' := by
  obtain ⟨hb, h1⟩ : ∃ b, hourB y m d h = b := ⟨_, rfl⟩
  obtain ⟨hv, h2⟩ : ∃ b, hourN y m d h = b := ⟨_, rfl⟩
  obtain ⟨dv, h3⟩ : ∃ b, dayF n = b := ⟨_, rfl⟩
  have H1 := Lib.hid h1
  have H2 := Lib.hid h2
  have H3 := Lib.hid h3
  clear h1 h2 h3
  have hT0 := hT.alloc (.cells #[.int .i64 y, .int .i64 m, .int .i64 d, .int .i64 h] 23)
  have A0 := At4.new w (.int .i64 y) (.int .i64 m) (.int .i64 d) (.int .i64 h) 23
  have q0 : Below w.heap.size w (w.alloc (.cells #[.int .i64 y, .int .i64 m, .int .i64 d, .int .i64 h] 23)) := (Below.refl _ _).alloc (Nat.le_refl _) _
  go_enter Tryd.func3, Tryd.ntmps3
  go_wp2_with fail
  refine (small_any _ hT0).mono ?_
  rintro e w1 ⟨rfl, hb1⟩
  have hT1 := hT0.below hT0.size hb1 hb1.size
  have A1 := A0.later hb1
  have q1 := q0.trans (hb1.mono q0.size)
  clear hT0 A0 q0 hb1
  go_wp2_with fail
  refine (of_any _ _ hT1.mon).mono ?_
  rintro e w2 ⟨y1, m1, d1, z1, b1, rfl, hv1, hb2⟩
  have hT2' := hT1.below hT1.size hb2 hb2.size
  have A2' := A1.later hb2
  have q2' := q1.trans (hb2.mono q1.size)
  have hT2 := hT2'.alloc (.cells #[.int .i64 y1, .int .i64 m1, .int .i64 d1, .int .i64 z1] 23)
  have A2 := A2'.later (w' := w2.alloc (.cells #[.int .i64 y1, .int .i64 m1, .int .i64 d1, .int .i64 z1] 23)) ((Below.refl _ _).alloc (Nat.le_refl _) _)
  have B2 := At4.new w2 (.int .i64 y1) (.int .i64 m1) (.int .i64 d1) (.int .i64 z1) 23
  have q2 := q2'.alloc q2'.size (.cells #[.int .i64 y1, .int .i64 m1, .int .i64 d1, .int .i64 z1] 23)
  clear hT1 A1 q1 hb2 hT2' A2' q2'
  go_wp2_with fail
  refine (rof_any _ _).mono ?_
  rintro e w3 ⟨y2, m2, d2, z2, b2, rfl, hv2, hb3⟩
  obtain ⟨rfl, rfl, rfl, rfl, rfl⟩ := hv1.same hv2
  have hT3' := hT2.below hT2.size hb3 hb3.size
  have A3' := A2.later hb3
  have B3' := B2.later hb3
  have q3' := q2.trans (hb3.mono q2.size)
  have hal : Below w3.heap.size w3 (w3.alloc (.cells #[.int .i64 y2, .int .i64 m2, .int .i64 d2, .int .i64 z2] 23)) := (Below.refl _ _).alloc (Nat.le_refl _) _
  have hT3 := hT3'.alloc (.cells #[.int .i64 y2, .int .i64 m2, .int .i64 d2, .int .i64 z2] 23)
  have A3 := A3'.later hal
  have B3 := B3'.later hal
  have C3 := At4.new w3 (.int .i64 y2) (.int .i64 m2) (.int .i64 d2) (.int .i64 z2) 23
  have q3 := q3'.alloc q3'.size (.cells #[.int .i64 y2, .int .i64 m2, .int .i64 d2, .int .i64 z2] 23)
  clear hT2 A2 B2 q2 hb3 hT3' A3' B3' q3' hal hv1 hv2
  have A3c := A3
  obtain ⟨a0, a1, a2, a3⟩ := A3c
  go_wp2_with fail
  refine (hour_b _ _ _ _ _ _ _ hT3.mon H1 H2).mono ?_
  rintro e w4 ⟨rfl, hb4⟩
  clear a0 a1 a2 a3
  have hT4 := hT3.below hT3.size hb4 hb4.size
  have A4 := A3.later hb4
  have B4 := B3.later hb4
  have C4 := C3.later hb4
  have q4 := q3.trans (hb4.mono q3.size)
  clear hT3 A3 B3 C3 q3 hb4
  obtain ⟨a0, a1, a2, a3⟩ := A4
  go_wp2_with fail
  refine (rhour_b _ _ _ _ _ _ _ H1 H2).mono ?_
  rintro e w5 ⟨rfl, hb5⟩
  clear a0 a1 a2 a3
  have B5 := B4.later hb5
  have C5 := C4.later hb5
  have q5 := q4.trans (hb5.mono q4.size)
  clear B4 C4 q4 hb5 hT4
  obtain ⟨a0, a1, a2, a3⟩ := B5
  obtain ⟨c0, c1, c2, c3⟩ := C5
  go_wp2_with (first | (go_at_call 13; (with_reducible refine (day_b _ _ _ H3).mono ?_); rintro e w' ⟨rfl, rfl⟩) | (go_at_call 14; (with_reducible refine (rday_b _ _ _ H3).mono ?_); rintro e w' ⟨rfl, rfl⟩) | fail)
  go_ret
  exact ⟨rfl, q5⟩

/-- The text that both functions give. -/
def TextVal (n : Int) (l : List UInt8) : Prop := (l = [] ∧ (n < 0 ∨ 16777216 < n)) ∨ (0 ≤ n ∧ n ≤ 16777216 ∧ ∃ y m d, l = textL y m d (n % 24) ∧ DM.vld y m d ∧ DM.num y m d = n / 24)
theorem TextVal.same {n : Int} {l l' : List UInt8} (h : TextVal n l) (h' : TextVal n l') : l' = l := by
  rcases h with ⟨rfl, g⟩ | ⟨g1, g2, y, m, d, rfl, hv, hn⟩ <;> rcases h' with ⟨rfl, k⟩ | ⟨k1, k2, y', m', d', rfl, kv, kn⟩
  · rfl
  · exfalso; omega
  · exfalso; omega
  · obtain ⟨rfl, rfl, rfl⟩ := DM.num_inj kv hv (kn.trans hn.symm)
    rfl
def TextGives (n : Int) (w : World) (e : Ending) (w' : World) : Prop := ∃ l : List UInt8, e = .returned (.string ⟨l.toArray⟩) ∧ TextVal n l ∧ Below w.heap.size w w'
theorem text_any (n : Int) (w : World) (hT : Tabs w) : Calls Tryd.prog 17 #[.int .i64 n] w (TextGives n w) := by
  by_cases h : n < 0 ∨ 16777216 < n
  · exact (text_no n w h).mono fun e w' ⟨he, hb⟩ => ⟨[], he, .inl ⟨rfl, h⟩, hb⟩
  · exact (text_yes n w (by omega) (by omega) hT).mono fun e w' ⟨y, m, d, he, hv, hn, _, _, hb⟩ => ⟨_, he, .inr ⟨by omega, by omega, y, m, d, rfl, hv, hn⟩, hb⟩
theorem rtext_any (n : Int) (w : World) (hT : Tabs w) : Calls Tryd.prog 18 #[.int .i64 n] w (TextGives n w) := by
  by_cases h : n < 0 ∨ 16777216 < n
  · exact (rtext_no n w h).mono fun e w' ⟨he, hb⟩ => ⟨[], he, .inl ⟨rfl, h⟩, hb⟩
  · exact (rtext_yes n w (by omega) (by omega) hT).mono fun e w' ⟨y, m, d, he, hv, hn, _, _, hb⟩ => ⟨_, he, .inr ⟨by omega, by omega, y, m, d, rfl, hv, hn⟩, hb⟩

theorem parse_b (s : ByteArray) (b : Bool) (v : Int) (w : World) (hT : Tabs w) (hs : s.size ≤ 9223372036854775807) (h1 : Hid (parseB s.data.toList = b)) (h2 : Hid (parseN s.data.toList = v)) :
    Calls Tryd.prog 15 #[.string s] w fun e w' => e = .returned (.tuple #[.int .i64 v, .bool b]) ∧ Below w.heap.size w w' := by
  rw [← h1.out, ← h2.out]; exact parse_any s w hT hs
theorem rparse_b (s : ByteArray) (b : Bool) (v : Int) (w : World) (hs : s.size ≤ 9223372036854775807) (h1 : Hid (parseB s.data.toList = b)) (h2 : Hid (parseN s.data.toList = v)) :
    Calls Tryd.prog 16 #[.string s] w fun e w' => e = .returned (.tuple #[.int .i64 v, .bool b]) ∧ Below w.heap.size w w' := by
  rw [← h1.out, ← h2.out]; exact rparse_any s w hs

set_option maxHeartbeats 2000000 in
theorem texts_any (n : Int) (s : ByteArray) (w : World) (hT : Tabs w) (hs : s.size ≤ 9223372036854775807) :
    Calls Tryd.prog 4 #[.int .i64 n, .string s] w fun e w' => e = .returned (.bool true) ∧ Below w.heap.size w w' := by
  obtain ⟨pb, h1⟩ : ∃ b, parseB s.data.toList = b := ⟨_, rfl⟩
  obtain ⟨pv, h2⟩ : ∃ b, parseN s.data.toList = b := ⟨_, rfl⟩
  have H1 := Lib.hid h1
  have H2 := Lib.hid h2
  clear h1 h2
  go_enter Tryd.func4, Tryd.ntmps4
  go_wp2_with fail
  refine (small_any _ hT).mono ?_
  rintro e w1 ⟨rfl, q1⟩
  have hT1 := hT.below hT.size q1 q1.size
  go_wp2_with fail
  refine (parse_b _ _ _ _ hT1 hs H1 H2).mono ?_
  rintro e w2 ⟨rfl, hb2⟩
  have hT2 := hT1.below hT1.size hb2 hb2.size
  have q2 := q1.trans (hb2.mono q1.size)
  clear hT1 q1 hb2
  go_wp2_with fail
  refine (rparse_b _ _ _ _ hs H1 H2).mono ?_
  rintro e w3 ⟨rfl, hb3⟩
  have hT3 := hT2.below hT2.size hb3 hb3.size
  have q3 := q2.trans (hb3.mono q2.size)
  clear hT2 q2 hb3
  go_wp2_with fail
  refine (text_any _ _ hT3).mono ?_
  rintro e w4 ⟨l, rfl, hl, hb4⟩
  have hT4 := hT3.below hT3.size hb4 hb4.size
  have q4 := q3.trans (hb4.mono q3.size)
  clear hT3 q3 hb4
  go_wp2_with fail
  refine (rtext_any _ _ hT4).mono ?_
  rintro e w5 ⟨l', rfl, hl', hb5⟩
  obtain rfl := hl.same hl'
  have q5 := q4.trans (hb5.mono q4.size)
  clear hT4 q4 hb5 hl hl'
  go_wp2
  go_ret
  exact ⟨rfl, q5⟩
end Go.Proofs.YticjghibdjambaaDoor
