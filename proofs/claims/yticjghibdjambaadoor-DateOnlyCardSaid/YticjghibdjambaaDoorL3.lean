/- The law DateOnly returns true. -/
import Derived.Test.YticjghibdjambaaDoorP2
namespace Go.Proofs.YticjghibdjambaaDoor
open Go.RowKit

theorem of_at (y m d h : Int) (w : World) (hM : Months w) (hB : hourB y m d h = true) (v : Int) (hv : Hid (hourN y m d h = v)) : Calls Tryd.prog 9 #[.int .i64 v] w fun e w' =>
    e = .returned (.tuple #[.agg #[.int .i64 y, .int .i64 m, .int .i64 d, .int .i64 h], .bool true]) ∧ Below w.heap.size w w' := by
  obtain ⟨h1, h2, h3, h4, h5⟩ := hour_parts hB
  rw [hv.out] at h2 h3 h4 h5
  refine (of_yes v w h2 h3 hM).mono ?_
  rintro e w' ⟨y', m', d', rfl, kv, kn, _, _, hb⟩
  obtain ⟨rfl, rfl, rfl⟩ := DM.num_inj kv h1 (kn.trans h4)
  rw [h5]
  exact ⟨rfl, hb⟩
theorem text_v (y m d z v : Int) (l : List UInt8) (w : World) (hT : Tabs w) (h : hourB y m d z = true) (hv : Hid (hourN y m d z = v)) (hl : Hid (textL y m d z = l)) :
    Calls Tryd.prog 17 #[.int .i64 v] w fun e w' => e = .returned (.string ⟨l.toArray⟩) ∧ Below w.heap.size w w' := by
  rw [← hv.out, ← hl.out]; exact text_at y m d z w hT h

theorem hour_cases (y m d h : Int) : (Hid (hourB y m d h = false) ∧ Hid (hourN y m d h = 0)) ∨ ∃ v, Hid (hourB y m d h = true) ∧ Hid (hourN y m d h = v) := by
  cases hB : hourB y m d h
  · exact .inl ⟨rfl, by unfold hourN; rw [hB]; exact rfl⟩
  · exact .inr ⟨_, rfl, rfl⟩
theorem parse_cases (l : List UInt8) : (Hid (parseB l = false) ∧ Hid (parseN l = 0)) ∨ ∃ v, Hid (parseB l = true) ∧ Hid (parseN l = v) := by
  cases hB : parseB l
  · exact .inl ⟨rfl, by unfold parseN; rw [hB]; exact rfl⟩
  · exact .inr ⟨_, rfl, rfl⟩
set_option maxHeartbeats 2000000 in
theorem only_any (y m d h : Int) (s : ByteArray) (w : World) (hT : Tabs w) (hs : s.size ≤ 9223372036854775807) :
    Calls Tryd.prog 7 #[.agg #[.int .i64 y, .int .i64 m, .int .i64 d, .int .i64 h], .string s] w fun e w' => e = .returned (.bool true) ∧ Below w.heap.size w w' := by
  obtain ⟨H1, H2⟩ | ⟨hv, H1, H2⟩ := hour_cases y m d h <;> obtain ⟨K1, K2⟩ | ⟨pv, K1, K2⟩ := parse_cases s.data.toList
  all_goals
    have hT0 := hT.alloc (.cells #[.int .i64 y, .int .i64 m, .int .i64 d, .int .i64 h] 23)
    have A0 := At4.new w (.int .i64 y) (.int .i64 m) (.int .i64 d) (.int .i64 h) 23
    have q0 : Below w.heap.size w (w.alloc (.cells #[.int .i64 y, .int .i64 m, .int .i64 d, .int .i64 h] 23)) := (Below.refl _ _).alloc (Nat.le_refl _) _
    go_enter Tryd.func7, Tryd.ntmps7
    go_wp2_with fail
    refine (small_any _ hT0).mono ?_
    rintro e w1 ⟨rfl, hb1⟩
    have hT1 := hT0.below hT0.size hb1 hb1.size
    have A1 := A0.later hb1
    have q1 := q0.trans (hb1.mono q0.size)
    clear hT0 A0 q0 hb1
    have A1c := A1
    obtain ⟨a0, a1, a2, a3⟩ := A1c
    go_wp2_with fail
    refine (hour_b _ _ _ _ _ _ _ hT1.mon H1 H2).mono ?_
    rintro e w2 ⟨rfl, hb2⟩
    clear a0 a1 a2 a3
    have hT2 := hT1.below hT1.size hb2 hb2.size
    have A2 := A1.later hb2
    have q2 := q1.trans (hb2.mono q1.size)
    clear hT1 A1 q1 hb2
    go_wp2_with fail
  · refine (of_any _ _ hT2.mon).mono ?_
    rintro e w3 ⟨y1, m1, d1, z1, b1, rfl, hv1, hb3⟩
    have hT3' := hT2.below hT2.size hb3 hb3.size
    have q3' := q2.trans (hb3.mono q2.size)
    have hT3 := hT3'.alloc (.cells #[.int .i64 y1, .int .i64 m1, .int .i64 d1, .int .i64 z1] 23)
    have q3 := q3'.alloc q3'.size (.cells #[.int .i64 y1, .int .i64 m1, .int .i64 d1, .int .i64 z1] 23)
    clear hT2 A2 q2 hb3 hT3' q3' hv1
    go_wp2_with fail
    refine (parse_b _ _ _ _ hT3 hs K1 K2).mono ?_
    rintro e w4 ⟨rfl, hb4⟩
    have q4 := q3.trans (hb4.mono q3.size)
    clear hT3 q3 hb4
    go_wp2
    go_ret
    exact ⟨rfl, q4⟩
  · refine (of_any _ _ hT2.mon).mono ?_
    rintro e w3 ⟨y1, m1, d1, z1, b1, rfl, hv1, hb3⟩
    have hT3' := hT2.below hT2.size hb3 hb3.size
    have q3' := q2.trans (hb3.mono q2.size)
    have hT3 := hT3'.alloc (.cells #[.int .i64 y1, .int .i64 m1, .int .i64 d1, .int .i64 z1] 23)
    have q3 := q3'.alloc q3'.size (.cells #[.int .i64 y1, .int .i64 m1, .int .i64 d1, .int .i64 z1] 23)
    clear hT2 A2 q2 hb3 hT3' q3' hv1
    go_wp2_with fail
    refine (parse_b _ _ _ _ hT3 hs K1 K2).mono ?_
    rintro e w4 ⟨rfl, hb4⟩
    have hT4 := hT3.below hT3.size hb4 hb4.size
    have q4 := q3.trans (hb4.mono q3.size)
    clear hT3 q3 hb4
    obtain ⟨_, pB, pX⟩ := of_decide_eq_true K1.out
    have pE : parseN s.data.toList = hourN (pY s.data.toList) (pM s.data.toList) (pD s.data.toList) (pH s.data.toList) := by unfold parseN; rw [K1.out]; rfl
    go_wp2_with fail
    refine (text_v _ _ _ _ _ _ _ hT4 pB (pE.symm.trans K2.out) pX).mono ?_
    rintro e w5 ⟨rfl, hb5⟩
    have q5 := q4.trans (hb5.mono q4.size)
    clear hT4 q4 hb5 pB pX pE
    go_wp2
    go_ret
    exact ⟨rfl, q5⟩
  · refine (of_at _ _ _ _ _ hT2.mon H1.out _ H2).mono ?_
    rintro e w3 ⟨rfl, hb3⟩
    have hT3' := hT2.below hT2.size hb3 hb3.size
    have A3' := A2.later hb3
    have q3' := q2.trans (hb3.mono q2.size)
    have hal : Below w3.heap.size w3 (w3.alloc (.cells #[.int .i64 y, .int .i64 m, .int .i64 d, .int .i64 h] 23)) := (Below.refl _ _).alloc (Nat.le_refl _) _
    have hT3 := hT3'.alloc (.cells #[.int .i64 y, .int .i64 m, .int .i64 d, .int .i64 h] 23)
    have A3 := A3'.later hal
    have B3 := At4.new w3 (.int .i64 y) (.int .i64 m) (.int .i64 d) (.int .i64 h) 23
    have q3 := q3'.alloc q3'.size (.cells #[.int .i64 y, .int .i64 m, .int .i64 d, .int .i64 h] 23)
    clear hT2 A2 q2 hb3 hT3' q3' A3' hal
    go_wp2_with fail
    refine (parse_b _ _ _ _ hT3 hs K1 K2).mono ?_
    rintro e w4 ⟨rfl, hb4⟩
    have q4 := q3.trans (hb4.mono q3.size)
    have A4 := A3.later hb4
    have B4 := B3.later hb4
    clear hT3 q3 hb4 A3 B3
    obtain ⟨a0, a1, a2, a3⟩ := A4
    obtain ⟨b0, b1, b2, b3⟩ := B4
    go_wp2
    go_ret
    exact ⟨rfl, q4⟩
  · refine (of_at _ _ _ _ _ hT2.mon H1.out _ H2).mono ?_
    rintro e w3 ⟨rfl, hb3⟩
    have hT3' := hT2.below hT2.size hb3 hb3.size
    have A3' := A2.later hb3
    have q3' := q2.trans (hb3.mono q2.size)
    have hal : Below w3.heap.size w3 (w3.alloc (.cells #[.int .i64 y, .int .i64 m, .int .i64 d, .int .i64 h] 23)) := (Below.refl _ _).alloc (Nat.le_refl _) _
    have hT3 := hT3'.alloc (.cells #[.int .i64 y, .int .i64 m, .int .i64 d, .int .i64 h] 23)
    have A3 := A3'.later hal
    have B3 := At4.new w3 (.int .i64 y) (.int .i64 m) (.int .i64 d) (.int .i64 h) 23
    have q3 := q3'.alloc q3'.size (.cells #[.int .i64 y, .int .i64 m, .int .i64 d, .int .i64 h] 23)
    clear hT2 A2 q2 hb3 hT3' q3' A3' hal
    go_wp2_with fail
    refine (parse_b _ _ _ _ hT3 hs K1 K2).mono ?_
    rintro e w4 ⟨rfl, hb4⟩
    have hT4 := hT3.below hT3.size hb4 hb4.size
    have q4 := q3.trans (hb4.mono q3.size)
    have A4 := A3.later hb4
    have B4 := B3.later hb4
    clear hT3 q3 hb4 A3 B3
    obtain ⟨_, pB, pX⟩ := of_decide_eq_true K1.out
    have pE : parseN s.data.toList = hourN (pY s.data.toList) (pM s.data.toList) (pD s.data.toList) (pH s.data.toList) := by unfold parseN; rw [K1.out]; rfl
    have PB := Lib.hid pB
    have PX := Lib.hid pX
    have PE := Lib.hid (pE.symm.trans K2.out)
    clear pB pX pE
    obtain ⟨a0, a1, a2, a3⟩ := A4
    obtain ⟨b0, b1, b2, b3⟩ := B4
    go_wp2_with fail
    refine (text_v _ _ _ _ _ _ _ hT4 PB.out PE PX).mono ?_
    rintro e w5 ⟨rfl, hb5⟩
    have q5 := q4.trans (hb5.mono q4.size)
    clear hT4 q4 hb5
    go_wp2
    go_ret
    exact ⟨rfl, q5⟩
end Go.Proofs.YticjghibdjambaaDoor
