/- The law DateOrder returns true. -/
import Derived.Test.YticjghibdjambaaDoorL4
namespace Go.Proofs.YticjghibdjambaaDoor
open Go.RowKit

theorem frozen_new (w : World) (cs : Array Value) (t : TypeId) : (w.alloc (.cells cs t)).frozen? ⟨w.heap.size, 0, none⟩ = false := World.frozen?_alloc_at _ _ _ _ rfl

set_option maxHeartbeats 2000000 in
theorem order_lt_in (a b : Int) (y m d z : Int) (y' m' d' z' : Int) (l1 l2 : List UInt8) (w : World) (hT : Tabs w) (n0 : 0 ≤ a) (n1 : b ≤ 16777216) (y0 : 2000 ≤ y) (y1 : y ≤ 3914) (hab : a < b) (hless : Op.bytesLess l1 l2 = true) (hne : (l1 == l2) = false) (hn2 : (a == b) = false)
    (B1 : Hid (hourB y m d z = true)) (N1 : Hid (hourN y m d z = a)) (L1 : Hid (textL y m d z = l1))
    (B2 : Hid (hourB y' m' d' z' = true)) (N2 : Hid (hourN y' m' d' z' = b)) (L2 : Hid (textL y' m' d' z' = l2))
    (hc : a + 3506328 ≤ 16777216) (B3 : Hid (hourB (y + 400) m d z = true)) (N3 : Hid (hourN (y + 400) m d z = a + 3506328))
    (D1 : Hid (dayF a = a / 24)) (D2 : Hid (dayF b = b / 24)) :
    Calls Tryd.prog 6 #[.int .i64 a, .int .i64 b] w fun e w' => e = .returned (.bool true) ∧ Below w.heap.size w w' := by
  go_enter Tryd.func6, Tryd.ntmps6
  go_wp2_with fail
  refine (small_any _ hT).mono ?_
  rintro e w1 ⟨rfl, q1⟩
  have hT1 := hT.below hT.size q1 q1.size
  go_wp2_with fail
  refine (text_v _ _ _ _ _ _ _ hT1 B1.out N1 L1).mono ?_
  rintro e w2 ⟨rfl, hb2⟩
  have hT2 := hT1.below hT1.size hb2 hb2.size
  have q2 := q1.trans (hb2.mono q1.size)
  clear hT1 q1 hb2
  go_wp2_with fail
  refine (text_v _ _ _ _ _ _ _ hT2 B2.out N2 L2).mono ?_
  rintro e w3 ⟨rfl, hb3⟩
  have hT3 := hT2.below hT2.size hb3 hb3.size
  have q3 := q2.trans (hb3.mono q2.size)
  clear hT2 q2 hb3
  go_wp2_with fail
  refine (day_b _ _ _ D1).mono ?_
  rintro e w4 ⟨rfl, rfl⟩
  go_wp2_with fail
  refine (day_b _ _ _ D2).mono ?_
  rintro e w4 ⟨rfl, rfl⟩
  go_wp2_with fail
  refine (of_at _ _ _ _ _ hT3.mon B1.out _ N1).mono ?_
  rintro e w5 ⟨rfl, hb5⟩
  have hT5' := hT3.below hT3.size hb5 hb5.size
  have q5' := q3.trans (hb5.mono q3.size)
  have hT5 := hT5'.alloc (.cells #[.int .i64 y, .int .i64 m, .int .i64 d, .int .i64 z] 23)
  have A5 := At4.new w5 (.int .i64 y) (.int .i64 m) (.int .i64 d) (.int .i64 z) 23
  have F5 := frozen_new w5 #[.int .i64 y, .int .i64 m, .int .i64 d, .int .i64 z] 23
  have q5 := q5'.alloc q5'.size (.cells #[.int .i64 y, .int .i64 m, .int .i64 d, .int .i64 z] 23)
  have q5s := q5'.size
  clear hT3 q3 hb5 hT5' q5'
  go_wp2_with fail
  refine (of_at _ _ _ _ _ hT5.mon B3.out _ N3).mono ?_
  rintro e w6 ⟨rfl, hb6⟩
  have A6' := A5.later hb6
  have F6' : w6.frozen? ⟨w5.heap.size, 0, none⟩ = false := ((bcell hb6).2 _ 0 (by simp)).trans F5
  have q6' := q5.trans (hb6.mono q5.size)
  have hsz : w5.heap.size < w6.heap.size := by have := hb6.size; simp at this; omega
  have hal : Below w6.heap.size w6 (w6.alloc (.cells #[.int .i64 (y + 400), .int .i64 m, .int .i64 d, .int .i64 z] 23)) := (Below.refl _ _).alloc (Nat.le_refl _) _
  have A6 := A6'.later hal
  have F6 : (w6.alloc (.cells #[.int .i64 (y + 400), .int .i64 m, .int .i64 d, .int .i64 z] 23)).frozen? ⟨w5.heap.size, 0, none⟩ = false := ((bcell hal).2 _ 0 hsz).trans F6'
  have C6 := At4.new w6 (.int .i64 (y + 400)) (.int .i64 m) (.int .i64 d) (.int .i64 z) 23
  have q6 := q6'.alloc q6'.size (.cells #[.int .i64 (y + 400), .int .i64 m, .int .i64 d, .int .i64 z] 23)
  obtain ⟨z0, z1, z2, z3⟩ := A6'
  clear hT5 A5 F5 q5 hb6 F6' hal
  obtain ⟨a0, a1, a2, a3⟩ := A6
  have s0 : ((w6.setCell ⟨w5.heap.size, 0, none⟩ (.int .i64 (y + 400))).alloc (.cells #[.int .i64 (y + 400), .int .i64 m, .int .i64 d, .int .i64 z] 23)).cell? ⟨w5.heap.size, 0, none⟩ = some (.int .i64 (y + 400)) :=
    (World.cell?_alloc_past _ _ _ (by simpa [World.setCell] using hsz)).trans (World.cell?_setCell_same _ _ _ z0)
  have s1 : ((w6.setCell ⟨w5.heap.size, 0, none⟩ (.int .i64 (y + 400))).alloc (.cells #[.int .i64 (y + 400), .int .i64 m, .int .i64 d, .int .i64 z] 23)).cell? ⟨w5.heap.size, 1, none⟩ = some (.int .i64 m) :=
    (World.cell?_alloc_past _ _ _ (by simpa [World.setCell] using hsz)).trans ((World.cell?_setCell_other _ ⟨w5.heap.size, 0, none⟩ ⟨w5.heap.size, 1, none⟩ (.int .i64 (y + 400)) (by simp)).trans z1)
  have s2 : ((w6.setCell ⟨w5.heap.size, 0, none⟩ (.int .i64 (y + 400))).alloc (.cells #[.int .i64 (y + 400), .int .i64 m, .int .i64 d, .int .i64 z] 23)).cell? ⟨w5.heap.size, 2, none⟩ = some (.int .i64 d) :=
    (World.cell?_alloc_past _ _ _ (by simpa [World.setCell] using hsz)).trans ((World.cell?_setCell_other _ ⟨w5.heap.size, 0, none⟩ ⟨w5.heap.size, 2, none⟩ (.int .i64 (y + 400)) (by simp)).trans z2)
  have s3 : ((w6.setCell ⟨w5.heap.size, 0, none⟩ (.int .i64 (y + 400))).alloc (.cells #[.int .i64 (y + 400), .int .i64 m, .int .i64 d, .int .i64 z] 23)).cell? ⟨w5.heap.size, 3, none⟩ = some (.int .i64 z) :=
    (World.cell?_alloc_past _ _ _ (by simpa [World.setCell] using hsz)).trans ((World.cell?_setCell_other _ ⟨w5.heap.size, 0, none⟩ ⟨w5.heap.size, 3, none⟩ (.int .i64 (y + 400)) (by simp)).trans z3)
  go_wp2
  go_ret
  exact ⟨rfl, (q6'.setCell (by exact q5s) _).alloc (by simpa [World.setCell] using q6'.size) _⟩

set_option maxHeartbeats 2000000 in
theorem order_lt_out (a b : Int) (y m d z : Int) (y' m' d' z' : Int) (l1 l2 : List UInt8) (w : World) (hT : Tabs w) (n0 : 0 ≤ a) (n1 : b ≤ 16777216) (y0 : 2000 ≤ y) (y1 : y ≤ 3914) (hab : a < b) (hless : Op.bytesLess l1 l2 = true) (hne : (l1 == l2) = false) (hn2 : (a == b) = false)
    (B1 : Hid (hourB y m d z = true)) (N1 : Hid (hourN y m d z = a)) (L1 : Hid (textL y m d z = l1))
    (B2 : Hid (hourB y' m' d' z' = true)) (N2 : Hid (hourN y' m' d' z' = b)) (L2 : Hid (textL y' m' d' z' = l2))
    (hc : 16777216 < a + 3506328)
    (D1 : Hid (dayF a = a / 24)) (D2 : Hid (dayF b = b / 24)) :
    Calls Tryd.prog 6 #[.int .i64 a, .int .i64 b] w fun e w' => e = .returned (.bool true) ∧ Below w.heap.size w w' := by
  go_enter Tryd.func6, Tryd.ntmps6
  go_wp2_with fail
  refine (small_any _ hT).mono ?_
  rintro e w1 ⟨rfl, q1⟩
  have hT1 := hT.below hT.size q1 q1.size
  go_wp2_with fail
  refine (text_v _ _ _ _ _ _ _ hT1 B1.out N1 L1).mono ?_
  rintro e w2 ⟨rfl, hb2⟩
  have hT2 := hT1.below hT1.size hb2 hb2.size
  have q2 := q1.trans (hb2.mono q1.size)
  clear hT1 q1 hb2
  go_wp2_with fail
  refine (text_v _ _ _ _ _ _ _ hT2 B2.out N2 L2).mono ?_
  rintro e w3 ⟨rfl, hb3⟩
  have hT3 := hT2.below hT2.size hb3 hb3.size
  have q3 := q2.trans (hb3.mono q2.size)
  clear hT2 q2 hb3
  go_wp2_with fail
  refine (day_b _ _ _ D1).mono ?_
  rintro e w4 ⟨rfl, rfl⟩
  go_wp2_with fail
  refine (day_b _ _ _ D2).mono ?_
  rintro e w4 ⟨rfl, rfl⟩
  go_wp2_with fail
  refine (of_at _ _ _ _ _ hT3.mon B1.out _ N1).mono ?_
  rintro e w5 ⟨rfl, hb5⟩
  have hT5' := hT3.below hT3.size hb5 hb5.size
  have q5' := q3.trans (hb5.mono q3.size)
  have hT5 := hT5'.alloc (.cells #[.int .i64 y, .int .i64 m, .int .i64 d, .int .i64 z] 23)
  have A5 := At4.new w5 (.int .i64 y) (.int .i64 m) (.int .i64 d) (.int .i64 z) 23
  have F5 := frozen_new w5 #[.int .i64 y, .int .i64 m, .int .i64 d, .int .i64 z] 23
  have q5 := q5'.alloc q5'.size (.cells #[.int .i64 y, .int .i64 m, .int .i64 d, .int .i64 z] 23)
  have q5s := q5'.size
  clear hT3 q3 hb5 hT5' q5'
  go_wp2_with fail
  refine (of_no _ _ (.inr (by omega))).mono ?_
  rintro e w6 ⟨rfl, hb6⟩
  have q6' := q5.trans (hb6.mono q5.size)
  have q6 := q6'.alloc q6'.size (.cells #[.int .i64 0, .int .i64 0, .int .i64 0, .int .i64 0] 23)
  clear hT5 A5 F5 q5 hb6 q6'
  go_wp2
  go_ret
  exact ⟨rfl, q6⟩

set_option maxHeartbeats 2000000 in
theorem order_eq_in (a : Int) (y m d z : Int) (l1 : List UInt8) (w : World) (hT : Tabs w) (n0 : 0 ≤ a) (n1 : a ≤ 16777216) (y0 : 2000 ≤ y) (y1 : y ≤ 3914) (hs : Op.bytesLess l1 l1 = false)
    (B1 : Hid (hourB y m d z = true)) (N1 : Hid (hourN y m d z = a)) (L1 : Hid (textL y m d z = l1))
    
    (hc : a + 3506328 ≤ 16777216) (B3 : Hid (hourB (y + 400) m d z = true)) (N3 : Hid (hourN (y + 400) m d z = a + 3506328))
    (D1 : Hid (dayF a = a / 24)) (D2 : Hid (dayF a = a / 24)) :
    Calls Tryd.prog 6 #[.int .i64 a, .int .i64 a] w fun e w' => e = .returned (.bool true) ∧ Below w.heap.size w w' := by
  go_enter Tryd.func6, Tryd.ntmps6
  go_wp2_with fail
  refine (small_any _ hT).mono ?_
  rintro e w1 ⟨rfl, q1⟩
  have hT1 := hT.below hT.size q1 q1.size
  go_wp2_with fail
  refine (text_v _ _ _ _ _ _ _ hT1 B1.out N1 L1).mono ?_
  rintro e w2 ⟨rfl, hb2⟩
  have hT2 := hT1.below hT1.size hb2 hb2.size
  have q2 := q1.trans (hb2.mono q1.size)
  clear hT1 q1 hb2
  go_wp2_with fail
  refine (text_v _ _ _ _ _ _ _ hT2 B1.out N1 L1).mono ?_
  rintro e w3 ⟨rfl, hb3⟩
  have hT3 := hT2.below hT2.size hb3 hb3.size
  have q3 := q2.trans (hb3.mono q2.size)
  clear hT2 q2 hb3
  go_wp2_with fail
  refine (day_b _ _ _ D1).mono ?_
  rintro e w4 ⟨rfl, rfl⟩
  go_wp2_with fail
  refine (day_b _ _ _ D2).mono ?_
  rintro e w4 ⟨rfl, rfl⟩
  go_wp2_with fail
  refine (of_at _ _ _ _ _ hT3.mon B1.out _ N1).mono ?_
  rintro e w5 ⟨rfl, hb5⟩
  have hT5' := hT3.below hT3.size hb5 hb5.size
  have q5' := q3.trans (hb5.mono q3.size)
  have hT5 := hT5'.alloc (.cells #[.int .i64 y, .int .i64 m, .int .i64 d, .int .i64 z] 23)
  have A5 := At4.new w5 (.int .i64 y) (.int .i64 m) (.int .i64 d) (.int .i64 z) 23
  have F5 := frozen_new w5 #[.int .i64 y, .int .i64 m, .int .i64 d, .int .i64 z] 23
  have q5 := q5'.alloc q5'.size (.cells #[.int .i64 y, .int .i64 m, .int .i64 d, .int .i64 z] 23)
  have q5s := q5'.size
  clear hT3 q3 hb5 hT5' q5'
  go_wp2_with fail
  refine (of_at _ _ _ _ _ hT5.mon B3.out _ N3).mono ?_
  rintro e w6 ⟨rfl, hb6⟩
  have A6' := A5.later hb6
  have F6' : w6.frozen? ⟨w5.heap.size, 0, none⟩ = false := ((bcell hb6).2 _ 0 (by simp)).trans F5
  have q6' := q5.trans (hb6.mono q5.size)
  have hsz : w5.heap.size < w6.heap.size := by have := hb6.size; simp at this; omega
  have hal : Below w6.heap.size w6 (w6.alloc (.cells #[.int .i64 (y + 400), .int .i64 m, .int .i64 d, .int .i64 z] 23)) := (Below.refl _ _).alloc (Nat.le_refl _) _
  have A6 := A6'.later hal
  have F6 : (w6.alloc (.cells #[.int .i64 (y + 400), .int .i64 m, .int .i64 d, .int .i64 z] 23)).frozen? ⟨w5.heap.size, 0, none⟩ = false := ((bcell hal).2 _ 0 hsz).trans F6'
  have C6 := At4.new w6 (.int .i64 (y + 400)) (.int .i64 m) (.int .i64 d) (.int .i64 z) 23
  have q6 := q6'.alloc q6'.size (.cells #[.int .i64 (y + 400), .int .i64 m, .int .i64 d, .int .i64 z] 23)
  obtain ⟨z0, z1, z2, z3⟩ := A6'
  clear hT5 A5 F5 q5 hb6 F6' hal
  obtain ⟨a0, a1, a2, a3⟩ := A6
  have s0 : ((w6.setCell ⟨w5.heap.size, 0, none⟩ (.int .i64 (y + 400))).alloc (.cells #[.int .i64 (y + 400), .int .i64 m, .int .i64 d, .int .i64 z] 23)).cell? ⟨w5.heap.size, 0, none⟩ = some (.int .i64 (y + 400)) :=
    (World.cell?_alloc_past _ _ _ (by simpa [World.setCell] using hsz)).trans (World.cell?_setCell_same _ _ _ z0)
  have s1 : ((w6.setCell ⟨w5.heap.size, 0, none⟩ (.int .i64 (y + 400))).alloc (.cells #[.int .i64 (y + 400), .int .i64 m, .int .i64 d, .int .i64 z] 23)).cell? ⟨w5.heap.size, 1, none⟩ = some (.int .i64 m) :=
    (World.cell?_alloc_past _ _ _ (by simpa [World.setCell] using hsz)).trans ((World.cell?_setCell_other _ ⟨w5.heap.size, 0, none⟩ ⟨w5.heap.size, 1, none⟩ (.int .i64 (y + 400)) (by simp)).trans z1)
  have s2 : ((w6.setCell ⟨w5.heap.size, 0, none⟩ (.int .i64 (y + 400))).alloc (.cells #[.int .i64 (y + 400), .int .i64 m, .int .i64 d, .int .i64 z] 23)).cell? ⟨w5.heap.size, 2, none⟩ = some (.int .i64 d) :=
    (World.cell?_alloc_past _ _ _ (by simpa [World.setCell] using hsz)).trans ((World.cell?_setCell_other _ ⟨w5.heap.size, 0, none⟩ ⟨w5.heap.size, 2, none⟩ (.int .i64 (y + 400)) (by simp)).trans z2)
  have s3 : ((w6.setCell ⟨w5.heap.size, 0, none⟩ (.int .i64 (y + 400))).alloc (.cells #[.int .i64 (y + 400), .int .i64 m, .int .i64 d, .int .i64 z] 23)).cell? ⟨w5.heap.size, 3, none⟩ = some (.int .i64 z) :=
    (World.cell?_alloc_past _ _ _ (by simpa [World.setCell] using hsz)).trans ((World.cell?_setCell_other _ ⟨w5.heap.size, 0, none⟩ ⟨w5.heap.size, 3, none⟩ (.int .i64 (y + 400)) (by simp)).trans z3)
  go_wp2
  go_ret
  exact ⟨rfl, (q6'.setCell (by exact q5s) _).alloc (by simpa [World.setCell] using q6'.size) _⟩

set_option maxHeartbeats 2000000 in
theorem order_eq_out (a : Int) (y m d z : Int) (l1 : List UInt8) (w : World) (hT : Tabs w) (n0 : 0 ≤ a) (n1 : a ≤ 16777216) (y0 : 2000 ≤ y) (y1 : y ≤ 3914) (hs : Op.bytesLess l1 l1 = false)
    (B1 : Hid (hourB y m d z = true)) (N1 : Hid (hourN y m d z = a)) (L1 : Hid (textL y m d z = l1))
    
    (hc : 16777216 < a + 3506328)
    (D1 : Hid (dayF a = a / 24)) (D2 : Hid (dayF a = a / 24)) :
    Calls Tryd.prog 6 #[.int .i64 a, .int .i64 a] w fun e w' => e = .returned (.bool true) ∧ Below w.heap.size w w' := by
  go_enter Tryd.func6, Tryd.ntmps6
  go_wp2_with fail
  refine (small_any _ hT).mono ?_
  rintro e w1 ⟨rfl, q1⟩
  have hT1 := hT.below hT.size q1 q1.size
  go_wp2_with fail
  refine (text_v _ _ _ _ _ _ _ hT1 B1.out N1 L1).mono ?_
  rintro e w2 ⟨rfl, hb2⟩
  have hT2 := hT1.below hT1.size hb2 hb2.size
  have q2 := q1.trans (hb2.mono q1.size)
  clear hT1 q1 hb2
  go_wp2_with fail
  refine (text_v _ _ _ _ _ _ _ hT2 B1.out N1 L1).mono ?_
  rintro e w3 ⟨rfl, hb3⟩
  have hT3 := hT2.below hT2.size hb3 hb3.size
  have q3 := q2.trans (hb3.mono q2.size)
  clear hT2 q2 hb3
  go_wp2_with fail
  refine (day_b _ _ _ D1).mono ?_
  rintro e w4 ⟨rfl, rfl⟩
  go_wp2_with fail
  refine (day_b _ _ _ D2).mono ?_
  rintro e w4 ⟨rfl, rfl⟩
  go_wp2_with fail
  refine (of_at _ _ _ _ _ hT3.mon B1.out _ N1).mono ?_
  rintro e w5 ⟨rfl, hb5⟩
  have hT5' := hT3.below hT3.size hb5 hb5.size
  have q5' := q3.trans (hb5.mono q3.size)
  have hT5 := hT5'.alloc (.cells #[.int .i64 y, .int .i64 m, .int .i64 d, .int .i64 z] 23)
  have A5 := At4.new w5 (.int .i64 y) (.int .i64 m) (.int .i64 d) (.int .i64 z) 23
  have F5 := frozen_new w5 #[.int .i64 y, .int .i64 m, .int .i64 d, .int .i64 z] 23
  have q5 := q5'.alloc q5'.size (.cells #[.int .i64 y, .int .i64 m, .int .i64 d, .int .i64 z] 23)
  have q5s := q5'.size
  clear hT3 q3 hb5 hT5' q5'
  go_wp2_with fail
  refine (of_no _ _ (.inr (by omega))).mono ?_
  rintro e w6 ⟨rfl, hb6⟩
  have q6' := q5.trans (hb6.mono q5.size)
  have q6 := q6'.alloc q6'.size (.cells #[.int .i64 0, .int .i64 0, .int .i64 0, .int .i64 0] 23)
  clear hT5 A5 F5 q5 hb6 q6'
  go_wp2
  go_ret
  exact ⟨rfl, q6⟩

set_option maxHeartbeats 400000 in
theorem order_no (a b : Int) (w : World) (hT : Tabs w) (h : a < 0 ∨ b < a ∨ 16777216 < b) : Calls Tryd.prog 6 #[.int .i64 a, .int .i64 b] w fun e w' => e = .returned (.bool true) ∧ Below w.heap.size w w' := by
  by_cases h1 : a < 0
  · clear h
    go_enter Tryd.func6, Tryd.ntmps6
    go_wp2_with fail
    refine (small_any _ hT).mono ?_
    rintro e w1 ⟨rfl, q1⟩
    go_wp2
    go_ret
    exact ⟨rfl, q1⟩
  · have h1' : 0 ≤ a := by omega
    by_cases h2 : b < a
    · clear h
      go_enter Tryd.func6, Tryd.ntmps6
      go_wp2_with fail
      refine (small_any _ hT).mono ?_
      rintro e w1 ⟨rfl, q1⟩
      go_wp2
      go_ret
      exact ⟨rfl, q1⟩
    · have h2' : a ≤ b := by omega
      have h3 : 16777216 < b := by omega
      clear h
      go_enter Tryd.func6, Tryd.ntmps6
      go_wp2_with fail
      refine (small_any _ hT).mono ?_
      rintro e w1 ⟨rfl, q1⟩
      go_wp2
      go_ret
      exact ⟨rfl, q1⟩

theorem hour_400 {y m d z a : Int} (h : hourB y m d z = true) (hn : hourN y m d z = a) (hc : a + 3506328 ≤ 16777216) : hourB (y + 400) m d z = true ∧ hourN (y + 400) m d z = a + 3506328 := by
  obtain ⟨p0, p1, p2, p3, p4, p5, p6, p7⟩ := of_decide_eq_true h
  rw [hourN_yes h] at hn
  have e := DM.num_400 y m d
  have e2 := DM.len_400 y m
  have hb : hourB (y + 400) m d z = true := decide_eq_true ⟨by omega, p1, p2, p3, by omega, p5, p6, by omega⟩
  exact ⟨hb, by rw [hourN_yes hb]; omega⟩
theorem dayF_in {a : Int} (h0 : 0 ≤ a) (h1 : a ≤ 16777216) : dayF a = a / 24 := by unfold dayF; rw [if_neg (by omega)]

theorem order_any (a b : Int) (w : World) (hT : Tabs w) : Calls Tryd.prog 6 #[.int .i64 a, .int .i64 b] w fun e w' => e = .returned (.bool true) ∧ Below w.heap.size w w' := by
  by_cases h : a < 0 ∨ b < a ∨ 16777216 < b
  · exact order_no a b w hT h
  obtain ⟨y, m, d, hB, hN, hv, hn⟩ := date_exists a w (by omega) (by omega) hT.mon
  have hy0 : 2000 ≤ y := (of_decide_eq_true hB).1
  have bd := DM.num_lt _ _ _ hv
  have hy1 := DM.bef_big (y := y) (by omega)
  have t1 := textVal_of (n := a) (by omega) (by omega) hv hn
  by_cases g : a = b
  · subst g
    by_cases hc : a + 3506328 ≤ 16777216
    · obtain ⟨k1, k2⟩ := hour_400 hB hN hc
      exact order_eq_in a _ _ _ _ _ w hT (by omega) (by omega) hy0 hy1 (less_self _) hB hN rfl hc k1 k2 (dayF_in (by omega) (by omega)) (dayF_in (by omega) (by omega))
    · exact order_eq_out a _ _ _ _ _ w hT (by omega) (by omega) hy0 hy1 (less_self _) hB hN rfl (by omega) (dayF_in (by omega) (by omega)) (dayF_in (by omega) (by omega))
  · obtain ⟨y', m', d', hB', hN', hv', hn'⟩ := date_exists b w (by omega) (by omega) hT.mon
    have t2 := textVal_of (n := b) (by omega) (by omega) hv' hn'
    have hless := hours_less t1 t2 (by omega) (by omega) (by omega)
    have hne : (textL y m d (a % 24) == textL y' m' d' (b % 24)) = false := by
      rw [beq_eq_false_iff_ne]; intro e; rw [e, less_self] at hless; cases hless
    have hn2 : (a == b) = false := by rw [beq_eq_false_iff_ne]; exact g
    by_cases hc : a + 3506328 ≤ 16777216
    · obtain ⟨k1, k2⟩ := hour_400 hB hN hc
      exact order_lt_in a b _ _ _ _ _ _ _ _ _ _ w hT (by omega) (by omega) hy0 hy1 (by omega) hless hne hn2 hB hN rfl hB' hN' rfl hc k1 k2 (dayF_in (by omega) (by omega)) (dayF_in (by omega) (by omega))
    · exact order_lt_out a b _ _ _ _ _ _ _ _ _ _ w hT (by omega) (by omega) hy0 hy1 (by omega) hless hne hn2 hB hN rfl hB' hN' rfl (by omega) (dayF_in (by omega) (by omega)) (dayF_in (by omega) (by omega))
end Go.Proofs.YticjghibdjambaaDoor
