/- Walks of date.Parse. -/
import Derived.Test.YticjghibdjambaaDoorW9
namespace Go.Proofs.YticjghibdjambaaDoor
open Go.RowKit

def pY (l : List UInt8) : Int := numL (l.take 4)
def pM (l : List UInt8) : Int := numL ((l.drop 5).take 2)
def pD (l : List UInt8) : Int := numL ((l.drop 8).take 2)
def pH (l : List UInt8) : Int := numL ((l.drop 11).take 2)
/-- Whether a text is one of an hour, and the hour. -/
def parseB (l : List UInt8) : Bool := decide (l.length = 14 ∧ hourB (pY l) (pM l) (pD l) (pH l) = true ∧ textL (pY l) (pM l) (pD l) (pH l) = l)
def parseN (l : List UInt8) : Int := if parseB l = true then hourN (pY l) (pM l) (pD l) (pH l) else 0

theorem hourN_yes {y m d z : Int} (h : hourB y m d z = true) : hourN y m d z = 24 * DM.num y m d + z := by unfold hourN; rw [if_pos h]
theorem hour_parts {y m d z : Int} (h : hourB y m d z = true) : DM.vld y m d ∧ 0 ≤ hourN y m d z ∧ hourN y m d z ≤ 16777216 ∧ hourN y m d z / 24 = DM.num y m d ∧ hourN y m d z % 24 = z := by
  rw [hourN_yes h]
  obtain ⟨a, b, c, d', e, f, g, i⟩ := of_decide_eq_true h
  have := (DM.num_lt y m d ⟨b, c, d', e⟩).1
  have := DM.bef_nonneg a
  exact ⟨⟨b, c, d', e⟩, by omega, by omega, by omega, by omega⟩

theorem text_at (y m d z : Int) (w : World) (hT : Tabs w) (h : hourB y m d z = true) : Calls Tryd.prog 17 #[.int .i64 (hourN y m d z)] w fun e w' =>
    e = .returned (.string ⟨(textL y m d z).toArray⟩) ∧ Below w.heap.size w w' := by
  obtain ⟨h1, h2, h3, h4, h5⟩ := hour_parts h
  refine (text_yes _ w h2 h3 hT).mono ?_
  rintro e w' ⟨y', m', d', rfl, hv, hn, _, _, hb⟩
  obtain ⟨rfl, rfl, rfl⟩ := DM.num_inj hv h1 (hn.trans h4)
  rw [h5]
  exact ⟨rfl, hb⟩

theorem hour_at (y m d z : Int) (b : Bool) (w : World) (hM : Months w) (h : hourB y m d z = b) :
    Calls Tryd.prog 11 #[.agg #[.int .i64 y, .int .i64 m, .int .i64 d, .int .i64 z]] w fun e w' => e = .returned (.tuple #[.int .i64 (hourN y m d z), .bool b]) ∧ Below w.heap.size w w' := by
  rw [← h]; exact hour_any y m d z w hM

theorem ext_list (s : ByteArray) (a b : Nat) (hab : a ≤ b) (hb : b ≤ s.size) : (s.extract a b).data.toList = (s.data.toList.drop a).take (b - a) := by
  rw [ByteArray.data_extract]
  simp

theorem ext_size (s : ByteArray) (a b : Nat) (hb : b ≤ s.size) : (s.extract a b).size = b - a := by
  rw [ByteArray.size_extract]; omega

def NoParse (w : World) (e : Ending) (w' : World) : Prop := e = .returned (.tuple #[.int .i64 0, .bool false]) ∧ Below w.heap.size w w'
set_option maxHeartbeats 400000 in
theorem parse_short (s : ByteArray) (w : World) (h : s.size ≠ 14) (hs : s.size ≤ 9223372036854775807) : Calls Tryd.prog 15 #[.string s] w (NoParse w) := by
  have h' : ((s.size : Int) != 14) = true := by rw [bne_iff_ne]; omega
  go_enter Tryd.func15, Tryd.ntmps15
  go_wp2
  go_ret2
  exact ⟨rfl, Below.refl _ _⟩

theorem number_at (s : ByteArray) (a b : Nat) (v : Int) (w : World) (hab : a ≤ b) (hb : b ≤ s.size) (h8 : b - a ≤ 8) (h : Hid (numL ((s.data.toList.drop a).take (b - a)) = v)) :
    Calls Tryd.prog 24 #[.string (s.extract a b)] w fun e w' => e = .returned (.int .i64 v) ∧ w = w' := by
  have := number_any (s.extract a b) w (by rw [ext_size s a b hb]; exact h8)
  rw [ext_list s a b hab hb, h.out] at this
  exact this

set_option maxHeartbeats 2000000 in
theorem parse_go1 (s : ByteArray) (w : World) (h : s.size = 14) (hT : Tabs w) (hB : hourB (pY s.data.toList) (pM s.data.toList) (pD s.data.toList) (pH s.data.toList) = false) : Calls Tryd.prog 15 #[.string s] w fun e w' =>
    e = .returned (.tuple #[.int .i64 0, .bool false]) ∧ Below w.heap.size w w' := by
  obtain ⟨y, hy⟩ : ∃ y, pY s.data.toList = y := ⟨_, rfl⟩
  obtain ⟨m, hm⟩ : ∃ y, pM s.data.toList = y := ⟨_, rfl⟩
  obtain ⟨d, hd⟩ : ∃ y, pD s.data.toList = y := ⟨_, rfl⟩
  obtain ⟨z, hz⟩ : ∃ y, pH s.data.toList = y := ⟨_, rfl⟩
  have E : Hid (pY s.data.toList = y ∧ pM s.data.toList = m ∧ pD s.data.toList = d ∧ pH s.data.toList = z) := ⟨hy, hm, hd, hz⟩
  have E1 : Hid (numL ((s.data.toList.drop 0).take (4 - 0)) = y) := hy
  have E2 : Hid (numL ((s.data.toList.drop 5).take (7 - 5)) = m) := hm
  have E3 : Hid (numL ((s.data.toList.drop 8).take (10 - 8)) = d) := hd
  have E4 : Hid (numL ((s.data.toList.drop 11).take (13 - 11)) = z) := hz
  clear hy hm hd hz
  have h0 : 14 ≤ s.size := by omega
  have h9 : s.size ≤ 14 := by omega
  have h' : ((s.size : Int) != 14) = false := by rw [bne_eq_false_iff_eq]; omega
  have i4 : (4 : Int) ≤ (s.size : Int) := by omega
  have i7 : (7 : Int) ≤ (s.size : Int) := by omega
  have i10 : (10 : Int) ≤ (s.size : Int) := by omega
  have i13 : (13 : Int) ≤ (s.size : Int) := by omega
  have hl : Hid (s.data.toList.length = 14) := (by simpa using h : s.data.toList.length = 14)
  clear h
  have HB : Hid (hourB y m d z = false) := by rw [← E.out.1, ← E.out.2.1, ← E.out.2.2.1, ← E.out.2.2.2]; exact hB
  clear hB
  have T1 : ∀ o, Tabs (w.alloc o).drew := fun o => (hT.alloc o).drewN 1
  go_enter Tryd.func15, Tryd.ntmps15
  go_wp2_with fail
  go_region_held3 (fun _ => True)
    (trivial)
    (first | (go_at_call 24; (with_reducible refine (number_at s 0 4 y _ ?_ ?_ ?_ E1).mono ?_); omega; omega; omega; rintro e w' ⟨rfl, rfl⟩) | (go_at_call 24; (with_reducible refine (number_at s 5 7 m _ ?_ ?_ ?_ E2).mono ?_); omega; omega; omega; rintro e w' ⟨rfl, rfl⟩) | (go_at_call 24; (with_reducible refine (number_at s 8 10 d _ ?_ ?_ ?_ E3).mono ?_); omega; omega; omega; rintro e w' ⟨rfl, rfl⟩) | (go_at_call 24; (with_reducible refine (number_at s 11 13 z _ ?_ ?_ ?_ E4).mono ?_); omega; omega; omega; rintro e w' ⟨rfl, rfl⟩) | fail)
  all_goals go_wp2_with (go_at_call 11; (with_reducible refine (hour_at y m d z false _ ?_ HB.out).mono ?_); (exact (T1 _).mon); rintro e w2 ⟨rfl, hb2⟩)
  all_goals go_ret2
  all_goals exact ⟨rfl, (((Below.refl _ _).alloc (Nat.le_refl _) _).drew).trans (hb2.mono (by simp))⟩

set_option maxHeartbeats 2000000 in
theorem parse_go2 (s : ByteArray) (w : World) (h : s.size = 14) (hT : Tabs w) (hB : hourB (pY s.data.toList) (pM s.data.toList) (pD s.data.toList) (pH s.data.toList) = true) (hX : textL (pY s.data.toList) (pM s.data.toList) (pD s.data.toList) (pH s.data.toList) = s.data.toList) : Calls Tryd.prog 15 #[.string s] w fun e w' =>
    e = .returned (.tuple #[.int .i64 (hourN (pY s.data.toList) (pM s.data.toList) (pD s.data.toList) (pH s.data.toList)), .bool true]) ∧ Below w.heap.size w w' := by
  obtain ⟨y, hy⟩ : ∃ y, pY s.data.toList = y := ⟨_, rfl⟩
  obtain ⟨m, hm⟩ : ∃ y, pM s.data.toList = y := ⟨_, rfl⟩
  obtain ⟨d, hd⟩ : ∃ y, pD s.data.toList = y := ⟨_, rfl⟩
  obtain ⟨z, hz⟩ : ∃ y, pH s.data.toList = y := ⟨_, rfl⟩
  have E : Hid (pY s.data.toList = y ∧ pM s.data.toList = m ∧ pD s.data.toList = d ∧ pH s.data.toList = z) := ⟨hy, hm, hd, hz⟩
  have E1 : Hid (numL ((s.data.toList.drop 0).take (4 - 0)) = y) := hy
  have E2 : Hid (numL ((s.data.toList.drop 5).take (7 - 5)) = m) := hm
  have E3 : Hid (numL ((s.data.toList.drop 8).take (10 - 8)) = d) := hd
  have E4 : Hid (numL ((s.data.toList.drop 11).take (13 - 11)) = z) := hz
  clear hy hm hd hz
  have h0 : 14 ≤ s.size := by omega
  have h9 : s.size ≤ 14 := by omega
  have h' : ((s.size : Int) != 14) = false := by rw [bne_eq_false_iff_eq]; omega
  have i4 : (4 : Int) ≤ (s.size : Int) := by omega
  have i7 : (7 : Int) ≤ (s.size : Int) := by omega
  have i10 : (10 : Int) ≤ (s.size : Int) := by omega
  have i13 : (13 : Int) ≤ (s.size : Int) := by omega
  have hl : Hid (s.data.toList.length = 14) := (by simpa using h : s.data.toList.length = 14)
  clear h
  have HB : Hid (hourB y m d z = true) := by rw [← E.out.1, ← E.out.2.1, ← E.out.2.2.1, ← E.out.2.2.2]; exact hB
  have HX : Hid (textL y m d z = s.data.toList) := by rw [← E.out.1, ← E.out.2.1, ← E.out.2.2.1, ← E.out.2.2.2]; exact hX
  rw [E.out.1, E.out.2.1, E.out.2.2.1, E.out.2.2.2]
  clear hB hX
  have T1 : ∀ o, Tabs (w.alloc o).drew := fun o => (hT.alloc o).drewN 1
  go_enter Tryd.func15, Tryd.ntmps15
  go_wp2_with fail
  go_region_held3 (fun _ => True)
    (trivial)
    (first | (go_at_call 24; (with_reducible refine (number_at s 0 4 y _ ?_ ?_ ?_ E1).mono ?_); omega; omega; omega; rintro e w' ⟨rfl, rfl⟩) | (go_at_call 24; (with_reducible refine (number_at s 5 7 m _ ?_ ?_ ?_ E2).mono ?_); omega; omega; omega; rintro e w' ⟨rfl, rfl⟩) | (go_at_call 24; (with_reducible refine (number_at s 8 10 d _ ?_ ?_ ?_ E3).mono ?_); omega; omega; omega; rintro e w' ⟨rfl, rfl⟩) | (go_at_call 24; (with_reducible refine (number_at s 11 13 z _ ?_ ?_ ?_ E4).mono ?_); omega; omega; omega; rintro e w' ⟨rfl, rfl⟩) | fail)
  all_goals go_wp2_with (first | (go_at_call 11; (with_reducible refine (hour_at y m d z true _ ?_ HB.out).mono ?_); (exact (T1 _).mon); rintro e w2 ⟨rfl, hb2⟩; have hB2 := (((Below.refl _ w).alloc (Nat.le_refl _) (.cells #[.int .i64 y, .int .i64 m, .int .i64 d, .int .i64 z] 23)).drew).trans (hb2.mono (by simp))) | (go_at_call 17; (with_reducible refine (text_at y m d z _ ?_ HB.out).mono ?_); (exact hT.below hT.size hB2 hB2.size); rintro e w3 ⟨rfl, hb3⟩; rw [HX.out]) | fail)
  all_goals go_ret2
  all_goals exact ⟨rfl, hB2.trans (hb3.mono hB2.size)⟩

set_option maxHeartbeats 2000000 in
theorem parse_go3 (s : ByteArray) (w : World) (h : s.size = 14) (hT : Tabs w) (hB : hourB (pY s.data.toList) (pM s.data.toList) (pD s.data.toList) (pH s.data.toList) = true) (hX : textL (pY s.data.toList) (pM s.data.toList) (pD s.data.toList) (pH s.data.toList) ≠ s.data.toList) : Calls Tryd.prog 15 #[.string s] w fun e w' =>
    e = .returned (.tuple #[.int .i64 0, .bool false]) ∧ Below w.heap.size w w' := by
  obtain ⟨y, hy⟩ : ∃ y, pY s.data.toList = y := ⟨_, rfl⟩
  obtain ⟨m, hm⟩ : ∃ y, pM s.data.toList = y := ⟨_, rfl⟩
  obtain ⟨d, hd⟩ : ∃ y, pD s.data.toList = y := ⟨_, rfl⟩
  obtain ⟨z, hz⟩ : ∃ y, pH s.data.toList = y := ⟨_, rfl⟩
  have E : Hid (pY s.data.toList = y ∧ pM s.data.toList = m ∧ pD s.data.toList = d ∧ pH s.data.toList = z) := ⟨hy, hm, hd, hz⟩
  have E1 : Hid (numL ((s.data.toList.drop 0).take (4 - 0)) = y) := hy
  have E2 : Hid (numL ((s.data.toList.drop 5).take (7 - 5)) = m) := hm
  have E3 : Hid (numL ((s.data.toList.drop 8).take (10 - 8)) = d) := hd
  have E4 : Hid (numL ((s.data.toList.drop 11).take (13 - 11)) = z) := hz
  clear hy hm hd hz
  have h0 : 14 ≤ s.size := by omega
  have h9 : s.size ≤ 14 := by omega
  have h' : ((s.size : Int) != 14) = false := by rw [bne_eq_false_iff_eq]; omega
  have i4 : (4 : Int) ≤ (s.size : Int) := by omega
  have i7 : (7 : Int) ≤ (s.size : Int) := by omega
  have i10 : (10 : Int) ≤ (s.size : Int) := by omega
  have i13 : (13 : Int) ≤ (s.size : Int) := by omega
  have hl : Hid (s.data.toList.length = 14) := (by simpa using h : s.data.toList.length = 14)
  clear h
  have HB : Hid (hourB y m d z = true) := by rw [← E.out.1, ← E.out.2.1, ← E.out.2.2.1, ← E.out.2.2.2]; exact hB
  obtain ⟨x, hx⟩ : ∃ x, textL y m d z = x := ⟨_, rfl⟩
  have HX : Hid (textL y m d z = x) := hx
  have HN : Hid (x ≠ s.data.toList) := by rw [← hx, ← E.out.1, ← E.out.2.1, ← E.out.2.2.1, ← E.out.2.2.2]; exact hX
  have hxs : (x == s.toList) = false := by rw [beq_eq_false_iff_ne, Lib.toList_data]; exact HN.out
  clear hx
  clear hB hX
  have T1 : ∀ o, Tabs (w.alloc o).drew := fun o => (hT.alloc o).drewN 1
  go_enter Tryd.func15, Tryd.ntmps15
  go_wp2_with fail
  go_region_held3 (fun _ => True)
    (trivial)
    (first | (go_at_call 24; (with_reducible refine (number_at s 0 4 y _ ?_ ?_ ?_ E1).mono ?_); omega; omega; omega; rintro e w' ⟨rfl, rfl⟩) | (go_at_call 24; (with_reducible refine (number_at s 5 7 m _ ?_ ?_ ?_ E2).mono ?_); omega; omega; omega; rintro e w' ⟨rfl, rfl⟩) | (go_at_call 24; (with_reducible refine (number_at s 8 10 d _ ?_ ?_ ?_ E3).mono ?_); omega; omega; omega; rintro e w' ⟨rfl, rfl⟩) | (go_at_call 24; (with_reducible refine (number_at s 11 13 z _ ?_ ?_ ?_ E4).mono ?_); omega; omega; omega; rintro e w' ⟨rfl, rfl⟩) | fail)
  all_goals go_wp2_with (first | (go_at_call 11; (with_reducible refine (hour_at y m d z true _ ?_ HB.out).mono ?_); (exact (T1 _).mon); rintro e w2 ⟨rfl, hb2⟩; have hB2 := (((Below.refl _ w).alloc (Nat.le_refl _) (.cells #[.int .i64 y, .int .i64 m, .int .i64 d, .int .i64 z] 23)).drew).trans (hb2.mono (by simp))) | (go_at_call 17; (with_reducible refine (text_at y m d z _ ?_ HB.out).mono ?_); (exact hT.below hT.size hB2 hB2.size); rintro e w3 ⟨rfl, hb3⟩; rw [HX.out]) | fail)
  all_goals go_ret2
  all_goals exact ⟨rfl, hB2.trans (hb3.mono hB2.size)⟩


theorem parse_any (s : ByteArray) (w : World) (hT : Tabs w) (hs : s.size ≤ 9223372036854775807) : Calls Tryd.prog 15 #[.string s] w fun e w' =>
    e = .returned (.tuple #[.int .i64 (parseN s.data.toList), .bool (parseB s.data.toList)]) ∧ Below w.heap.size w w' := by
  have no : parseB s.data.toList = false → Ending.returned (.tuple #[.int .i64 0, .bool false]) = Ending.returned (.tuple #[.int .i64 (parseN s.data.toList), .bool (parseB s.data.toList)]) := by
    intro e; unfold parseN; rw [e]; rfl
  have hl : s.data.toList.length = s.size := by simp
  by_cases h : s.size = 14
  · cases hB : hourB (pY s.data.toList) (pM s.data.toList) (pD s.data.toList) (pH s.data.toList)
    · refine (parse_go1 s w h hT hB).mono fun e w' ⟨he, hw⟩ => ⟨he.trans (no (decide_eq_false ?_)), hw⟩
      rintro ⟨_, h2, _⟩; rw [hB] at h2; cases h2
    · by_cases hX : textL (pY s.data.toList) (pM s.data.toList) (pD s.data.toList) (pH s.data.toList) = s.data.toList
      · have hP : parseB s.data.toList = true := decide_eq_true ⟨by omega, hB, hX⟩
        refine (parse_go2 s w h hT hB hX).mono fun e w' ⟨he, hw⟩ => ⟨he.trans ?_, hw⟩
        unfold parseN; rw [hP]; rfl
      · refine (parse_go3 s w h hT hB hX).mono fun e w' ⟨he, hw⟩ => ⟨he.trans (no (decide_eq_false ?_)), hw⟩
        rintro ⟨_, _, h3⟩; exact hX h3
  · refine (parse_short s w h hs).mono fun e w' ⟨he, hw⟩ => ⟨he.trans (no (decide_eq_false ?_)), hw⟩
    rintro ⟨h1, _⟩; omega
end Go.Proofs.YticjghibdjambaaDoor
