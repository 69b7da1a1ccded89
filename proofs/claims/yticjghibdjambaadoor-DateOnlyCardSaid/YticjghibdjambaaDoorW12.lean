/- The reference's Parse past its first test. -/
import Derived.Test.YticjghibdjambaaDoorW11
namespace Go.Proofs.YticjghibdjambaaDoor
open Go.RowKit

theorem alloc_drewN (w : World) (n : Nat) (o : Obj) : (w.drewN n).alloc o = (w.alloc o).drewN n := rfl
theorem setCell_drewN (w : World) (n : Nat) (a : Addr) (v : Value) : (w.drewN n).setCell a v = (w.setCell a v).drewN n := rfl
theorem shape_drewN (w : World) (n : Nat) (r : Nat) : (w.drewN n).shape? r = w.shape? r := rfl
attribute [local go_sem] alloc_drewN setCell_drewN shape_drewN

set_option maxHeartbeats 2000000 in
theorem rparse_go (s : ByteArray) (w : World) (h0 : 14 ≤ s.size) (h9 : s.size ≤ 14) (k4 : (s[4].toNat : Int) = 45) (k7 : (s[7].toNat : Int) = 45) (k10 : (s[10].toNat : Int) = 32) (k13 : (s[13].toNat : Int) = 104)
    (ha : 0 ≤ pA s.data.toList) (hb : 0 ≤ pB s.data.toList) (ha9 : pA s.data.toList ≤ 99) (hb9 : pB s.data.toList ≤ 99) :
    Calls Tryd.prog 16 #[.string s] w fun e w' =>
      e = .returned (.tuple #[.int .i64 (hourN (100 * pA s.data.toList + pB s.data.toList) (pM s.data.toList) (pD s.data.toList) (pH s.data.toList)), .bool (hourB (100 * pA s.data.toList + pB s.data.toList) (pM s.data.toList) (pD s.data.toList) (pH s.data.toList))]) ∧ Below w.heap.size w w' := by
  have h' : ((s.size : Int) != 14) = false := by rw [bne_eq_false_iff_eq]; omega
  have b4 : ((s[4].toNat : Int) != 45) = false := by rw [bne_eq_false_iff_eq]; exact k4
  clear k4
  have b7 : ((s[7].toNat : Int) != 45) = false := by rw [bne_eq_false_iff_eq]; exact k7
  clear k7
  have b10 : ((s[10].toNat : Int) != 32) = false := by rw [bne_eq_false_iff_eq]; exact k10
  clear k10
  have b13 : ((s[13].toNat : Int) != 104) = false := by rw [bne_eq_false_iff_eq]; exact k13
  clear k13
  obtain ⟨ya, hya⟩ : ∃ y, pA s.data.toList = y := ⟨_, rfl⟩
  obtain ⟨yb, hyb⟩ : ∃ y, pB s.data.toList = y := ⟨_, rfl⟩
  obtain ⟨m, hm⟩ : ∃ y, pM s.data.toList = y := ⟨_, rfl⟩
  obtain ⟨d, hd⟩ : ∃ y, pD s.data.toList = y := ⟨_, rfl⟩
  obtain ⟨z, hz⟩ : ∃ y, pH s.data.toList = y := ⟨_, rfl⟩
  rw [hya] at ha ha9 ⊢
  rw [hyb] at hb hb9 ⊢
  rw [hm, hd, hz]
  have E1 : Hid (numL ((s.data.toList.drop 0).take 2) = ya) := hya
  have E2 : Hid (numL ((s.data.toList.drop 2).take 2) = yb) := hyb
  have E3 : Hid (numL ((s.data.toList.drop 5).take 2) = m) := hm
  have E4 : Hid (numL ((s.data.toList.drop 8).take 2) = d) := hd
  have E5 : Hid (numL ((s.data.toList.drop 11).take 2) = z) := hz
  clear hya hyb hm hd hz
  have i2 : (2 : Int) ≤ (s.size : Int) := by omega
  have i4 : (4 : Int) ≤ (s.size : Int) := by omega
  have i7 : (7 : Int) ≤ (s.size : Int) := by omega
  have i10 : (10 : Int) ≤ (s.size : Int) := by omega
  have i13 : (13 : Int) ≤ (s.size : Int) := by omega
  go_enter Tryd.func16, Tryd.ntmps16
  go_wp2_with (first | (go_at_call 25; (with_reducible refine (rnumber_at s 0 2 _ _ ?_ ?_ E1).mono ?_); omega; omega; rintro e w1 ⟨rfl, k1, rfl⟩) | (go_at_call 25; (with_reducible refine (rnumber_at s 2 4 _ _ ?_ ?_ E2).mono ?_); omega; omega; rintro e w2 ⟨rfl, k2, rfl⟩) | fail)
  have v1 : IntKind.i64.wrap (100 * ya) = 100 * ya := by rw [IntKind.wrap_i64]; omega
  have v2 : IntKind.i64.wrap (100 * ya + yb) = 100 * ya + yb := by rw [IntKind.wrap_i64]; omega
  go_region_held3 (fun _ => True)
    (trivial)
    (first | (go_at_call 25; (with_reducible refine (rnumber_at s 5 7 m _ ?_ ?_ E3).mono ?_); clear v1 v2; omega; clear v1 v2; omega; rintro e w3 ⟨rfl, k3, rfl⟩) | (go_at_call 25; (with_reducible refine (rnumber_at s 8 10 d _ ?_ ?_ E4).mono ?_); clear v1 v2; omega; clear v1 v2; omega; rintro e w3 ⟨rfl, k3, rfl⟩) | (go_at_call 25; (with_reducible refine (rnumber_at s 11 13 z _ ?_ ?_ E5).mono ?_); clear v1 v2; omega; clear v1 v2; omega; rintro e w3 ⟨rfl, k3, rfl⟩) | fail)
  all_goals clear v1 v2
  all_goals go_wp2_with (go_at_call 12; (with_reducible refine (rhour_any _ _ _ _ _).mono ?_); rintro e w4 ⟨rfl, hb4⟩)
  all_goals go_ret2
  all_goals exact ⟨rfl, (below_drewN ((Below.refl _ _).alloc (Nat.le_refl _) _) _).trans (hb4.mono (by simp))⟩

set_option maxHeartbeats 2000000 in
theorem rparse_neg1 (s : ByteArray) (w : World) (h0 : 14 ≤ s.size) (h9 : s.size ≤ 14) (k4 : (s[4].toNat : Int) = 45) (k7 : (s[7].toNat : Int) = 45) (k10 : (s[10].toNat : Int) = 32) (k13 : (s[13].toNat : Int) = 104)
    (ha : pA s.data.toList = -1) (hb : -1 ≤ pB s.data.toList) (hb9 : pB s.data.toList ≤ 99) : Calls Tryd.prog 16 #[.string s] w (NoParse w) := by
  have h' : ((s.size : Int) != 14) = false := by rw [bne_eq_false_iff_eq]; omega
  have b4 : ((s[4].toNat : Int) != 45) = false := by rw [bne_eq_false_iff_eq]; exact k4
  clear k4
  have b7 : ((s[7].toNat : Int) != 45) = false := by rw [bne_eq_false_iff_eq]; exact k7
  clear k7
  have b10 : ((s[10].toNat : Int) != 32) = false := by rw [bne_eq_false_iff_eq]; exact k10
  clear k10
  have b13 : ((s[13].toNat : Int) != 104) = false := by rw [bne_eq_false_iff_eq]; exact k13
  clear k13
  obtain ⟨ya, hya⟩ : ∃ y, pA s.data.toList = y := ⟨_, rfl⟩
  obtain ⟨yb, hyb⟩ : ∃ y, pB s.data.toList = y := ⟨_, rfl⟩
  obtain ⟨m, hm⟩ : ∃ y, pM s.data.toList = y := ⟨_, rfl⟩
  obtain ⟨d, hd⟩ : ∃ y, pD s.data.toList = y := ⟨_, rfl⟩
  obtain ⟨z, hz⟩ : ∃ y, pH s.data.toList = y := ⟨_, rfl⟩
  rw [hya] at ha
  rw [hyb] at hb hb9
  subst ha
  have E1 : Hid (numL ((s.data.toList.drop 0).take 2) = -1) := hya
  have E2 : Hid (numL ((s.data.toList.drop 2).take 2) = yb) := hyb
  have E3 : Hid (numL ((s.data.toList.drop 5).take 2) = m) := hm
  have E4 : Hid (numL ((s.data.toList.drop 8).take 2) = d) := hd
  have E5 : Hid (numL ((s.data.toList.drop 11).take 2) = z) := hz
  clear hya hyb hm hd hz
  have i2 : (2 : Int) ≤ (s.size : Int) := by omega
  have i4 : (4 : Int) ≤ (s.size : Int) := by omega
  have i7 : (7 : Int) ≤ (s.size : Int) := by omega
  have i10 : (10 : Int) ≤ (s.size : Int) := by omega
  have i13 : (13 : Int) ≤ (s.size : Int) := by omega
  go_enter Tryd.func16, Tryd.ntmps16
  go_wp2_with (first | (go_at_call 25; (with_reducible refine (rnumber_at s 0 2 _ _ ?_ ?_ E1).mono ?_); omega; omega; rintro e w1 ⟨rfl, k1, rfl⟩) | (go_at_call 25; (with_reducible refine (rnumber_at s 2 4 _ _ ?_ ?_ E2).mono ?_); omega; omega; rintro e w2 ⟨rfl, k2, rfl⟩) | fail)
  have v1 : IntKind.i64.wrap (-100) = -100 := by rw [IntKind.wrap_i64]; omega
  have v2 : IntKind.i64.wrap (-100 + yb) = -100 + yb := by rw [IntKind.wrap_i64]; omega
  go_region_held3 (fun _ => True)
    (trivial)
    (first | (go_at_call 25; (with_reducible refine (rnumber_at s 5 7 m _ ?_ ?_ E3).mono ?_); clear v1 v2; omega; clear v1 v2; omega; rintro e w3 ⟨rfl, k3, rfl⟩) | (go_at_call 25; (with_reducible refine (rnumber_at s 8 10 d _ ?_ ?_ E4).mono ?_); clear v1 v2; omega; clear v1 v2; omega; rintro e w3 ⟨rfl, k3, rfl⟩) | (go_at_call 25; (with_reducible refine (rnumber_at s 11 13 z _ ?_ ?_ E5).mono ?_); clear v1 v2; omega; clear v1 v2; omega; rintro e w3 ⟨rfl, k3, rfl⟩) | fail)
  all_goals clear v1 v2
  all_goals go_wp2
  all_goals go_ret2
  all_goals exact ⟨rfl, below_drewN ((Below.refl _ _).alloc (Nat.le_refl _) _) _⟩

set_option maxHeartbeats 2000000 in
theorem rparse_neg2 (s : ByteArray) (w : World) (h0 : 14 ≤ s.size) (h9 : s.size ≤ 14) (k4 : (s[4].toNat : Int) = 45) (k7 : (s[7].toNat : Int) = 45) (k10 : (s[10].toNat : Int) = 32) (k13 : (s[13].toNat : Int) = 104)
    (ha : 0 ≤ pA s.data.toList) (ha9 : pA s.data.toList ≤ 99) (hb : pB s.data.toList = -1) : Calls Tryd.prog 16 #[.string s] w (NoParse w) := by
  have h' : ((s.size : Int) != 14) = false := by rw [bne_eq_false_iff_eq]; omega
  have b4 : ((s[4].toNat : Int) != 45) = false := by rw [bne_eq_false_iff_eq]; exact k4
  clear k4
  have b7 : ((s[7].toNat : Int) != 45) = false := by rw [bne_eq_false_iff_eq]; exact k7
  clear k7
  have b10 : ((s[10].toNat : Int) != 32) = false := by rw [bne_eq_false_iff_eq]; exact k10
  clear k10
  have b13 : ((s[13].toNat : Int) != 104) = false := by rw [bne_eq_false_iff_eq]; exact k13
  clear k13
  obtain ⟨ya, hya⟩ : ∃ y, pA s.data.toList = y := ⟨_, rfl⟩
  obtain ⟨yb, hyb⟩ : ∃ y, pB s.data.toList = y := ⟨_, rfl⟩
  obtain ⟨m, hm⟩ : ∃ y, pM s.data.toList = y := ⟨_, rfl⟩
  obtain ⟨d, hd⟩ : ∃ y, pD s.data.toList = y := ⟨_, rfl⟩
  obtain ⟨z, hz⟩ : ∃ y, pH s.data.toList = y := ⟨_, rfl⟩
  rw [hya] at ha ha9
  rw [hyb] at hb
  subst hb
  have E1 : Hid (numL ((s.data.toList.drop 0).take 2) = ya) := hya
  have E2 : Hid (numL ((s.data.toList.drop 2).take 2) = -1) := hyb
  have E3 : Hid (numL ((s.data.toList.drop 5).take 2) = m) := hm
  have E4 : Hid (numL ((s.data.toList.drop 8).take 2) = d) := hd
  have E5 : Hid (numL ((s.data.toList.drop 11).take 2) = z) := hz
  clear hya hyb hm hd hz
  have i2 : (2 : Int) ≤ (s.size : Int) := by omega
  have i4 : (4 : Int) ≤ (s.size : Int) := by omega
  have i7 : (7 : Int) ≤ (s.size : Int) := by omega
  have i10 : (10 : Int) ≤ (s.size : Int) := by omega
  have i13 : (13 : Int) ≤ (s.size : Int) := by omega
  go_enter Tryd.func16, Tryd.ntmps16
  go_wp2_with (first | (go_at_call 25; (with_reducible refine (rnumber_at s 0 2 _ _ ?_ ?_ E1).mono ?_); omega; omega; rintro e w1 ⟨rfl, k1, rfl⟩) | (go_at_call 25; (with_reducible refine (rnumber_at s 2 4 _ _ ?_ ?_ E2).mono ?_); omega; omega; rintro e w2 ⟨rfl, k2, rfl⟩) | fail)
  have v1 : IntKind.i64.wrap (100 * ya) = 100 * ya := by rw [IntKind.wrap_i64]; omega
  have v2 : IntKind.i64.wrap (100 * ya + -1) = 100 * ya + -1 := by rw [IntKind.wrap_i64]; omega
  go_region_held3 (fun _ => True)
    (trivial)
    (first | (go_at_call 25; (with_reducible refine (rnumber_at s 5 7 m _ ?_ ?_ E3).mono ?_); clear v1 v2; omega; clear v1 v2; omega; rintro e w3 ⟨rfl, k3, rfl⟩) | (go_at_call 25; (with_reducible refine (rnumber_at s 8 10 d _ ?_ ?_ E4).mono ?_); clear v1 v2; omega; clear v1 v2; omega; rintro e w3 ⟨rfl, k3, rfl⟩) | (go_at_call 25; (with_reducible refine (rnumber_at s 11 13 z _ ?_ ?_ E5).mono ?_); clear v1 v2; omega; clear v1 v2; omega; rintro e w3 ⟨rfl, k3, rfl⟩) | fail)
  all_goals clear v1 v2
  all_goals go_wp2
  all_goals go_ret2
  all_goals exact ⟨rfl, below_drewN ((Below.refl _ _).alloc (Nat.le_refl _) _) _⟩

theorem num2_bd (l : List UInt8) (h : l.length = 2) : -1 ≤ numL l ∧ numL l ≤ 99 := by
  match l, h with
  | [x, y], _ =>
    rw [num2l]; split <;> omega
theorem rparse_any (s : ByteArray) (w : World) (hs : s.size ≤ 9223372036854775807) : Calls Tryd.prog 16 #[.string s] w fun e w' =>
    e = .returned (.tuple #[.int .i64 (parseN s.data.toList), .bool (parseB s.data.toList)]) ∧ Below w.heap.size w w' := by
  have no : parseB s.data.toList = false → Ending.returned (.tuple #[.int .i64 0, .bool false]) = Ending.returned (.tuple #[.int .i64 (parseN s.data.toList), .bool (parseB s.data.toList)]) := by
    intro e; unfold parseN; rw [e]; rfl
  have hl : s.data.toList.length = s.size := by simp
  have nb : ∀ p : Prop, ¬ p → (parseB s.data.toList = true → p) → parseB s.data.toList = false := by
    intro p np hp; rcases hb : parseB s.data.toList with _ | _
    · rfl
    · exact absurd (hp hb) np
  by_cases h : s.size = 14
  case neg =>
    refine (rparse_short s w h hs).mono fun e w' ⟨he, hw⟩ => ⟨he.trans (no (decide_eq_false ?_)), hw⟩
    rintro ⟨h1, _⟩; omega
  have h0 : 14 ≤ s.size := by omega
  have h9 : s.size ≤ 14 := by omega
  have q4 := at_list s 4 (by omega) 45
  have q7 := at_list s 7 (by omega) 45
  have q10 := at_list s 10 (by omega) 32
  have q13 := at_list s 13 (by omega) 104
  rw [byte_int] at q4 q7 q10 q13
  by_cases k4 : (s[4].toNat : Int) = 45
  case neg => exact (rparse_sep1 s w h0 h9 k4).mono fun e w' ⟨he, hw⟩ => ⟨he.trans (no (nb _ k4 fun hp => q4.1 (parse_yes hp).1.1)), hw⟩
  by_cases k7 : (s[7].toNat : Int) = 45
  case neg => exact (rparse_sep2 s w h0 h9 k4 k7).mono fun e w' ⟨he, hw⟩ => ⟨he.trans (no (nb _ k7 fun hp => q7.1 (parse_yes hp).1.2.1)), hw⟩
  by_cases k10 : (s[10].toNat : Int) = 32
  case neg => exact (rparse_sep3 s w h0 h9 k4 k7 k10).mono fun e w' ⟨he, hw⟩ => ⟨he.trans (no (nb _ k10 fun hp => q10.1 (parse_yes hp).1.2.2.1)), hw⟩
  by_cases k13 : (s[13].toNat : Int) = 104
  case neg => exact (rparse_sep4 s w h0 h9 k4 k7 k10 k13).mono fun e w' ⟨he, hw⟩ => ⟨he.trans (no (nb _ k13 fun hp => q13.1 (parse_yes hp).1.2.2.2)), hw⟩
  have bA := num2_bd (s.data.toList.take 2) (by simp; omega)
  have bB := num2_bd ((s.data.toList.drop 2).take 2) (by simp; omega)
  have bA : -1 ≤ pA s.data.toList ∧ pA s.data.toList ≤ 99 := bA
  have bB : -1 ≤ pB s.data.toList ∧ pB s.data.toList ≤ 99 := bB
  by_cases ha : 0 ≤ pA s.data.toList
  case neg => exact (rparse_neg1 s w h0 h9 k4 k7 k10 k13 (by omega) bB.1 bB.2).mono fun e w' ⟨he, hw⟩ => ⟨he.trans (no (nb _ ha fun hp => (parse_yes hp).2.1)), hw⟩
  by_cases hb : 0 ≤ pB s.data.toList
  case neg => exact (rparse_neg2 s w h0 h9 k4 k7 k10 k13 ha bA.2 (by omega)).mono fun e w' ⟨he, hw⟩ => ⟨he.trans (no (nb _ hb fun hp => (parse_yes hp).2.2)), hw⟩
  obtain ⟨e1, e2⟩ := parse_iff (by omega) ⟨q4.2 k4, q7.2 k7, q10.2 k10, q13.2 k13⟩ ha hb
  rw [e1, e2]
  exact rparse_go s w h0 h9 k4 k7 k10 k13 ha hb bA.2 bB.2
end Go.Proofs.YticjghibdjambaaDoor
