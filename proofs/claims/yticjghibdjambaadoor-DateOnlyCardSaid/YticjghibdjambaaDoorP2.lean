/- Plain laws of the order of the texts of hours, of the next day, and of the same day 400 years later. -/
import Derived.Test.YticjghibdjambaaDoorL2
namespace Go.Proofs.YticjghibdjambaaDoor

theorem u8_lt (a b : Nat) (ha : a < 256) (hb : b < 256) : (UInt8.ofNat a < UInt8.ofNat b) ↔ a < b := by
  rw [UInt8.lt_iff_toNat_lt, byte_of a ha, byte_of b hb]
theorem u8_eq (a b : Nat) (ha : a < 256) (hb : b < 256) : (UInt8.ofNat a = UInt8.ofNat b) ↔ a = b := by
  rw [← UInt8.toNat_inj, byte_of a ha, byte_of b hb]
theorem less_cons (c : UInt8) (r s : List UInt8) : Op.bytesLess (c :: r) (c :: s) = Op.bytesLess r s := by
  simp [Op.bytesLess]
theorem less_dig2_lt (a b : Int) (r s : List UInt8) (a0 : 0 ≤ a) (b1 : b ≤ 99) (h : a < b) : Op.bytesLess (dig2 a ++ r) (dig2 b ++ s) = true := by
  simp only [dig2, List.cons_append, List.nil_append, Op.bytesLess]
  have e1 := u8_lt (48 + (a / 10).toNat) (48 + (b / 10).toNat) (by omega) (by omega)
  have e2 := u8_eq (48 + (a / 10).toNat) (48 + (b / 10).toNat) (by omega) (by omega)
  have e3 := u8_lt (48 + (a % 10).toNat) (48 + (b % 10).toNat) (by omega) (by omega)
  by_cases g : a / 10 < b / 10
  · have : UInt8.ofNat (48 + (a / 10).toNat) < UInt8.ofNat (48 + (b / 10).toNat) := e1.2 (by omega)
    simp only [this, decide_true, Bool.true_or]
  · have h1 : UInt8.ofNat (48 + (a / 10).toNat) = UInt8.ofNat (48 + (b / 10).toNat) := e2.2 (by omega)
    have h2 : UInt8.ofNat (48 + (a % 10).toNat) < UInt8.ofNat (48 + (b % 10).toNat) := e3.2 (by omega)
    simp only [h1, h2, decide_true, Bool.true_or, beq_self_eq_true, Bool.and_true, Bool.or_true]
theorem less_dig2_eq (a : Int) (r s : List UInt8) : Op.bytesLess (dig2 a ++ r) (dig2 a ++ s) = Op.bytesLess r s := by
  simp only [dig2, List.cons_append, List.nil_append, less_cons]
theorem textL_eq (y m d h : Int) : textL y m d h = dig2 (y / 100) ++ (dig2 (y % 100) ++ (45 :: (dig2 m ++ (45 :: (dig2 d ++ (32 :: (dig2 h ++ [104]))))))) := by
  simp [textL]
theorem text_less {y m d h y' m' d' h' : Int} (y0 : 0 ≤ y) (y1 : y' ≤ 9999) (m0 : 0 ≤ m) (m1 : m' ≤ 99) (d0 : 0 ≤ d) (d1 : d' ≤ 99) (h0 : 0 ≤ h) (h1 : h' ≤ 99)
    (hl : y < y' ∨ y = y' ∧ (m < m' ∨ m = m' ∧ (d < d' ∨ d = d' ∧ h < h'))) : Op.bytesLess (textL y m d h) (textL y' m' d' h') = true := by
  rw [textL_eq, textL_eq]
  rcases hl with g | ⟨rfl, g | ⟨rfl, g | ⟨rfl, g⟩⟩⟩
  · by_cases k : y / 100 < y' / 100
    · exact less_dig2_lt _ _ _ _ (by omega) (by omega) k
    · rw [show y' / 100 = y / 100 by omega, less_dig2_eq]
      exact less_dig2_lt _ _ _ _ (by omega) (by omega) (by omega)
  · rw [less_dig2_eq, less_dig2_eq, less_cons]
    exact less_dig2_lt _ _ _ _ m0 m1 g
  · rw [less_dig2_eq, less_dig2_eq, less_cons, less_dig2_eq, less_cons]
    exact less_dig2_lt _ _ _ _ d0 d1 g
  · rw [less_dig2_eq, less_dig2_eq, less_cons, less_dig2_eq, less_cons, less_dig2_eq, less_cons]
    exact less_dig2_lt _ _ _ _ h0 h1 g
theorem less_self (l : List UInt8) : Op.bytesLess l l = false := by
  induction l with
  | nil => rfl
  | cons a l ih => rw [less_cons]; exact ih
theorem lex_of {y m d y' m' d' : Int} (h : DM.vld y m d) (h' : DM.vld y' m' d') (hl : DM.num y m d < DM.num y' m' d') : y < y' ∨ y = y' ∧ (m < m' ∨ m = m' ∧ d < d') := by
  have a := DM.num_lt _ _ _ h
  have b := DM.num_lt _ _ _ h'
  obtain ⟨p1, p2, p3, p4⟩ := h
  obtain ⟨q1, q2, q3, q4⟩ := h'
  rcases Int.lt_trichotomy y y' with c | c | c
  · exact .inl c
  · subst c
    refine .inr ⟨rfl, ?_⟩
    unfold DM.num at hl
    rcases Int.lt_trichotomy m m' with c | c | c
    · exact .inl c
    · subst c; exact .inr ⟨rfl, by omega⟩
    · have := DM.cum_lt (y := y) q1 p2 c; omega
  · have := DM.bef_le c; omega

/-- The texts of two hours that have dates are ordered as the hours. -/
theorem hours_less {a b : Int} {la lb : List UInt8} (ha : TextVal a la) (hb : TextVal b lb) (a0 : 0 ≤ a) (hlt : a < b) (b1 : b ≤ 16777216) : Op.bytesLess la lb = true := by
  rcases ha with ⟨_, g⟩ | ⟨_, _, y, m, d, rfl, hv, hn⟩
  · exfalso; omega
  · rcases hb with ⟨_, g⟩ | ⟨_, _, y', m', d', rfl, kv, kn⟩
    · exfalso; omega
    · have bd := DM.num_lt _ _ _ hv
      have bd' := DM.num_lt _ _ _ kv
      have l1 := DM.len_bd y m
      have l2 := DM.len_bd y' m'
      have hy' := DM.bef_big (y := y') (by omega)
      have hy : 0 ≤ y := by
        rcases Int.lt_or_le y 0 with g | g
        · have := DM.bef_mono (y := y + 1) (z := 0) (by omega)
          have e : DM.bef 0 ≤ -700000 := by unfold DM.bef; omega
          omega
        · exact g
      have hv' := hv
      have kv' := kv
      obtain ⟨p1, p2, p3, p4⟩ := hv
      obtain ⟨q1, q2, q3, q4⟩ := kv
      refine text_less hy (by omega) (by omega) (by omega) (by omega) (by omega) (by omega) (by omega) ?_
      by_cases g : a / 24 < b / 24
      · rcases lex_of hv' kv' (by omega) with k | ⟨k0, k | ⟨k, k2⟩⟩
        · exact .inl k
        · exact .inr ⟨k0, .inl k⟩
        · exact .inr ⟨k0, .inr ⟨k, .inl k2⟩⟩
      · obtain ⟨rfl, rfl, rfl⟩ := DM.num_inj hv' kv' (by omega)
        exact .inr ⟨rfl, .inr ⟨rfl, .inr ⟨rfl, by omega⟩⟩⟩

/-- The date of the next day. -/
theorem next_day {y m d y' m' d' : Int} (h : DM.vld y m d) (h' : DM.vld y' m' d') (e : DM.num y' m' d' = DM.num y m d + 1) :
    (d < DM.len y m ∧ y' = y ∧ m' = m ∧ d' = d + 1) ∨ (d = DM.len y m ∧ m < 12 ∧ y' = y ∧ m' = m + 1 ∧ d' = 1) ∨ (m = 12 ∧ d = 31 ∧ y' = y + 1 ∧ m' = 1 ∧ d' = 1) := by
  obtain ⟨p1, p2, p3, p4⟩ := h
  by_cases c : d < DM.len y m
  · obtain ⟨rfl, rfl, rfl⟩ := DM.num_inj h' (y' := y) (m' := m) (d' := d + 1) ⟨p1, p2, by omega, by omega⟩ (by rw [e]; unfold DM.num; omega)
    exact .inl ⟨c, rfl, rfl, rfl⟩
  · by_cases k : m < 12
    · have l := DM.len_bd y (m + 1)
      obtain ⟨rfl, rfl, rfl⟩ := DM.num_inj h' (y' := y) (m' := m + 1) (d' := 1) ⟨by omega, by omega, by omega, by omega⟩ (by
        rw [e]; unfold DM.num; have := DM.cum_succ y m p1 p2; omega)
      exact .inr (.inl ⟨by omega, k, rfl, rfl, rfl⟩)
    · obtain rfl : m = 12 := by omega
      have l := DM.len_bd (y + 1) 1
      have h3 := DM.cum_succ y 12 (by omega) (by omega); have h13 := DM.cum_13 y; rw [show (12 : Int) + 1 = 13 from rfl] at h3
      have hs := DM.bef_succ y
      have h1 := DM.cum_1 (y + 1)
      have hl : DM.len y 12 = 31 := by simp [DM.len]
      obtain ⟨rfl, rfl, rfl⟩ := DM.num_inj h' (y' := y + 1) (m' := 1) (d' := 1) ⟨by omega, by omega, by omega, by omega⟩ (by
        rw [e]; unfold DM.num; omega)
      exact .inr (.inr ⟨rfl, by omega, rfl, rfl, rfl⟩)

/-- Parse inverts Text. -/
theorem parse_text {y m d h : Int} (hB : hourB y m d h = true) : parseB (textL y m d h) = true ∧ parseN (textL y m d h) = hourN y m d h := by
  obtain ⟨a, b, c, d1, d2, e, f, g⟩ := of_decide_eq_true hB
  have hl := DM.len_bd y m
  have nb := DM.num_lt y m d ⟨b, c, d1, d2⟩
  have hy := DM.bef_big (y := y) (by omega)
  have k1 : pY (textL y m d h) = y := by
    have : pY (textL y m d h) = numL (dig2 (y / 100) ++ dig2 (y % 100)) := rfl
    rw [this]
    have e1 := num_dig2 (y / 100) (by omega) (by omega)
    have e2 := num_dig2 (y % 100) (by omega) (by omega)
    simp only [dig2, List.cons_append, List.nil_append] at e1 e2 ⊢
    rw [num4l, e1, e2, if_pos (by omega)]; omega
  have k2 : pM (textL y m d h) = m := by
    have : pM (textL y m d h) = numL (dig2 m) := rfl
    rw [this]; exact num_dig2 m (by omega) (by omega)
  have k3 : pD (textL y m d h) = d := by
    have : pD (textL y m d h) = numL (dig2 d) := rfl
    rw [this]; exact num_dig2 d (by omega) (by omega)
  have k4 : pH (textL y m d h) = h := by
    have : pH (textL y m d h) = numL (dig2 h) := rfl
    rw [this]; exact num_dig2 h (by omega) (by omega)
  have hP : parseB (textL y m d h) = true := decide_eq_true ⟨rfl, by rw [k1, k2, k3, k4]; exact hB, by rw [k1, k2, k3, k4]⟩
  refine ⟨hP, ?_⟩
  unfold parseN
  rw [if_pos hP, k1, k2, k3, k4]
theorem textL_size (y m d h : Int) : (textL y m d h).length = 14 := rfl
theorem hourB_of {n y m d : Int} (h0 : 0 ≤ n) (h1 : n ≤ 16777216) (hv : DM.vld y m d) (hn : DM.num y m d = n / 24) : hourB y m d (n % 24) = true ∧ hourN y m d (n % 24) = n := by
  have bd := DM.num_lt _ _ _ hv
  obtain ⟨p1, p2, p3, p4⟩ := hv
  have hy : 2000 ≤ y := by
    rcases Int.lt_or_le y 2000 with g | g
    · have := DM.bef_mono (y := y + 1) (z := 2000) (by omega)
      have := DM.bef_2000; omega
    · exact g
  have hb : hourB y m d (n % 24) = true := decide_eq_true ⟨hy, p1, p2, p3, p4, by omega, by omega, by omega⟩
  exact ⟨hb, by rw [hourN_yes hb]; omega⟩
end Go.Proofs.YticjghibdjambaaDoor
