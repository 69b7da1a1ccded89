/- Plain laws of the texts of hours: digits and numbers are inverse, a text is read only by its own parts. -/
import Derived.Test.YticjghibdjambaaDoorW10
namespace Go.Proofs.YticjghibdjambaaDoor

theorem num2l (x y : UInt8) : numL [x, y] = if 48 ≤ (x.toNat : Int) ∧ (x.toNat : Int) ≤ 57 ∧ 48 ≤ (y.toNat : Int) ∧ (y.toNat : Int) ≤ 57 then 10 * ((x.toNat : Int) - 48) + ((y.toNat : Int) - 48) else -1 := by
  simp only [numL, numA]
  split
  · split
    · rw [if_pos (by omega)]; omega
    · rw [if_neg (by omega)]
  · rw [if_neg (by omega)]
theorem numA_app (l r : List UInt8) (acc : Int) (h : 0 ≤ acc) : numA acc (l ++ r) = if 0 ≤ numA acc l then numA (numA acc l) r else -1 := by
  induction l generalizing acc with
  | nil => simp [numA, h]
  | cons c l ih =>
    simp only [List.cons_append, numA]
    split
    · rw [ih _ (by omega)]
    · simp
theorem num4l (a b c d : UInt8) : numL [a, b, c, d] = if 0 ≤ numL [a, b] ∧ 0 ≤ numL [c, d] then 100 * numL [a, b] + numL [c, d] else -1 := by
  have e : numL [a, b, c, d] = numA 0 ([a, b] ++ [c, d]) := rfl
  rw [e, numA_app _ _ _ (by omega)]
  show (if 0 ≤ numL [a, b] then numA (numL [a, b]) [c, d] else -1) = _
  by_cases h : 0 ≤ numL [a, b]
  · rw [if_pos h]
    have e2 := num2l c d
    simp only [numA]
    by_cases h2 : 48 ≤ (c.toNat : Int) ∧ (c.toNat : Int) ≤ 57 ∧ 48 ≤ (d.toNat : Int) ∧ (d.toNat : Int) ≤ 57
    · rw [if_pos h2] at e2
      rw [if_pos (by omega), if_pos (by omega), if_pos (by omega), e2]; omega
    · rw [if_neg h2] at e2
      rw [if_neg (by omega : ¬ (0 ≤ numL [a, b] ∧ 0 ≤ numL [c, d]))]
      split
      · rw [if_neg (by omega)]
      · rfl
  · rw [if_neg h, if_neg (by omega)]
theorem byte_of (n : Nat) (h : n < 256) : (UInt8.ofNat n).toNat = n := by simp [UInt8.toNat_ofNat, Nat.mod_eq_of_lt h]
theorem num_dig2 (n : Int) (h0 : 0 ≤ n) (h1 : n ≤ 99) : numL (dig2 n) = n := by
  have a := byte_of (48 + (n / 10).toNat) (by omega)
  have b := byte_of (48 + (n % 10).toNat) (by omega)
  rw [dig2, num2l, a, b, if_pos (by omega)]; omega
theorem dig2_num (x y : UInt8) (h : 0 ≤ numL [x, y]) : dig2 (numL [x, y]) = [x, y] ∧ numL [x, y] ≤ 99 := by
  have e := num2l x y
  by_cases h2 : 48 ≤ (x.toNat : Int) ∧ (x.toNat : Int) ≤ 57 ∧ 48 ≤ (y.toNat : Int) ∧ (y.toNat : Int) ≤ 57
  · rw [if_pos h2] at e
    rw [e]
    refine ⟨?_, by omega⟩
    have e1 : 48 + ((10 * ((x.toNat : Int) - 48) + ((y.toNat : Int) - 48)) / 10).toNat = x.toNat := by omega
    have e2 : 48 + ((10 * ((x.toNat : Int) - 48) + ((y.toNat : Int) - 48)) % 10).toNat = y.toNat := by omega
    rw [dig2, e1, e2]; simp
  · rw [if_neg h2] at e; omega

theorem list14 (l : List UInt8) (h : l.length = 14) : ∃ c0 c1 c2 c3 c4 c5 c6 c7 c8 c9 c10 c11 c12 c13, l = [c0, c1, c2, c3, c4, c5, c6, c7, c8, c9, c10, c11, c12, c13] := by
  match l, h with
  | [c0, c1, c2, c3, c4, c5, c6, c7, c8, c9, c10, c11, c12, c13], _ => exact ⟨_, _, _, _, _, _, _, _, _, _, _, _, _, _, rfl⟩

/-- The separators of a text, and the two halves of its year. -/
def sepP (l : List UInt8) : Prop := l[4]? = some 45 ∧ l[7]? = some 45 ∧ l[10]? = some 32 ∧ l[13]? = some 104
def pA (l : List UInt8) : Int := numL (l.take 2)
def pB (l : List UInt8) : Int := numL ((l.drop 2).take 2)

theorem parse_yes {l : List UInt8} (h : parseB l = true) : sepP l ∧ 0 ≤ pA l ∧ 0 ≤ pB l := by
  obtain ⟨hl, hB, hX⟩ := of_decide_eq_true h
  obtain ⟨c0, c1, c2, c3, c4, c5, c6, c7, c8, c9, c10, c11, c12, c13, rfl⟩ := list14 l hl
  have hp := of_decide_eq_true hB
  have hy : 2000 ≤ pY [c0, c1, c2, c3, c4, c5, c6, c7, c8, c9, c10, c11, c12, c13] := hp.1
  have e : pY [c0, c1, c2, c3, c4, c5, c6, c7, c8, c9, c10, c11, c12, c13] = numL [c0, c1, c2, c3] := rfl
  rw [e, num4l] at hy
  have hy2 : 0 ≤ numL [c0, c1] ∧ 0 ≤ numL [c2, c3] := by
    by_cases g : 0 ≤ numL [c0, c1] ∧ 0 ≤ numL [c2, c3]
    · exact g
    · rw [if_neg g] at hy; omega
  refine ⟨?_, hy2.1, hy2.2⟩
  simp only [textL, dig2, List.cons_append, List.nil_append, List.cons.injEq] at hX
  obtain ⟨_, _, _, _, h4, _, _, h7, _, _, h10, _, _, h13, _⟩ := hX
  exact ⟨by simp [← h4], by simp [← h7], by simp [← h10], by simp [← h13]⟩

theorem parse_iff {l : List UInt8} (hl : l.length = 14) (hs : sepP l) (ha : 0 ≤ pA l) (hb : 0 ≤ pB l) :
    parseB l = hourB (100 * pA l + pB l) (pM l) (pD l) (pH l) ∧ parseN l = hourN (100 * pA l + pB l) (pM l) (pD l) (pH l) := by
  obtain ⟨c0, c1, c2, c3, c4, c5, c6, c7, c8, c9, c10, c11, c12, c13, rfl⟩ := list14 l hl
  obtain ⟨h4, h7, h10, h13⟩ := hs
  simp at h4 h7 h10 h13
  subst h4 h7 h10 h13
  have ha : 0 ≤ numL [c0, c1] := ha
  have hb : 0 ≤ numL [c2, c3] := hb
  have ey : pY [c0, c1, c2, c3, 45, c5, c6, 45, c8, c9, 32, c11, c12, 104] = 100 * numL [c0, c1] + numL [c2, c3] := by
    show numL [c0, c1, c2, c3] = _
    rw [num4l, if_pos ⟨ha, hb⟩]
  have key : hourB (100 * numL [c0, c1] + numL [c2, c3]) (numL [c5, c6]) (numL [c8, c9]) (numL [c11, c12]) = true →
      textL (100 * numL [c0, c1] + numL [c2, c3]) (numL [c5, c6]) (numL [c8, c9]) (numL [c11, c12]) = [c0, c1, c2, c3, 45, c5, c6, 45, c8, c9, 32, c11, c12, 104] := by
    intro hB
    obtain ⟨_, p1, _, p2, _, p3, _⟩ := of_decide_eq_true hB
    have a1 := dig2_num c0 c1 ha
    have a2 := dig2_num c2 c3 hb
    have a3 := dig2_num c5 c6 (by omega)
    have a4 := dig2_num c8 c9 (by omega)
    have a5 := dig2_num c11 c12 p3
    have e1 : (100 * numL [c0, c1] + numL [c2, c3]) / 100 = numL [c0, c1] := by omega
    have e2 : (100 * numL [c0, c1] + numL [c2, c3]) % 100 = numL [c2, c3] := by omega
    rw [textL, e1, e2, a1.1, a2.1, a3.1, a4.1, a5.1]
    rfl
  have hP : parseB [c0, c1, c2, c3, 45, c5, c6, 45, c8, c9, 32, c11, c12, 104] = hourB (100 * numL [c0, c1] + numL [c2, c3]) (numL [c5, c6]) (numL [c8, c9]) (numL [c11, c12]) := by
    rw [Bool.eq_iff_iff]
    constructor
    · intro h
      obtain ⟨_, hB, _⟩ := of_decide_eq_true h
      rw [ey] at hB
      exact hB
    · intro h
      refine decide_eq_true ⟨rfl, ?_, ?_⟩
      · rw [ey]; exact h
      · rw [ey]; exact key h
  refine ⟨hP, ?_⟩
  unfold parseN
  rw [hP, ey]
  show (if hourB (100 * numL [c0, c1] + numL [c2, c3]) (numL [c5, c6]) (numL [c8, c9]) (numL [c11, c12]) = true then _ else 0) = hourN (100 * numL [c0, c1] + numL [c2, c3]) (numL [c5, c6]) (numL [c8, c9]) (numL [c11, c12])
  by_cases g : hourB (100 * numL [c0, c1] + numL [c2, c3]) (numL [c5, c6]) (numL [c8, c9]) (numL [c11, c12]) = true
  · rw [if_pos g]; rfl
  · rw [if_neg g]; unfold hourN; rw [if_neg g]
end Go.Proofs.YticjghibdjambaaDoor
