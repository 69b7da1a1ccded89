/- What the reference of call computes is the same. -/
import Derived.Test.YthoigjkelinjhaaCT
set_option linter.unusedSimpArgs false
set_option linter.unusedVariables false
namespace Go.Proofs.Ythoigjkelinjhaa.CM
open Go.RowKit
section
variable (pl : Pl) (R : List Rt) (sup : Nat → Int) (ns : Nat) (G : List (Int × Int))
def leftR : Nat → Nat → Int
  | 0, q => thereS pl sup ns q
  | n + 1, q => if q ∈ rcR pl R n then wrap64 (leftR n q - gotG G n) else leftR n q
/-- No right behind i and before m that has water reaches the place. -/
def dryF (i q : Nat) : Nat → Bool
  | 0 => true
  | j + 1 => dryF i q j && !(decide (i < j) && (decide (q ∈ rcR pl R j) && decide (0 < gotG G j)))
def stopR (i : Nat) : Int := match (rcR pl R i).find? (fun q => decide (leftR pl R sup ns G R.length q ≤ 0) && dryF pl R G i q R.length) with | some q => (q : Int) | none => -1
def shortL : List Int := ((List.range R.length).filter (shortF pl R G)).map fun i => (rtN R i).id
variable {pl R sup ns G}
theorem wrap_in (x : Int) : -9223372036854775808 ≤ wrap64 x ∧ wrap64 x ≤ 9223372036854775807 := by unfold wrap64; omega
theorem got_out {j : Nat} (h : ¬ j < G.length) : gotG G j = 0 := by
  unfold gotG
  rw [List.getD_eq_getElem?_getD, List.getElem?_eq_none (by omega)]; rfl
theorem leftR_eq (hs : ∀ p, -9223372036854775808 ≤ sup p ∧ sup p ≤ 9223372036854775807) : ∀ n q, leftR pl R sup ns G n q = leftW pl R sup ns G n q ∧ -9223372036854775808 ≤ leftW pl R sup ns G n q ∧ leftW pl R sup ns G n q ≤ 9223372036854775807
  | 0, q => by
    have := thereN_in (pl := pl) hs (min pl.length ns) q
    exact ⟨rfl, by show _ ≤ thereS pl sup ns q; unfold thereS; omega, by show thereS pl sup ns q ≤ _; unfold thereS; omega⟩
  | n + 1, q => by
    obtain ⟨i1, i2, i3⟩ := leftR_eq hs n q
    show (if _ then _ else _) = (if _ then _ else _) ∧ _ ≤ (if _ then _ else _) ∧ (if _ then _ else _) ≤ _
    by_cases g : q ∈ rcR pl R n
    · rw [if_pos g, i1]
      by_cases g2 : n < G.length
      · rw [if_pos ⟨g, g2⟩]
        have := wrap_in (leftW pl R sup ns G n q - gotG G n)
        exact ⟨rfl, this.1, this.2⟩
      · rw [if_neg (fun h => g2 h.2), got_out g2]
        refine ⟨?_, i2, i3⟩
        rw [Int.sub_zero]
        exact IntWalk.wrap64_in _ ⟨i2, i3⟩
    · rw [if_neg g, if_neg (fun h => g h.1)]
      exact ⟨i1, i2, i3⟩
theorem dryF_iff {i q : Nat} : ∀ m, dryF pl R G i q m = true ↔ ∀ j, i < j → j < m → q ∈ rcR pl R j → gotG G j ≤ 0
  | 0 => ⟨fun _ j _ h => absurd h (Nat.not_lt_zero _), fun _ => rfl⟩
  | m + 1 => by
    have ih := dryF_iff (i := i) (q := q) m
    show (_ && _) = true ↔ _
    rw [Bool.and_eq_true, ih]
    simp only [Bool.not_eq_true', Bool.and_eq_false_iff, decide_eq_false_iff_not]
    constructor
    · rintro ⟨h1, h2⟩ j j1 j2 j3
      by_cases e : j = m
      · subst e
        rcases h2 with h | h | h
        · exact absurd j1 h
        · exact absurd j3 h
        · omega
      · exact h1 j j1 (by omega) j3
    · intro h
      refine ⟨fun j j1 j2 => h j j1 (by omega), ?_⟩
      by_cases g1 : i < m
      · by_cases g2 : q ∈ rcR pl R m
        · exact .inr (.inr (by have := h m g1 (by omega) g2; omega))
        · exact .inr (.inl g2)
      · exact .inl g1
theorem find_congr {l : List Nat} {p q : Nat → Bool} (h : ∀ x ∈ l, p x = q x) : l.find? p = l.find? q := by
  induction l with
  | nil => rfl
  | cons x l ih =>
    rw [List.find?_cons, List.find?_cons, h x (List.mem_cons_self ..), ih (fun y hy => h y (List.mem_cons_of_mem _ hy))]
theorem stopR_eq (hs : ∀ p, -9223372036854775808 ≤ sup p ∧ sup p ≤ 9223372036854775807) (i : Nat) : stopR pl R sup ns G i = stopF pl R sup ns G i := by
  unfold stopR stopF
  have h : ∀ q ∈ rcR pl R i, (decide (leftR pl R sup ns G R.length q ≤ 0) && dryF pl R G i q R.length) = (decide (leftW pl R sup ns G R.length q ≤ 0) && decide (lastW pl R G R.length q ≤ i)) := by
    intro q _
    rw [(leftR_eq hs R.length q).1]
    congr 1
    rw [Bool.eq_iff_iff, dryF_iff, decide_eq_true_eq, lastW_le]
    constructor
    · exact fun h j j1 j2 j3 _ => h j j1 j2 j3
    · intro h j j1 j2 j3
      by_cases g : j < G.length
      · exact h j j1 j2 j3 g
      · rw [got_out g]; exact Int.le_refl _
  rw [find_congr h]
  cases (rcR pl R i).find? (fun q => decide (leftW pl R sup ns G R.length q ≤ 0) && decide (lastW pl R G R.length q ≤ i)) <;> rfl
end
end Go.Proofs.Ythoigjkelinjhaa.CM
