/- What the functions of call compute, as plain functions; the laws of them. -/
import Derived.WalkKit
import Derived.IntWalk
import Derived.Test.YthoigjkelinjhaaCM
import Derived.Test.YthoigjkelinjhaaRM
set_option linter.unusedSimpArgs false
set_option linter.unusedVariables false
namespace Go.Proofs.Ythoigjkelinjhaa.CM
open Go.RowKit

def dRt : Rt := ⟨0, 0, 0, -1, 0, 0, 0, 0, 0⟩
section
variable (pl : Pl) (R : List Rt) (sup : Nat → Int) (ns : Nat) (G : List (Int × Int))
def rtN (i : Nat) : Rt := R.getD i dRt
def rcR (i : Nat) : List Nat := reach pl (rtN R i).place
def rateR (i : Nat) : Int := (rtN R i).rate
def gotG (i : Nat) : Int := (G.getD i (0, 0)).2
def isPl (p : Int) : Bool := decide (0 ≤ p) && decide (p < pl.length)
def thereS (q : Nat) : Int := thereN pl sup (min pl.length ns) q
/-- What is left behind n grants, as the machine reckons. -/
def leftW : Nat → Nat → Int
  | 0, q => thereS pl sup ns q
  | n + 1, q => if q ∈ rcR pl R n ∧ n < G.length then wrap64 (leftW n q - gotG G n) else leftW n q
/-- The last of n rights that has water and reaches a place. -/
def lastW : Nat → Nat → Int
  | 0, _ => -1
  | n + 1, q => if q ∈ rcR pl R n ∧ n < G.length ∧ 0 < gotG G n then (n : Int) else lastW n q
def stopF (i : Nat) : Int := match (rcR pl R i).find? (fun q => decide (leftW pl R sup ns G R.length q ≤ 0) && decide (lastW pl R G R.length q ≤ i)) with | some q => (q : Int) | none => -1
def shortF (i : Nat) : Bool := decide (i < G.length) && (decide (gotG G i < rateR R i) && isPl pl (rtN R i).place)
def wetF (m i : Nat) : List Nat := (List.range m).filter fun j => decide (i ≤ j) && (decide (j < G.length) && decide (0 < gotG G j))
def excL : List (Int × Int) := (List.range R.length).flatMap fun i => if shortF pl R G i && decide (0 ≤ stopF pl R sup ns G i) then (wetF G R.length (i + 1)).map (fun j => ((rtN R i).id, (rtN R j).id)) else []
def lawfulF (i : Nat) : Bool := decide ((G.getD i (0, 0)).1 = (rtN R i).id) && (decide (0 ≤ gotG G i) && (decide (gotG G i ≤ 1125899906842624) && (decide (gotG G i ≤ max 0 (rateR R i)) && (decide (gotG G i = 0) || isPl pl (rtN R i).place))))
def checkF (x : List (Int × Int)) : Bool :=
  decide (G.length = R.length) && ((List.range R.length).all (lawfulF pl R G) && ((List.range pl.length).all (fun q => decide (0 ≤ leftW pl R sup ns G R.length q)) &&
    (List.range R.length).all (fun i => !shortF pl R G i || (decide (0 ≤ stopF pl R sup ns G i) && (wetF G R.length (i + 1)).all (fun j => decide (((rtN R i).id, (rtN R j).id) ∈ x))))))
/-- The day's grants. -/
def dayList : List (Int × Int) := (List.range R.length).map fun i => ((rtN R i).id, dayG (thereS pl sup ns) (rcR pl R) (rateR R) i)
variable {pl R sup ns G}
theorem dayList_len : (dayList pl R sup ns).length = R.length := by simp [dayList]
theorem dayList_got {i : Nat} (hi : i < R.length) : gotG (dayList pl R sup ns) i = dayG (thereS pl sup ns) (rcR pl R) (rateR R) i := by
  simp [gotG, dayList, List.getD_eq_getElem?_getD, hi]
theorem rcR_lt {i q : Nat} (h : q ∈ rcR pl R i) : q < pl.length := reach_lt h
theorem rcR_nil {i : Nat} : rcR pl R i = [] ↔ isPl pl (rtN R i).place = false := by
  unfold rcR isPl
  rw [reach_nil]
  simp only [Bool.and_eq_false_iff, decide_eq_false_iff_not]
  omega
theorem lastW_le {i q : Nat} : ∀ m, lastW pl R G m q ≤ i ↔ ∀ j, i < j → j < m → q ∈ rcR pl R j → j < G.length → gotG G j ≤ 0
  | 0 => ⟨fun _ j _ h => absurd h (Nat.not_lt_zero _), fun _ => by show (-1 : Int) ≤ i; omega⟩
  | m + 1 => by
    have ih := lastW_le (i := i) (q := q) m
    show (if _ then _ else _) ≤ _ ↔ _
    split
    · rename_i g
      constructor
      · intro h j h1 h2 _ _
        omega
      · intro h
        by_cases g2 : m ≤ i
        · omega
        · have := h m (by omega) (by omega) g.1 g.2.1
          omega
    · rename_i g
      rw [ih]
      constructor
      · intro h j h1 h2 h3 h4
        by_cases e : j = m
        · subst e
          rcases Int.lt_or_le 0 (gotG G j) with q | q
          · exact absurd ⟨h3, h4, q⟩ g
          · exact q
        · exact h j h1 (by omega) h3 h4
      · exact fun h j h1 h2 => h j h1 (by omega)
/-- Where all is modest the machine reckons exactly. -/
theorem leftW_exact (hp : posSum sup (min pl.length ns) ≤ 1125899906842624) (hl : G.length = R.length) (hg : ∀ j, j < R.length → 0 ≤ gotG G j ∧ gotG G j ≤ 1125899906842624) (hm : R.length ≤ 1000) :
    ∀ n q, n ≤ R.length → leftW pl R sup ns G n q = leftE (thereS pl sup ns) (rcR pl R) (gotG G) n q ∧ - ((n : Int) * 1125899906842624) ≤ leftW pl R sup ns G n q ∧ leftW pl R sup ns G n q ≤ 1125899906842624
  | 0, q, _ => by
    have := thereN_le (pl := pl) (sup := sup) (min pl.length ns) q hp
    refine ⟨rfl, ?_, ?_⟩
    · show _ ≤ thereS pl sup ns q; unfold thereS; simp; exact this.1
    · show thereS pl sup ns q ≤ _; unfold thereS; omega
  | n + 1, q, hn => by
    obtain ⟨i1, i2, i3⟩ := leftW_exact hp hl hg hm n q (by omega)
    have h1 := hg n (by omega)
    rw [leftE_succ]
    show (if _ then _ else _) = _ ∧ _ ≤ (if _ then _ else _) ∧ (if _ then _ else _) ≤ _
    have e1 : ((n + 1 : Nat) : Int) * 1125899906842624 = (n : Int) * 1125899906842624 + 1125899906842624 := by push_cast; omega
    by_cases g : q ∈ rcR pl R n
    · rw [if_pos ⟨g, by omega⟩, if_pos g]
      have hw : wrap64 (leftW pl R sup ns G n q - gotG G n) = leftW pl R sup ns G n q - gotG G n := IntWalk.wrap64_in _ ⟨by omega, by omega⟩
      rw [hw]
      refine ⟨by rw [i1], by omega, by omega⟩
    · rw [if_neg (fun h => g h.1), if_neg g]
      refine ⟨by rw [i1]; omega, by omega, by omega⟩
theorem stopF_some {i : Nat} : (0 ≤ stopF pl R sup ns G i ↔ ∃ q ∈ rcR pl R i, leftW pl R sup ns G R.length q ≤ 0 ∧ lastW pl R G R.length q ≤ i) ∧
    (∀ k, stopF pl R sup ns G i = k → 0 ≤ k → ∃ q : Nat, k = q ∧ q ∈ rcR pl R i ∧ leftW pl R sup ns G R.length q ≤ 0 ∧ lastW pl R G R.length q ≤ i) := by
  unfold stopF
  cases hf : (rcR pl R i).find? (fun q => decide (leftW pl R sup ns G R.length q ≤ 0) && decide (lastW pl R G R.length q ≤ i)) with
  | none =>
    rw [List.find?_eq_none] at hf
    refine ⟨⟨fun h => by simp at h, fun ⟨q, h1, h2, h3⟩ => absurd (by simp [h2, h3]) (hf q h1)⟩, fun k hk h0 => by subst hk; simp at h0⟩
  | some q =>
    have h1 := List.find?_some hf
    have h2 := List.mem_of_find?_eq_some hf
    simp only [Bool.and_eq_true, decide_eq_true_eq] at h1
    exact ⟨⟨fun _ => ⟨q, h2, h1.1, h1.2⟩, fun _ => by simp⟩, fun k hk _ => ⟨q, hk.symm, h2, h1.1, h1.2⟩⟩
end
end Go.Proofs.Ythoigjkelinjhaa.CM
