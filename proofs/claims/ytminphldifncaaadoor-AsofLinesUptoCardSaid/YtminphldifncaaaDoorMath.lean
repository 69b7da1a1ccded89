/- Plain laws of the calendar (no program in sight): leap years, lengths of months, day numbers, and that a valid date is known by its day number. -/
set_option linter.unusedSimpArgs false
set_option linter.unusedVariables false
namespace Go.Proofs.YtminphldifncaaaDoor.DM

def lp (y : Int) : Int := if y % 4 = 0 ∧ (y % 100 ≠ 0 ∨ y % 400 = 0) then 1 else 0
def len (y m : Int) : Int := if m = 2 then 28 + lp y else if m = 4 ∨ m = 6 ∨ m = 9 ∨ m = 11 then 30 else 31
def bef (y : Int) : Int := 365 * (y - 2000) + (y - 2000 + 3) / 4 - (y - 2000 + 99) / 100 + (y - 2000 + 399) / 400
def base (m : Int) : Int :=
  if m ≤ 1 then 0 else if m = 2 then 31 else if m = 3 then 59 else if m = 4 then 90 else if m = 5 then 120 else if m = 6 then 151
  else if m = 7 then 181 else if m = 8 then 212 else if m = 9 then 243 else if m = 10 then 273 else if m = 11 then 304 else if m = 12 then 334 else 365
def cum (y m : Int) : Int := base m + (if 3 ≤ m then lp y else 0)
def num (y m d : Int) : Int := bef y + cum y m + (d - 1)
def vld (y m d : Int) : Prop := 1 ≤ m ∧ m ≤ 12 ∧ 1 ≤ d ∧ d ≤ len y m

theorem lp_01 (y : Int) : 0 ≤ lp y ∧ lp y ≤ 1 := by unfold lp; split <;> omega
theorem bef_succ (y : Int) : bef (y + 1) = bef y + 365 + lp y := by unfold bef lp; split <;> omega
theorem bef_le {y z : Int} (h : y < z) : bef (y + 1) ≤ bef z := by unfold bef; omega
theorem bef_mono {y z : Int} (h : y ≤ z) : bef y ≤ bef z := by unfold bef; omega
theorem cum_succ (y m : Int) (h1 : 1 ≤ m) (h2 : m ≤ 12) : cum y (m + 1) = cum y m + len y m := by
  have : m = 1 ∨ m = 2 ∨ m = 3 ∨ m = 4 ∨ m = 5 ∨ m = 6 ∨ m = 7 ∨ m = 8 ∨ m = 9 ∨ m = 10 ∨ m = 11 ∨ m = 12 := by omega
  rcases this with h | h | h | h | h | h | h | h | h | h | h | h <;> subst h <;> simp [cum, base, len] <;> omega
theorem len_bd (y m : Int) : 28 ≤ len y m ∧ len y m ≤ 31 := by have := lp_01 y; unfold len; repeat' split <;> omega
theorem cum_13 (y : Int) : cum y 13 = 365 + lp y := by simp [cum, base]
theorem cum_1 (y : Int) : cum y 1 = 0 := by simp [cum, base]
theorem cum_bd (y m : Int) : 0 ≤ cum y m ∧ cum y m ≤ 366 := by
  have := lp_01 y; unfold cum base; repeat' split <;> omega
theorem cum_lt {y m n : Int} (h1 : 1 ≤ m) (h2 : n ≤ 12) (h : m < n) : cum y m + len y m ≤ cum y n := by
  have e : ∀ k : Nat, m + 1 + k ≤ 12 → cum y (m + 1) ≤ cum y (m + 1 + k) := by
    intro k
    induction k with
    | zero => intro _; simp
    | succ k ih =>
      intro hk
      have := cum_succ y (m + 1 + k) (by omega) (by omega)
      have := len_bd y (m + 1 + k)
      have := ih (by omega)
      have e2 : m + 1 + ((k + 1 : Nat) : Int) = m + 1 + k + 1 := by omega
      rw [e2]; omega
  have := cum_succ y m h1 (by omega)
  obtain ⟨k, hk⟩ := Int.eq_ofNat_of_zero_le (show 0 ≤ n - (m + 1) by omega)
  have := e k (by omega)
  have e3 : m + 1 + (k : Int) = n := by omega
  rw [e3] at this; omega
theorem num_lt (y m d : Int) (h : vld y m d) : bef y ≤ num y m d ∧ num y m d < bef (y + 1) := by
  obtain ⟨a, b, c, e⟩ := h
  have h1 := cum_bd y m
  have h2 : cum y m + len y m ≤ 365 + lp y := by
    by_cases hm : m = 12
    · subst hm; have := cum_succ y 12 (by omega) (by omega); have h13 := cum_13 y; rw [show (12:Int)+1 = 13 from rfl] at this; omega
    · have := cum_lt (y := y) (m := m) (n := 12) a (by omega) (by omega)
      have := cum_succ y 12 (by omega) (by omega); have h13 := cum_13 y; rw [show (12:Int)+1 = 13 from rfl] at this
      have := len_bd y 12
      omega
  rw [bef_succ]; unfold num; omega
theorem num_inj {y m d y' m' d' : Int} (h : vld y m d) (h' : vld y' m' d') (e : num y m d = num y' m' d') : y = y' ∧ m = m' ∧ d = d' := by
  have a := num_lt _ _ _ h
  have b := num_lt _ _ _ h'
  have hy : y = y' := by
    rcases Int.lt_trichotomy y y' with c | c | c
    · have := bef_le c; omega
    · exact c
    · have := bef_le c; omega
  subst hy
  obtain ⟨p1, p2, p3, p4⟩ := h
  obtain ⟨q1, q2, q3, q4⟩ := h'
  have e' : cum y m + d = cum y m' + d' := by unfold num at e; omega
  have hm : m = m' := by
    rcases Int.lt_trichotomy m m' with c | c | c
    · have := cum_lt (y := y) p1 q2 c; omega
    · exact c
    · have := cum_lt (y := y) q1 p2 c; omega
  subst hm
  exact ⟨rfl, rfl, by omega⟩
theorem bef_400 (y : Int) : bef (y + 400) = bef y + 146097 := by unfold bef; omega
theorem lp_400 (y : Int) : lp (y + 400) = lp y := by unfold lp; simp only [show (y + 400) % 4 = y % 4 by omega, show (y + 400) % 100 = y % 100 by omega, show (y + 400) % 400 = y % 400 by omega]
theorem len_400 (y m : Int) : len (y + 400) m = len y m := by unfold len; rw [lp_400]
theorem num_400 (y m d : Int) : num (y + 400) m d = num y m d + 146097 := by unfold num cum; rw [bef_400, lp_400]; omega
theorem bef_guess (k : Int) (h : 0 ≤ k) : bef (2000 + k / 366) ≤ k := by unfold bef; omega
theorem bef_2000 : bef 2000 = 0 := by simp [bef]
theorem bef_big {y : Int} (h : bef y ≤ 699050) : y ≤ 3914 := by unfold bef at h; omega
theorem bef_nonneg {y : Int} (h : 2000 ≤ y) : 0 ≤ bef y := by unfold bef; omega
end Go.Proofs.YtminphldifncaaaDoor.DM
