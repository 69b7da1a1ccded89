/- Plain laws of a day's grants: the day's grants are accepted, and only they. -/
set_option linter.unusedSimpArgs false
set_option linter.unusedVariables false
namespace Go.Proofs.Ythoigjkelinjhaa.CM

/-- The least of some numbers. -/
def leastL (r : Int) (l : List Nat) (left : Nat → Int) : Int := l.foldl (fun a q => min a (left q)) r
/-- What a right gets of what is left. -/
def lit (r : Int) (l : List Nat) (left : Nat → Int) : Int := if l.isEmpty then 0 else max 0 (leastL r l left)
section
variable (there : Nat → Int) (rc : Nat → List Nat) (rate : Nat → Int)
/-- What is left ahead of the n-th right. -/
def dayL : Nat → Nat → Int
  | 0, q => there q
  | n + 1, q => dayL n q - if q ∈ rc n then lit (rate n) (rc n) (dayL n) else 0
def dayG (n : Nat) : Int := lit (rate n) (rc n) (dayL there rc rate n)
/-- What is left behind n grants. -/
def leftE (got : Nat → Int) : Nat → Nat → Int
  | 0, q => there q
  | n + 1, q => leftE got n q - if q ∈ rc n then got n else 0
theorem dayL_succ (n q : Nat) : dayL there rc rate (n + 1) q = dayL there rc rate n q - if q ∈ rc n then lit (rate n) (rc n) (dayL there rc rate n) else 0 := rfl
theorem leftE_succ (got : Nat → Int) (n q : Nat) : leftE there rc got (n + 1) q = leftE there rc got n q - if q ∈ rc n then got n else 0 := rfl
theorem leastL_le : ∀ (l : List Nat) (r : Int) (left : Nat → Int), leastL r l left ≤ r ∧ ∀ q ∈ l, leastL r l left ≤ left q
  | [], r, _ => ⟨Int.le_refl _, fun _ h => by cases h⟩
  | q :: l, r, left => by
    have ih := leastL_le l (min r (left q)) left
    have e : leastL r (q :: l) left = leastL (min r (left q)) l left := rfl
    rw [e]
    refine ⟨by omega, fun p hp => ?_⟩
    rcases List.mem_cons.1 hp with rfl | h
    · omega
    · exact ih.2 p h
theorem leastL_is : ∀ (l : List Nat) (r : Int) (left : Nat → Int), leastL r l left = r ∨ ∃ q ∈ l, leastL r l left = left q
  | [], r, _ => .inl rfl
  | q :: l, r, left => by
    have e : leastL r (q :: l) left = leastL (min r (left q)) l left := rfl
    rw [e]
    rcases leastL_is l (min r (left q)) left with h | ⟨p, hp, h⟩
    · rw [h]
      by_cases g : r ≤ left q
      · left; omega
      · right; exact ⟨q, List.mem_cons_self .., by omega⟩
    · right; exact ⟨p, List.mem_cons_of_mem _ hp, h⟩
variable {there rc rate}
theorem lit_nn (r : Int) (l : List Nat) (left : Nat → Int) : 0 ≤ lit r l left := by unfold lit; split <;> omega
theorem lit_le {r : Int} {l : List Nat} {left : Nat → Int} : lit r l left ≤ max 0 r := by
  unfold lit
  have := (leastL_le l r left).1
  split <;> omega
theorem lit_left {r : Int} {l : List Nat} {left : Nat → Int} (h : ∀ q, 0 ≤ left q) {q : Nat} (hq : q ∈ l) : lit r l left ≤ left q := by
  have h1 := (leastL_le l r left).2 q hq
  have h2 := h q
  unfold lit
  split <;> omega
theorem dayL_nn (h : ∀ q, 0 ≤ there q) : ∀ n q, 0 ≤ dayL there rc rate n q
  | 0, q => h q
  | n + 1, q => by
    have ih := dayL_nn h n
    show 0 ≤ dayL there rc rate n q - _
    split
    · rename_i hq
      have := lit_left (r := rate n) ih hq
      omega
    · have := ih q; omega
theorem leftE_day (n q : Nat) : leftE there rc (dayG there rc rate) n q = dayL there rc rate n q := by
  induction n with
  | zero => rfl
  | succ n ih => show leftE there rc _ n q - _ = dayL there rc rate n q - _; rw [ih]; rfl
theorem dayL_zero (h : ∀ q, 0 ≤ there q) {i q : Nat} (hz : dayL there rc rate i q = 0) : ∀ k, dayL there rc rate (i + k) q = 0
  | 0 => hz
  | k + 1 => by
    have ih := dayL_zero h hz k
    rw [show i + (k + 1) = (i + k) + 1 from rfl, dayL_succ]
    split
    · rename_i hq
      have h1 := lit_left (r := rate (i + k)) (dayL_nn (rate := rate) (rc := rc) h (i + k)) hq
      have h2 := lit_nn (rate (i + k)) (rc (i + k)) (dayL there rc rate (i + k))
      omega
    · omega
/-- A STOP OF A SHORT RIGHT: nothing is left there, and no later right with water reaches it. -/
def StopAt (there : Nat → Int) (rc : Nat → List Nat) (got : Nat → Int) (m i q : Nat) : Prop := q ∈ rc i ∧ leftE there rc got m q ≤ 0 ∧ ∀ j, i < j → j < m → q ∈ rc j → got j ≤ 0
theorem day_stop (h : ∀ q, 0 ≤ there q) {m i : Nat} (hi : i < m) (hs : dayG there rc rate i < rate i) (hne : rc i ≠ []) :
    ∃ q, StopAt there rc (dayG there rc rate) m i q ∧ dayL there rc rate m q = 0 := by
  have e : dayG there rc rate i = max 0 (leastL (rate i) (rc i) (dayL there rc rate i)) := by
    unfold dayG lit
    rw [if_neg (by simpa using hne)]
  rcases leastL_is (rc i) (rate i) (dayL there rc rate i) with g | ⟨q, hq, g⟩
  · rw [e, g] at hs; omega
  · have hnn := dayL_nn (rate := rate) (rc := rc) h
    have h1 := hnn i q
    have e2 : dayG there rc rate i = dayL there rc rate i q := by rw [e, g]; omega
    have hz : dayL there rc rate (i + 1) q = 0 := by
      show dayL there rc rate i q - _ = 0
      rw [if_pos hq]
      have : lit (rate i) (rc i) (dayL there rc rate i) = dayG there rc rate i := rfl
      omega
    have hz2 := dayL_zero h hz
    have hm : dayL there rc rate m q = 0 := by
      have := hz2 (m - (i + 1))
      rwa [show i + 1 + (m - (i + 1)) = m by omega] at this
    refine ⟨q, ⟨hq, by rw [leftE_day, hm]; exact Int.le_refl _, fun j hj _ hqj => ?_⟩, hm⟩
    have := hz2 (j - (i + 1))
    rw [show i + 1 + (j - (i + 1)) = j by omega] at this
    have h3 := lit_left (r := rate j) (hnn j) hqj
    show lit (rate j) (rc j) (dayL there rc rate j) ≤ 0
    omega
theorem leftE_le {got : Nat → Int} (hg : ∀ j, 0 ≤ got j) (q : Nat) (n : Nat) : ∀ k, leftE there rc got (n + k) q ≤ leftE there rc got n q
  | 0 => Int.le_refl _
  | k + 1 => by
    have ih := leftE_le hg q n k
    have := hg (n + k)
    rw [show n + (k + 1) = (n + k) + 1 from rfl, leftE_succ]
    split <;> omega
theorem leftE_dry {got : Nat → Int} (q i : Nat) : ∀ k, (∀ j, i < j → j < i + 1 + k → q ∈ rc j → got j = 0) → leftE there rc got (i + 1 + k) q = leftE there rc got (i + 1) q
  | 0, _ => rfl
  | k + 1, h => by
    have ih := leftE_dry q i k (fun j h1 h2 => h j h1 (by omega))
    rw [show i + 1 + (k + 1) = (i + 1 + k) + 1 from rfl, leftE_succ]
    rw [ih]
    split
    · rename_i hq
      have := h (i + 1 + k) (by omega) (by omega) hq
      omega
    · omega
/-- ONLY THE DAY'S GRANTS ARE ACCEPTED. -/
theorem day_only (h : ∀ q, 0 ≤ there q) {m : Nat} {got : Nat → Int} (h0 : ∀ j, 0 ≤ got j) (h1 : ∀ j, j < m → got j ≤ max 0 (rate j)) (h2 : ∀ j, j < m → rc j = [] → got j = 0)
    (h3 : ∀ j, j < m → ∀ q ∈ rc j, 0 ≤ leftE there rc got m q) (h4 : ∀ i, i < m → got i < rate i → rc i ≠ [] → ∃ q, StopAt there rc got m i q) : ∀ i, i < m → got i = dayG there rc rate i := by
  have key : ∀ n, n ≤ m → (∀ i, i < n → got i = dayG there rc rate i) ∧ ∀ q, leftE there rc got n q = dayL there rc rate n q := by
    intro n
    induction n with
    | zero => exact fun _ => ⟨fun i hi => absurd hi (Nat.not_lt_zero _), fun q => rfl⟩
    | succ n ih =>
      intro hn
      obtain ⟨ih1, ih2⟩ := ih (by omega)
      have hg : got n = dayG there rc rate n := by
        by_cases hne : rc n = []
        · rw [h2 n (by omega) hne]
          unfold dayG lit
          rw [if_pos (by simp [hne])]
        · have hle : ∀ q ∈ rc n, got n ≤ dayL there rc rate n q := by
            intro q hq
            have a1 := h3 n (by omega) q hq
            have a2 := leftE_le (there := there) (rc := rc) h0 q (n + 1) (m - (n + 1))
            rw [show n + 1 + (m - (n + 1)) = m by omega] at a2
            have a3 : leftE there rc got (n + 1) q = leftE there rc got n q - got n := by
              show leftE there rc got n q - _ = _
              rw [if_pos hq]
            rw [ih2] at a3
            omega
          have hup : got n ≤ dayG there rc rate n := by
            unfold dayG lit
            rw [if_neg (by simpa using hne)]
            have a1 := h1 n (by omega)
            rcases leastL_is (rc n) (rate n) (dayL there rc rate n) with g | ⟨q, hq, g⟩
            · rw [g]; exact a1
            · rw [g]; have := hle q hq; omega
          rcases Int.lt_or_le (got n) (dayG there rc rate n) with hlt | hge
          · exfalso
            have hr : got n < rate n := by
              have := lit_le (r := rate n) (l := rc n) (left := dayL there rc rate n)
              have h5 : dayG there rc rate n ≤ max 0 (rate n) := this
              have h6 := h0 n
              omega
            obtain ⟨q, hq, hz, hdry⟩ := h4 n (by omega) hr hne
            have a1 := leftE_dry (there := there) (rc := rc) (got := got) q n (m - (n + 1)) (fun j j1 j2 jq => by
              have := hdry j j1 (by omega) jq
              have := h0 j
              omega)
            rw [show n + 1 + (m - (n + 1)) = m by omega] at a1
            have a3 : leftE there rc got (n + 1) q = leftE there rc got n q - got n := by
              show leftE there rc got n q - _ = _
              rw [if_pos hq]
            rw [ih2] at a3
            have a4 := lit_left (r := rate n) (dayL_nn (rate := rate) (rc := rc) h n) hq
            have a5 : dayG there rc rate n ≤ dayL there rc rate n q := a4
            omega
          · omega
      refine ⟨fun i hi => ?_, fun q => ?_⟩
      · by_cases g : i < n
        · exact ih1 i g
        · obtain rfl : i = n := by omega
          exact hg
      · show leftE there rc got n q - _ = dayL there rc rate n q - _
        rw [ih2, hg]; rfl
  exact (key m (Nat.le_refl _)).1
theorem dayG_nn (i : Nat) : 0 ≤ dayG there rc rate i := lit_nn _ _ _
theorem dayG_le (i : Nat) : dayG there rc rate i ≤ max 0 (rate i) := lit_le
theorem dayG_left (h : ∀ q, 0 ≤ there q) {i q : Nat} (hq : q ∈ rc i) : dayG there rc rate i ≤ dayL there rc rate i q := lit_left (dayL_nn h i) hq
theorem dayL_mono (n k q : Nat) : dayL there rc rate (n + k) q ≤ dayL there rc rate n q := by
  have := leftE_le (there := there) (rc := rc) (got := dayG there rc rate) (fun j => dayG_nn j) q n k
  rwa [leftE_day, leftE_day] at this
end
end Go.Proofs.Ythoigjkelinjhaa.CM
