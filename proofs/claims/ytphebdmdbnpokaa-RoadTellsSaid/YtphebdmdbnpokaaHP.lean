/- Plain laws of a binary heap in a list: sifting up and down, the first is the least. -/
set_option linter.unusedSimpArgs false
set_option linter.unusedVariables false
namespace Go.Proofs.Ytphebdmdbnpokaa
namespace HP
abbrev V := Nat × Nat
def ltB (p q : V) : Bool := decide (p.1 < q.1) || (p.1 == q.1 && decide (p.2 < q.2))
def le (p q : V) : Prop := ltB q p = false
theorem le_iff {p q : V} : le p q ↔ p.1 < q.1 ∨ p.1 = q.1 ∧ p.2 ≤ q.2 := by
  simp only [le, ltB, Bool.or_eq_false_iff, decide_eq_false_iff_not, Bool.and_eq_false_iff, beq_eq_false_iff_ne]
  omega
theorem lt_iff {p q : V} : ltB p q = true ↔ p.1 < q.1 ∨ p.1 = q.1 ∧ p.2 < q.2 := by
  simp [ltB]
theorem le_refl (p : V) : le p p := le_iff.2 (by omega)
theorem le_trans {p q r : V} (a : le p q) (b : le q r) : le p r := by rw [le_iff] at *; omega
theorem le_of_lt {p q : V} (a : ltB p q = true) : le p q := by rw [le_iff]; rw [lt_iff] at a; omega
theorem le_hour {p q : V} (a : le p q) : p.1 ≤ q.1 := by rw [le_iff] at a; omega
def at_ (l : List V) (i : Nat) : V := l.getD i (0, 0)
def swp (l : List V) (i j : Nat) : List V := (l.set i (at_ l j)).set j (at_ l i)
theorem swp_len (l : List V) (i j : Nat) : (swp l i j).length = l.length := by simp [swp]
theorem at_set {l : List V} {i k : Nat} {x : V} (h : i < l.length) : at_ (l.set i x) k = if i = k then x else at_ l k := by
  unfold at_
  rw [List.getD_eq_getElem?_getD, List.getD_eq_getElem?_getD, List.getElem?_set]
  by_cases e : i = k
  · subst e; simp [h]
  · simp [e]
theorem at_swp {l : List V} {i j : Nat} (hi : i < l.length) (hj : j < l.length) (k : Nat) : at_ (swp l i j) k = if j = k then at_ l i else if i = k then at_ l j else at_ l k := by
  unfold swp
  rw [at_set (by simpa using hj), at_set hi]
theorem mem_at {l : List V} {p : V} : p ∈ l ↔ ∃ k, k < l.length ∧ at_ l k = p := by
  rw [List.mem_iff_getElem]
  constructor
  · rintro ⟨k, hk, e⟩; exact ⟨k, hk, by simp [at_, List.getD_eq_getElem?_getD, hk, e]⟩
  · rintro ⟨k, hk, e⟩; exact ⟨k, hk, by simpa [at_, List.getD_eq_getElem?_getD, hk] using e⟩
theorem mem_swp {l : List V} {i j : Nat} (hi : i < l.length) (hj : j < l.length) (p : V) : p ∈ swp l i j ↔ p ∈ l := by
  rw [mem_at, mem_at, swp_len]
  constructor
  · rintro ⟨k, hk, e⟩
    rw [at_swp hi hj] at e
    by_cases e1 : j = k
    · rw [if_pos e1] at e; exact ⟨i, hi, e⟩
    · by_cases e2 : i = k
      · rw [if_neg e1, if_pos e2] at e; exact ⟨j, hj, e⟩
      · rw [if_neg e1, if_neg e2] at e; exact ⟨k, hk, e⟩
  · rintro ⟨k, hk, e⟩
    by_cases e1 : j = k
    · subst e1
      by_cases e2 : i = j
      · subst e2; exact ⟨i, hi, by rw [at_swp hi hi, if_pos rfl]; exact e⟩
      · exact ⟨i, hi, by rw [at_swp hi hj, if_neg (Ne.symm e2), if_pos rfl]; exact e⟩
    · by_cases e2 : i = k
      · subst e2; exact ⟨j, hj, by rw [at_swp hi hj, if_pos rfl]; exact e⟩
      · exact ⟨k, hk, by rw [at_swp hi hj, if_neg e1, if_neg e2]; exact e⟩
/-- The first n are a heap. -/
def Heap (l : List V) (n : Nat) : Prop := ∀ k, 0 < k → k < n → le (at_ l ((k - 1) / 2)) (at_ l k)
theorem Heap.first {l : List V} {n : Nat} (h : Heap l n) : ∀ k, k < n → le (at_ l 0) (at_ l k) := by
  intro k
  induction k using Nat.strongRecOn with
  | ind k ih =>
    intro hk
    by_cases e : k = 0
    · subst e; exact le_refl _
    · exact le_trans (ih ((k - 1) / 2) (by omega) (by omega)) (h k (by omega) hk)
structure Up (l : List V) (j : Nat) : Prop where
  lt : j < l.length
  heap : ∀ k, 0 < k → k < l.length → k ≠ j → le (at_ l ((k - 1) / 2)) (at_ l k)
  kids : ∀ k, 0 < k → k < l.length → (k - 1) / 2 = j → 0 < j → le (at_ l ((j - 1) / 2)) (at_ l k)
theorem Up.begin {l : List V} {x : V} (h : Heap l l.length) : Up (l ++ [x]) l.length := by
  have e : ∀ k, k < l.length → at_ (l ++ [x]) k = at_ l k := fun k hk => by unfold at_; rw [List.getD_eq_getElem?_getD, List.getD_eq_getElem?_getD, List.getElem?_append_left hk]
  refine ⟨by simp, fun k h0 hk hne => ?_, fun k h0 hk he h1 => ?_⟩
  · rw [List.length_append, List.length_singleton] at hk
    rw [e _ (by omega), e _ (by omega)]; exact h k h0 (by omega)
  · rw [List.length_append, List.length_singleton] at hk; omega
theorem Up.done {l : List V} {j : Nat} (h : Up l j) (hj : j = 0 ∨ ltB (at_ l j) (at_ l ((j - 1) / 2)) = false) : Heap l l.length := fun k h0 hk => by
  by_cases e : k = j
  · subst e
    rcases hj with e | e
    · omega
    · exact e
  · exact h.heap k h0 hk e
theorem Up.step {l : List V} {j : Nat} (h : Up l j) (hj : 0 < j) (hlt : ltB (at_ l j) (at_ l ((j - 1) / 2)) = true) : Up (swp l ((j - 1) / 2) j) ((j - 1) / 2) := by
  have hjl := h.lt
  have hpl : (j - 1) / 2 < l.length := by omega
  have hle := le_of_lt hlt
  refine ⟨by rw [swp_len]; exact hpl, fun k h0 hk hne => ?_, fun k h0 hk he h1 => ?_⟩
  · rw [swp_len] at hk
    rw [at_swp hpl hjl, at_swp hpl hjl]
    by_cases e1 : j = k
    · subst e1
      rw [if_neg (by omega), if_pos rfl, if_pos rfl]; exact hle
    · rw [if_neg e1]
      have hk2 := h.heap k h0 hk (Ne.symm e1)
      by_cases e2 : (j - 1) / 2 = k
      · omega
      · rw [if_neg e2]
        by_cases e3 : j = (k - 1) / 2
        · rw [if_pos e3]; exact h.kids k h0 hk e3.symm hj
        · rw [if_neg e3]
          by_cases e4 : (j - 1) / 2 = (k - 1) / 2
          · rw [if_pos e4]; rw [← e4] at hk2; exact le_trans hle hk2
          · rw [if_neg e4]; exact hk2
  · rw [swp_len] at hk
    have hp2 := h.heap ((j - 1) / 2) h1 hpl (by omega)
    rw [at_swp hpl hjl, at_swp hpl hjl]
    rw [if_neg (by omega), if_neg (by omega)]
    by_cases e1 : j = k
    · rw [if_pos e1]; exact hp2
    · rw [if_neg e1, if_neg (by omega)]
      have := h.heap k h0 hk (Ne.symm e1)
      rw [he] at this
      exact le_trans hp2 this
/-- Sifting down among the first n. -/
structure Down (l : List V) (i n : Nat) : Prop where
  le : n ≤ l.length
  heap : ∀ k, 0 < k → k < n → (k - 1) / 2 ≠ i → HP.le (at_ l ((k - 1) / 2)) (at_ l k)
  kids : ∀ k, 0 < k → k < n → (k - 1) / 2 = i → 0 < i → HP.le (at_ l ((i - 1) / 2)) (at_ l k)
theorem Down.begin {l : List V} {n : Nat} (h : Heap l l.length) (hl : l.length = n + 1) : Down (swp l 0 n) 0 n := by
  refine ⟨by rw [swp_len]; omega, fun k h0 hk hne => ?_, fun k h0 hk he h1 => by omega⟩
  rw [at_swp (by omega) (by omega), at_swp (by omega) (by omega)]
  rw [if_neg (by omega), if_neg (by omega), if_neg (by omega), if_neg (by omega)]
  exact h k h0 (by omega)
theorem Down.done {l : List V} {i n : Nat} (h : Down l i n) (hj : ∀ k, 0 < k → k < n → (k - 1) / 2 = i → HP.le (at_ l i) (at_ l k)) : Heap l n := fun k h0 hk => by
  by_cases e : (k - 1) / 2 = i
  · rw [e]; exact hj k h0 hk e
  · exact h.heap k h0 hk e
theorem Down.leaf {l : List V} {i n : Nat} (h : Down l i n) (hj : n ≤ 2 * i + 1) : Heap l n := h.done fun k h0 hk e => by omega
/-- j is the lesser child. -/
theorem Down.stop {l : List V} {i n j : Nat} (h : Down l i n) (hj : j = 2 * i + 1 ∨ j = 2 * i + 2) (hl : ∀ k, k < n → k = 2 * i + 1 ∨ k = 2 * i + 2 → HP.le (at_ l j) (at_ l k)) (hs : ltB (at_ l j) (at_ l i) = false) : Heap l n :=
  h.done fun k h0 hk e => le_trans hs (hl k hk (by omega))
theorem Down.step {l : List V} {i n j : Nat} (h : Down l i n) (hj : j = 2 * i + 1 ∨ j = 2 * i + 2) (hjn : j < n) (hl : ∀ k, k < n → k = 2 * i + 1 ∨ k = 2 * i + 2 → HP.le (at_ l j) (at_ l k)) (hs : ltB (at_ l j) (at_ l i) = true) : Down (swp l i j) j n := by
  have hn := h.le
  have hil : i < l.length := by omega
  have hjl : j < l.length := by omega
  have hle := le_of_lt hs
  refine ⟨by rw [swp_len]; exact h.le, fun k h0 hk hne => ?_, fun k h0 hk he h1 => ?_⟩
  · rw [at_swp hil hjl, at_swp hil hjl]
    rw [if_neg (Ne.symm hne)]
    by_cases e1 : i = (k - 1) / 2
    · rw [if_pos e1]
      by_cases e2 : j = k
      · rw [if_pos e2]; exact hle
      · rw [if_neg e2, if_neg (by omega)]
        exact hl k hk (by omega)
    · rw [if_neg e1]
      have hk2 := h.heap k h0 hk (Ne.symm e1)
      by_cases e2 : j = k
      · omega
      · rw [if_neg e2]
        by_cases e3 : i = k
        · subst e3; rw [if_pos rfl]
          exact h.kids j (by omega) hjn (by omega) h0
        · rw [if_neg e3]; exact hk2
  · have hk2 := h.heap k h0 hk (by omega)
    rw [at_swp hil hjl, at_swp hil hjl]
    have e : (j - 1) / 2 = i := by omega
    rw [e, if_neg (by omega), if_pos rfl, if_neg (by omega), if_neg (by omega)]
    rw [he] at hk2; exact hk2
theorem Heap.take {l : List V} {n : Nat} (h : Heap l n) (hl : l.length = n + 1) : Heap (l.take n) (l.take n).length := by
  have e : ∀ k, k < n → at_ (l.take n) k = at_ l k := fun k hk => by simp [at_, List.getD_eq_getElem?_getD, hk]
  intro k h0 hk
  rw [List.length_take, hl, Nat.min_eq_left (by omega)] at hk
  rw [e _ (by omega), e _ hk]; exact h k h0 hk
theorem split_last {l : List V} {n : Nat} (hl : l.length = n + 1) (p : V) : p ∈ l ↔ p = at_ l n ∨ p ∈ l.take n := by
  have e : l = l.take n ++ [at_ l n] := by
    apply List.ext_getElem?
    intro k
    rcases Nat.lt_or_ge k n with h | h
    · rw [List.getElem?_append_left (by simp; omega), List.getElem?_take_of_lt h]
    · rw [List.getElem?_append_right (by simp; omega)]
      have e2 : (l.take n).length = n := by simp; omega
      rw [e2]
      rcases Nat.lt_or_ge n k with h2 | h2
      · rw [List.getElem?_eq_none (by omega), List.getElem?_eq_none (by simp; omega)]
      · obtain rfl : k = n := by omega
        simp [at_, List.getD_eq_getElem?_getD, hl]
  constructor
  · intro h; rw [e] at h; rcases List.mem_append.1 h with h | h
    · exact .inr h
    · exact .inl (List.mem_singleton.1 h)
  · intro h; rw [e]; rcases h with h | h
    · exact List.mem_append_right _ (by simp [h])
    · exact List.mem_append_left _ h
end HP
end Go.Proofs.Ytphebdmdbnpokaa
