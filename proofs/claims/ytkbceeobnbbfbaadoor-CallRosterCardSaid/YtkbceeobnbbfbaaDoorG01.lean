/- Joined of: CM RM Math. -/

/- Plain laws of a day's grants: the day's grants are accepted, and only they. -/
set_option linter.unusedSimpArgs false
set_option linter.unusedVariables false
namespace Go.Proofs.YtkbceeobnbbfbaaDoor.CM

/-- The least of some numbers. -/
def leastL (r : Int) (l : List Nat) (left : Nat → Int) : Int := l.foldl (fun a q => min a (left q)) r
/-- What a right gets of what is left. -/
def lit (r : Int) (l : List Nat) (left : Nat → Int) : Int := if l.isEmpty then 0 else max 0 (leastL r l left)
section
variable (there : Nat → Int) (rc : Nat → List Nat) (rate : Nat → Int)
/-- What is left ahead of the n-th right. -/
def dayL : Nat → Nat → Int
  | 0, q => there q
  | n + 1, q => dayL n q - if q ∈ rc n then lit (rate n) (rc n) (dayL n) else 0
def dayG (n : Nat) : Int := lit (rate n) (rc n) (dayL there rc rate n)
/-- What is left behind n grants. -/
def leftE (got : Nat → Int) : Nat → Nat → Int
  | 0, q => there q
  | n + 1, q => leftE got n q - if q ∈ rc n then got n else 0
theorem dayL_succ (n q : Nat) : dayL there rc rate (n + 1) q = dayL there rc rate n q - if q ∈ rc n then lit (rate n) (rc n) (dayL there rc rate n) else 0 := rfl
theorem leftE_succ (got : Nat → Int) (n q : Nat) : leftE there rc got (n + 1) q = leftE there rc got n q - if q ∈ rc n then got n else 0 := rfl
theorem leastL_le : ∀ (l : List Nat) (r : Int) (left : Nat → Int), leastL r l left ≤ r ∧ ∀ q ∈ l, leastL r l left ≤ left q
  | [], r, _ => ⟨Int.le_refl _, fun _ h => by cases h⟩
  | q :: l, r, left => by
    have ih := leastL_le l (min r (left q)) left
    have e : leastL r (q :: l) left = leastL (min r (left q)) l left := rfl
    rw [e]
    refine ⟨by omega, fun p hp => ?_⟩
    rcases List.mem_cons.1 hp with rfl | h
    · omega
    · exact ih.2 p h
theorem leastL_is : ∀ (l : List Nat) (r : Int) (left : Nat → Int), leastL r l left = r ∨ ∃ q ∈ l, leastL r l left = left q
  | [], r, _ => .inl rfl
  | q :: l, r, left => by
    have e : leastL r (q :: l) left = leastL (min r (left q)) l left := rfl
    rw [e]
    rcases leastL_is l (min r (left q)) left with h | ⟨p, hp, h⟩
    · rw [h]
      by_cases g : r ≤ left q
      · left; omega
      · right; exact ⟨q, List.mem_cons_self .., by omega⟩
    · right; exact ⟨p, List.mem_cons_of_mem _ hp, h⟩
variable {there rc rate}
theorem lit_nn (r : Int) (l : List Nat) (left : Nat → Int) : 0 ≤ lit r l left := by unfold lit; split <;> omega
theorem lit_le {r : Int} {l : List Nat} {left : Nat → Int} : lit r l left ≤ max 0 r := by
  unfold lit
  have := (leastL_le l r left).1
  split <;> omega
theorem lit_left {r : Int} {l : List Nat} {left : Nat → Int} (h : ∀ q, 0 ≤ left q) {q : Nat} (hq : q ∈ l) : lit r l left ≤ left q := by
  have h1 := (leastL_le l r left).2 q hq
  have h2 := h q
  unfold lit
  split <;> omega
theorem dayL_nn (h : ∀ q, 0 ≤ there q) : ∀ n q, 0 ≤ dayL there rc rate n q
  | 0, q => h q
  | n + 1, q => by
    have ih := dayL_nn h n
    show 0 ≤ dayL there rc rate n q - _
    split
    · rename_i hq
      have := lit_left (r := rate n) ih hq
      omega
    · have := ih q; omega
theorem leftE_day (n q : Nat) : leftE there rc (dayG there rc rate) n q = dayL there rc rate n q := by
  induction n with
  | zero => rfl
  | succ n ih => show leftE there rc _ n q - _ = dayL there rc rate n q - _; rw [ih]; rfl
theorem dayL_zero (h : ∀ q, 0 ≤ there q) {i q : Nat} (hz : dayL there rc rate i q = 0) : ∀ k, dayL there rc rate (i + k) q = 0
  | 0 => hz
  | k + 1 => by
    have ih := dayL_zero h hz k
    rw [show i + (k + 1) = (i + k) + 1 from rfl, dayL_succ]
    split
    · rename_i hq
      have h1 := lit_left (r := rate (i + k)) (dayL_nn (rate := rate) (rc := rc) h (i + k)) hq
      have h2 := lit_nn (rate (i + k)) (rc (i + k)) (dayL there rc rate (i + k))
      omega
    · omega
/-- A STOP OF A SHORT RIGHT: nothing is left there, and no later right with water reaches it. -/
def StopAt (there : Nat → Int) (rc : Nat → List Nat) (got : Nat → Int) (m i q : Nat) : Prop := q ∈ rc i ∧ leftE there rc got m q ≤ 0 ∧ ∀ j, i < j → j < m → q ∈ rc j → got j ≤ 0
theorem day_stop (h : ∀ q, 0 ≤ there q) {m i : Nat} (hi : i < m) (hs : dayG there rc rate i < rate i) (hne : rc i ≠ []) :
    ∃ q, StopAt there rc (dayG there rc rate) m i q ∧ dayL there rc rate m q = 0 := by
  have e : dayG there rc rate i = max 0 (leastL (rate i) (rc i) (dayL there rc rate i)) := by
    unfold dayG lit
    rw [if_neg (by simpa using hne)]
  rcases leastL_is (rc i) (rate i) (dayL there rc rate i) with g | ⟨q, hq, g⟩
  · rw [e, g] at hs; omega
  · have hnn := dayL_nn (rate := rate) (rc := rc) h
    have h1 := hnn i q
    have e2 : dayG there rc rate i = dayL there rc rate i q := by rw [e, g]; omega
    have hz : dayL there rc rate (i + 1) q = 0 := by
      show dayL there rc rate i q - _ = 0
      rw [if_pos hq]
      have : lit (rate i) (rc i) (dayL there rc rate i) = dayG there rc rate i := rfl
      omega
    have hz2 := dayL_zero h hz
    have hm : dayL there rc rate m q = 0 := by
      have := hz2 (m - (i + 1))
      rwa [show i + 1 + (m - (i + 1)) = m by omega] at this
    refine ⟨q, ⟨hq, by rw [leftE_day, hm]; exact Int.le_refl _, fun j hj _ hqj => ?_⟩, hm⟩
    have := hz2 (j - (i + 1))
    rw [show i + 1 + (j - (i + 1)) = j by omega] at this
    have h3 := lit_left (r := rate j) (hnn j) hqj
    show lit (rate j) (rc j) (dayL there rc rate j) ≤ 0
    omega
theorem leftE_le {got : Nat → Int} (hg : ∀ j, 0 ≤ got j) (q : Nat) (n : Nat) : ∀ k, leftE there rc got (n + k) q ≤ leftE there rc got n q
  | 0 => Int.le_refl _
  | k + 1 => by
    have ih := leftE_le hg q n k
    have := hg (n + k)
    rw [show n + (k + 1) = (n + k) + 1 from rfl, leftE_succ]
    split <;> omega
theorem leftE_dry {got : Nat → Int} (q i : Nat) : ∀ k, (∀ j, i < j → j < i + 1 + k → q ∈ rc j → got j = 0) → leftE there rc got (i + 1 + k) q = leftE there rc got (i + 1) q
  | 0, _ => rfl
  | k + 1, h => by
    have ih := leftE_dry q i k (fun j h1 h2 => h j h1 (by omega))
    rw [show i + 1 + (k + 1) = (i + 1 + k) + 1 from rfl, leftE_succ]
    rw [ih]
    split
    · rename_i hq
      have := h (i + 1 + k) (by omega) (by omega) hq
      omega
    · omega
/-- ONLY THE DAY'S GRANTS ARE ACCEPTED. -/
theorem day_only (h : ∀ q, 0 ≤ there q) {m : Nat} {got : Nat → Int} (h0 : ∀ j, 0 ≤ got j) (h1 : ∀ j, j < m → got j ≤ max 0 (rate j)) (h2 : ∀ j, j < m → rc j = [] → got j = 0)
    (h3 : ∀ j, j < m → ∀ q ∈ rc j, 0 ≤ leftE there rc got m q) (h4 : ∀ i, i < m → got i < rate i → rc i ≠ [] → ∃ q, StopAt there rc got m i q) : ∀ i, i < m → got i = dayG there rc rate i := by
  have key : ∀ n, n ≤ m → (∀ i, i < n → got i = dayG there rc rate i) ∧ ∀ q, leftE there rc got n q = dayL there rc rate n q := by
    intro n
    induction n with
    | zero => exact fun _ => ⟨fun i hi => absurd hi (Nat.not_lt_zero _), fun q => rfl⟩
    | succ n ih =>
      intro hn
      obtain ⟨ih1, ih2⟩ := ih (by omega)
      have hg : got n = dayG there rc rate n := by
        by_cases hne : rc n = []
        · rw [h2 n (by omega) hne]
          unfold dayG lit
          rw [if_pos (by simp [hne])]
        · have hle : ∀ q ∈ rc n, got n ≤ dayL there rc rate n q := by
            intro q hq
            have a1 := h3 n (by omega) q hq
            have a2 := leftE_le (there := there) (rc := rc) h0 q (n + 1) (m - (n + 1))
            rw [show n + 1 + (m - (n + 1)) = m by omega] at a2
            have a3 : leftE there rc got (n + 1) q = leftE there rc got n q - got n := by
              show leftE there rc got n q - _ = _
              rw [if_pos hq]
            rw [ih2] at a3
            omega
          have hup : got n ≤ dayG there rc rate n := by
            unfold dayG lit
            rw [if_neg (by simpa using hne)]
            have a1 := h1 n (by omega)
            rcases leastL_is (rc n) (rate n) (dayL there rc rate n) with g | ⟨q, hq, g⟩
            · rw [g]; exact a1
            · rw [g]; have := hle q hq; omega
          rcases Int.lt_or_le (got n) (dayG there rc rate n) with hlt | hge
          · exfalso
            have hr : got n < rate n := by
              have := lit_le (r := rate n) (l := rc n) (left := dayL there rc rate n)
              have h5 : dayG there rc rate n ≤ max 0 (rate n) := this
              have h6 := h0 n
              omega
            obtain ⟨q, hq, hz, hdry⟩ := h4 n (by omega) hr hne
            have a1 := leftE_dry (there := there) (rc := rc) (got := got) q n (m - (n + 1)) (fun j j1 j2 jq => by
              have := hdry j j1 (by omega) jq
              have := h0 j
              omega)
            rw [show n + 1 + (m - (n + 1)) = m by omega] at a1
            have a3 : leftE there rc got (n + 1) q = leftE there rc got n q - got n := by
              show leftE there rc got n q - _ = _
              rw [if_pos hq]
            rw [ih2] at a3
            have a4 := lit_left (r := rate n) (dayL_nn (rate := rate) (rc := rc) h n) hq
            have a5 : dayG there rc rate n ≤ dayL there rc rate n q := a4
            omega
          · omega
      refine ⟨fun i hi => ?_, fun q => ?_⟩
      · by_cases g : i < n
        · exact ih1 i g
        · obtain rfl : i = n := by omega
          exact hg
      · show leftE there rc got n q - _ = dayL there rc rate n q - _
        rw [ih2, hg]; rfl
  exact (key m (Nat.le_refl _)).1
theorem dayG_nn (i : Nat) : 0 ≤ dayG there rc rate i := lit_nn _ _ _
theorem dayG_le (i : Nat) : dayG there rc rate i ≤ max 0 (rate i) := lit_le
theorem dayG_left (h : ∀ q, 0 ≤ there q) {i q : Nat} (hq : q ∈ rc i) : dayG there rc rate i ≤ dayL there rc rate i q := lit_left (dayL_nn h i) hq
theorem dayL_mono (n k q : Nat) : dayL there rc rate (n + k) q ≤ dayL there rc rate n q := by
  have := leftE_le (there := there) (rc := rc) (got := dayG there rc rate) (fun j => dayG_nn j) q n k
  rwa [leftE_day, leftE_day] at this
end
end Go.Proofs.YtkbceeobnbbfbaaDoor.CM

/- Plain laws of the places that water reaches, and of what there is at the beginning. -/
namespace Go.Proofs.YtkbceeobnbbfbaaDoor.CM

/-- A place: where its water goes, and how long it takes. -/
abbrev Pl := List (Int × Int)
def downP (pl : Pl) (p : Nat) : Int := (pl.getD p (0, 0)).1
def delayP (pl : Pl) (p : Nat) : Int := (pl.getD p (0, 0)).2
/-- The places from one on that have not been seen. -/
def reachG (pl : Pl) : Nat → Int → List Nat → List Nat
  | 0, _, _ => []
  | f + 1, p, acc => if 0 ≤ p ∧ p < pl.length ∧ p.toNat ∉ acc then p.toNat :: (if 24 ≤ delayP pl p.toNat then [] else reachG pl f (downP pl p.toNat) (acc ++ [p.toNat])) else []
def reach (pl : Pl) (p : Int) : List Nat := reachG pl (pl.length + 1) p []
theorem reachG_yes {pl : Pl} {f : Nat} {p : Nat} {acc : List Nat} (h : p < pl.length) (ha : p ∉ acc) :
    reachG pl (f + 1) (p : Int) acc = p :: (if 24 ≤ delayP pl p then [] else reachG pl f (downP pl p) (acc ++ [p])) := by
  show (if _ then _ else _) = _
  rw [if_pos ⟨by omega, by omega, by simpa using ha⟩]; rfl
theorem reachG_no {pl : Pl} {f : Nat} {p : Int} {acc : List Nat} (h : ¬ (0 ≤ p ∧ p < pl.length ∧ p.toNat ∉ acc)) : reachG pl f p acc = [] := by
  cases f with
  | zero => rfl
  | succ f => show (if _ then _ else _) = _; rw [if_neg h]
theorem reachG_facts (pl : Pl) : ∀ (f : Nat) (p : Int) (acc : List Nat), (∀ q ∈ reachG pl f p acc, q < pl.length ∧ q ∉ acc) ∧ (reachG pl f p acc).Nodup
  | 0, _, _ => ⟨(fun _ h => nomatch h), List.nodup_nil⟩
  | f + 1, p, acc => by
    by_cases h : 0 ≤ p ∧ p < pl.length ∧ p.toNat ∉ acc
    · obtain ⟨n, rfl⟩ : ∃ n : Nat, p = n := ⟨p.toNat, by omega⟩
      have hn : n < pl.length := by omega
      have ha : n ∉ acc := by simpa using h.2.2
      rw [reachG_yes hn ha]
      by_cases g : 24 ≤ delayP pl n
      · rw [if_pos g]
        exact ⟨fun q hq => by simp at hq; subst hq; exact ⟨hn, ha⟩, by simp⟩
      · rw [if_neg g]
        obtain ⟨i1, i2⟩ := reachG_facts pl f (downP pl n) (acc ++ [n])
        refine ⟨fun q hq => ?_, ?_⟩
        · rcases List.mem_cons.1 hq with rfl | hq
          · exact ⟨hn, ha⟩
          · exact ⟨(i1 q hq).1, fun e => (i1 q hq).2 (by simp [e])⟩
        · rw [List.nodup_cons]
          exact ⟨fun e => (i1 n e).2 (by simp), i2⟩
    · rw [reachG_no h]
      exact ⟨(fun _ h => nomatch h), List.nodup_nil⟩
theorem reach_lt {pl : Pl} {p : Int} {q : Nat} (h : q ∈ reach pl p) : q < pl.length := ((reachG_facts pl _ p []).1 q h).1
theorem reach_nodup (pl : Pl) (p : Int) : (reach pl p).Nodup := (reachG_facts pl _ p []).2
theorem reach_nil {pl : Pl} {p : Int} : reach pl p = [] ↔ ¬ (0 ≤ p ∧ p < pl.length) := by
  unfold reach
  constructor
  · intro h g
    obtain ⟨n, rfl⟩ : ∃ n : Nat, p = n := ⟨p.toNat, by omega⟩
    rw [reachG_yes (by omega) (by simp)] at h
    cases h
  · intro h
    exact reachG_no (fun g => h ⟨g.1, g.2.1⟩)
/-- At most so many places have been seen. -/
theorem nodup_len : ∀ (n : Nat) (l : List Nat), l.Nodup → (∀ q ∈ l, q < n) → l.length ≤ n
  | 0, l, _, h => by
    cases l with
    | nil => exact Nat.le_refl _
    | cons v l => have := h v (List.mem_cons_self ..); omega
  | n + 1, l, hn, h => by
    by_cases hm : n ∈ l
    · have ih := nodup_len n (l.erase n) (List.Nodup.erase _ hn) (fun q hq => by
        have h1 := h q (List.mem_of_mem_erase hq)
        have h2 : q ≠ n := fun e => by subst e; exact (List.Nodup.not_mem_erase hn) hq
        omega)
      have := List.length_erase_of_mem hm
      omega
    · have ih := nodup_len n l hn (fun q hq => by
        have h1 := h q hq
        have h2 : q ≠ n := fun e => hm (e ▸ hq)
        omega)
      omega
/-- The sum, limited to the range of an int. -/
def satA (a b : Int) : Int := if 0 < b ∧ 9223372036854775807 - b < a then 9223372036854775807 else if b < 0 ∧ a < -9223372036854775808 - b then -9223372036854775808 else a + b
def thereN (pl : Pl) (sup : Nat → Int) : Nat → Nat → Int
  | 0, _ => 0
  | p + 1, q => if 0 < sup p ∧ q ∈ reach pl (p : Int) then satA (thereN pl sup p q) (sup p) else thereN pl sup p q
theorem thereN_succ (pl : Pl) (sup : Nat → Int) (p q : Nat) : thereN pl sup (p + 1) q = if 0 < sup p ∧ q ∈ reach pl (p : Int) then satA (thereN pl sup p q) (sup p) else thereN pl sup p q := rfl
theorem satA_in {a b : Int} (ha : -9223372036854775808 ≤ a ∧ a ≤ 9223372036854775807) (hb : -9223372036854775808 ≤ b ∧ b ≤ 9223372036854775807) : -9223372036854775808 ≤ satA a b ∧ satA a b ≤ 9223372036854775807 := by
  unfold satA; split
  · omega
  · split <;> omega
theorem thereN_in {pl : Pl} {sup : Nat → Int} (hs : ∀ p, -9223372036854775808 ≤ sup p ∧ sup p ≤ 9223372036854775807) : ∀ n q, 0 ≤ thereN pl sup n q ∧ thereN pl sup n q ≤ 9223372036854775807
  | 0, _ => by show (0 : Int) ≤ 0 ∧ (0 : Int) ≤ _; omega
  | n + 1, q => by
    have ih := thereN_in (pl := pl) hs n q
    have h1 := hs n
    rw [thereN_succ]
    split
    · rename_i g
      unfold satA
      split
      · omega
      · split <;> omega
    · exact ih
/-- The sum of what is positive. -/
def posSum (sup : Nat → Int) : Nat → Int
  | 0 => 0
  | n + 1 => posSum sup n + max 0 (sup n)
theorem posSum_nn (sup : Nat → Int) : ∀ n, 0 ≤ posSum sup n
  | 0 => Int.le_refl _
  | n + 1 => by have := posSum_nn sup n; show 0 ≤ posSum sup n + _; omega
theorem thereN_le {pl : Pl} {sup : Nat → Int} : ∀ n q, posSum sup n ≤ 1125899906842624 → 0 ≤ thereN pl sup n q ∧ thereN pl sup n q ≤ posSum sup n
  | 0, _, _ => ⟨Int.le_refl _, Int.le_refl _⟩
  | n + 1, q, h => by
    have e : posSum sup (n + 1) = posSum sup n + max 0 (sup n) := rfl
    have hn := posSum_nn sup n
    have ih := thereN_le (pl := pl) (sup := sup) n q (by omega)
    rw [thereN_succ, e]
    split
    · rename_i g
      unfold satA
      rw [if_neg (by omega), if_neg (by omega)]
      omega
    · omega
/-- A right. -/
structure Rt where
  id : Int
  owner : Int
  date : Int
  place : Int
  rate : Int
  from1 : Int
  until1 : Int
  back : Int
  backTo : Int
end Go.Proofs.YtkbceeobnbbfbaaDoor.CM

/- Plain laws of the calendar (no program in sight): leap years, lengths of months, day numbers, and that a valid date is known by its day number. -/
namespace Go.Proofs.YtkbceeobnbbfbaaDoor.RR.DM

def lp (y : Int) : Int := if y % 4 = 0 ∧ (y % 100 ≠ 0 ∨ y % 400 = 0) then 1 else 0
def len (y m : Int) : Int := if m = 2 then 28 + lp y else if m = 4 ∨ m = 6 ∨ m = 9 ∨ m = 11 then 30 else 31
def bef (y : Int) : Int := 365 * (y - 2000) + (y - 2000 + 3) / 4 - (y - 2000 + 99) / 100 + (y - 2000 + 399) / 400
def base (m : Int) : Int :=
  if m ≤ 1 then 0 else if m = 2 then 31 else if m = 3 then 59 else if m = 4 then 90 else if m = 5 then 120 else if m = 6 then 151
  else if m = 7 then 181 else if m = 8 then 212 else if m = 9 then 243 else if m = 10 then 273 else if m = 11 then 304 else if m = 12 then 334 else 365
def cum (y m : Int) : Int := base m + (if 3 ≤ m then lp y else 0)
def num (y m d : Int) : Int := bef y + cum y m + (d - 1)
def vld (y m d : Int) : Prop := 1 ≤ m ∧ m ≤ 12 ∧ 1 ≤ d ∧ d ≤ len y m

theorem lp_01 (y : Int) : 0 ≤ lp y ∧ lp y ≤ 1 := by unfold lp; split <;> omega
theorem bef_succ (y : Int) : bef (y + 1) = bef y + 365 + lp y := by unfold bef lp; split <;> omega
theorem bef_le {y z : Int} (h : y < z) : bef (y + 1) ≤ bef z := by unfold bef; omega
theorem bef_mono {y z : Int} (h : y ≤ z) : bef y ≤ bef z := by unfold bef; omega
theorem cum_succ (y m : Int) (h1 : 1 ≤ m) (h2 : m ≤ 12) : cum y (m + 1) = cum y m + len y m := by
  have : m = 1 ∨ m = 2 ∨ m = 3 ∨ m = 4 ∨ m = 5 ∨ m = 6 ∨ m = 7 ∨ m = 8 ∨ m = 9 ∨ m = 10 ∨ m = 11 ∨ m = 12 := by omega
  rcases this with h | h | h | h | h | h | h | h | h | h | h | h <;> subst h <;> simp [cum, base, len] <;> omega
theorem len_bd (y m : Int) : 28 ≤ len y m ∧ len y m ≤ 31 := by have := lp_01 y; unfold len; repeat' split <;> omega
theorem cum_13 (y : Int) : cum y 13 = 365 + lp y := by simp [cum, base]
theorem cum_1 (y : Int) : cum y 1 = 0 := by simp [cum, base]
theorem cum_bd (y m : Int) : 0 ≤ cum y m ∧ cum y m ≤ 366 := by
  have := lp_01 y; unfold cum base; repeat' split <;> omega
theorem cum_lt {y m n : Int} (h1 : 1 ≤ m) (h2 : n ≤ 12) (h : m < n) : cum y m + len y m ≤ cum y n := by
  have e : ∀ k : Nat, m + 1 + k ≤ 12 → cum y (m + 1) ≤ cum y (m + 1 + k) := by
    intro k
    induction k with
    | zero => intro _; simp
    | succ k ih =>
      intro hk
      have := cum_succ y (m + 1 + k) (by omega) (by omega)
      have := len_bd y (m + 1 + k)
      have := ih (by omega)
      have e2 : m + 1 + ((k + 1 : Nat) : Int) = m + 1 + k + 1 := by omega
      rw [e2]; omega
  have := cum_succ y m h1 (by omega)
  obtain ⟨k, hk⟩ := Int.eq_ofNat_of_zero_le (show 0 ≤ n - (m + 1) by omega)
  have := e k (by omega)
  have e3 : m + 1 + (k : Int) = n := by omega
  rw [e3] at this; omega
theorem num_lt (y m d : Int) (h : vld y m d) : bef y ≤ num y m d ∧ num y m d < bef (y + 1) := by
  obtain ⟨a, b, c, e⟩ := h
  have h1 := cum_bd y m
  have h2 : cum y m + len y m ≤ 365 + lp y := by
    by_cases hm : m = 12
    · subst hm; have := cum_succ y 12 (by omega) (by omega); have h13 := cum_13 y; rw [show (12:Int)+1 = 13 from rfl] at this; omega
    · have := cum_lt (y := y) (m := m) (n := 12) a (by omega) (by omega)
      have := cum_succ y 12 (by omega) (by omega); have h13 := cum_13 y; rw [show (12:Int)+1 = 13 from rfl] at this
      have := len_bd y 12
      omega
  rw [bef_succ]; unfold num; omega
theorem num_inj {y m d y' m' d' : Int} (h : vld y m d) (h' : vld y' m' d') (e : num y m d = num y' m' d') : y = y' ∧ m = m' ∧ d = d' := by
  have a := num_lt _ _ _ h
  have b := num_lt _ _ _ h'
  have hy : y = y' := by
    rcases Int.lt_trichotomy y y' with c | c | c
    · have := bef_le c; omega
    · exact c
    · have := bef_le c; omega
  subst hy
  obtain ⟨p1, p2, p3, p4⟩ := h
  obtain ⟨q1, q2, q3, q4⟩ := h'
  have e' : cum y m + d = cum y m' + d' := by unfold num at e; omega
  have hm : m = m' := by
    rcases Int.lt_trichotomy m m' with c | c | c
    · have := cum_lt (y := y) p1 q2 c; omega
    · exact c
    · have := cum_lt (y := y) q1 p2 c; omega
  subst hm
  exact ⟨rfl, rfl, by omega⟩
theorem bef_400 (y : Int) : bef (y + 400) = bef y + 146097 := by unfold bef; omega
theorem lp_400 (y : Int) : lp (y + 400) = lp y := by unfold lp; simp only [show (y + 400) % 4 = y % 4 by omega, show (y + 400) % 100 = y % 100 by omega, show (y + 400) % 400 = y % 400 by omega]
theorem len_400 (y m : Int) : len (y + 400) m = len y m := by unfold len; rw [lp_400]
theorem num_400 (y m d : Int) : num (y + 400) m d = num y m d + 146097 := by unfold num cum; rw [bef_400, lp_400]; omega
theorem bef_guess (k : Int) (h : 0 ≤ k) : bef (2000 + k / 366) ≤ k := by unfold bef; omega
theorem bef_2000 : bef 2000 = 0 := by simp [bef]
theorem bef_big {y : Int} (h : bef y ≤ 699050) : y ≤ 3914 := by unfold bef at h; omega
theorem bef_nonneg {y : Int} (h : 2000 ≤ y) : 0 ≤ bef y := by unfold bef; omega
end Go.Proofs.YtkbceeobnbbfbaaDoor.RR.DM

