/- Plain laws of the stable sort: insertion sort in blocks, and the symmetric merge. -/
import Derived.Sort.LotA
set_option linter.unusedSectionVars false
set_option linter.unusedSimpArgs false
set_option linter.unusedVariables false
namespace Go.Proofs.YtminphldifncaaaDoor.ST
open Go.Sort
variable {α : Type} [Inhabited α]

/-- The elements at a ≤ i < b. -/
def seg (d : Array α) (a b : Nat) : List α := (d.extract a b).toList
theorem seg_length (d : Array α) (a b : Nat) (hb : b ≤ d.size) : (seg d a b).length = b - a := by
  simp [seg]; omega
theorem seg_get (d : Array α) (a b t : Nat) (hb : b ≤ d.size) (h : t < b - a) : (seg d a b)[t]? = some d[a + t]! := by
  have h1 : a + t < d.size := by omega
  rw [getElem!_pos d (a + t) h1]
  simp only [seg, Array.getElem?_toList]
  rw [Array.getElem?_eq_getElem (by simp; omega)]
  simp
theorem seg_append (d : Array α) {a b c : Nat} (h1 : a ≤ b) (h2 : b ≤ c) : seg d a b ++ seg d b c = seg d a c := by
  simp only [seg]
  rw [← Array.toList_append, Array.extract_append_extract, Nat.min_eq_left h1, Nat.max_eq_right h2]
theorem seg_nil (d : Array α) {a b : Nat} (h : b ≤ a) : seg d a b = [] := by
  simp [seg]; omega
theorem seg_congr {d d' : Array α} {a b a' b' : Nat} (hb : b ≤ d.size) (hb' : b' ≤ d'.size) (hl : b - a = b' - a') (h : ∀ t, t < b - a → d[a + t]! = d'[a' + t]!) : seg d a b = seg d' a' b' := by
  apply List.ext_getElem?
  intro t
  by_cases ht : t < b - a
  · rw [seg_get d a b t hb ht, seg_get d' a' b' t hb' (by omega), h t ht]
  · rw [List.getElem?_eq_none (by rw [seg_length d a b hb]; omega), List.getElem?_eq_none (by rw [seg_length d' a' b' hb']; omega)]
theorem seg_all (d : Array α) : seg d 0 d.size = d.toList := by simp [seg]
theorem seg_mem {d : Array α} {a b : Nat} (hb : b ≤ d.size) {x : α} (h : x ∈ seg d a b) : ∃ t, a ≤ t ∧ t < b ∧ d[t]! = x := by
  obtain ⟨t, ht⟩ := List.mem_iff_getElem?.1 h
  have hl := (List.getElem?_eq_some_iff.1 ht).1
  rw [seg_length d a b hb] at hl
  rw [seg_get d a b t hb hl] at ht
  exact ⟨a + t, by omega, by omega, Option.some.inj ht⟩

/-! ### Exchanges -/
/-- n exchanges of a + i and b + i. -/
def swapR (d : Array α) (a b : Nat) : Nat → Array α
  | 0 => d
  | n + 1 => swp (swapR d a b n) (a + n) (b + n)
@[simp] theorem size_swapR (d : Array α) (a b : Nat) : ∀ n, (swapR d a b n).size = d.size
  | 0 => rfl
  | n + 1 => by rw [swapR, size_swp, size_swapR d a b n]
theorem get_swapR (d : Array α) (a b : Nat) : ∀ n, a + n ≤ b → b + n ≤ d.size → ∀ t, (swapR d a b n)[t]! = if a ≤ t ∧ t < a + n then d[t - a + b]! else if b ≤ t ∧ t < b + n then d[t - b + a]! else d[t]!
  | 0, _, _, t => by rw [swapR, if_neg (by omega), if_neg (by omega)]
  | n + 1, h1, h2, t => by
    have ih := get_swapR d a b n (by omega) (by omega)
    rw [swapR, swp_get (swapR d a b n) (by rw [size_swapR]; omega) (by rw [size_swapR]; omega), ih, ih, ih]
    (repeat' split) <;> first | (exfalso; omega) | rfl | (congr 1 <;> omega)

/-- The rotation of the i places ahead of m with the j places from m on. -/
def rot (m : Nat) : Nat → Nat → Array α → Array α
  | i, j, d =>
    if i = j ∨ i = 0 ∨ j = 0 then swapR d (m - i) m i
    else if i > j then rot m (i - j) j (swapR d (m - i) m j)
    else rot m i (j - i) (swapR d (m - i) (m + j - i) i)
termination_by i j => i + j
theorem rot_eq (m i : Nat) (d : Array α) : rot m i i d = swapR d (m - i) m i := by rw [rot, if_pos (Or.inl rfl)]
theorem rot_gt (m i j : Nat) (d : Array α) (h0 : 0 < j) (h : i > j) : rot m i j d = rot m (i - j) j (swapR d (m - i) m j) := by
  rw [rot, if_neg (by omega), if_pos h]
theorem rot_lt (m i j : Nat) (d : Array α) (h0 : 0 < i) (h : i < j) : rot m i j d = rot m i (j - i) (swapR d (m - i) (m + j - i) i) := by
  rw [rot, if_neg (by omega), if_neg (by omega)]
@[simp] theorem size_rot (m i j : Nat) (d : Array α) : (rot m i j d).size = d.size := by
  fun_induction rot m i j d <;> simp_all
theorem get_rot (m i j : Nat) (d : Array α) (hi : 0 < i) (hj : 0 < j) (him : i ≤ m) (hjs : m + j ≤ d.size) (t : Nat) :
    (rot m i j d)[t]! = if m - i ≤ t ∧ t < m - i + j then d[t + i]! else if m - i + j ≤ t ∧ t < m + j then d[t - j]! else d[t]! := by
  induction hN : i + j using Nat.strongRecOn generalizing i j d t with
  | ind N ih =>
    rcases Nat.lt_trichotomy i j with h | h | h
    · rw [rot_lt m i j d hi h, ih (i + (j - i)) (by omega) i (j - i) _ hi (by omega) him (by rw [size_swapR]; omega) t rfl]
      have g := get_swapR d (m - i) (m + j - i) i (by omega) (by omega)
      rw [g, g, g]
      (repeat' split) <;> first | (exfalso; omega) | rfl | (congr 1 <;> omega)
    · subst h
      rw [rot_eq, get_swapR d (m - i) m i (by omega) (by omega)]
      (repeat' split) <;> first | (exfalso; omega) | rfl | (congr 1 <;> omega)
    · rw [rot_gt m i j d hj h, ih (i - j + j) (by omega) (i - j) j _ (by omega) hj (by omega) (by rw [size_swapR]; omega) t rfl]
      have g := get_swapR d (m - i) m j (by omega) (by omega)
      rw [g, g, g]
      (repeat' split) <;> first | (exfalso; omega) | rfl | (congr 1 <;> omega)

/-- c exchanges upwards: the element at a goes to a + c. -/
def upR (d : Array α) (a : Nat) : Nat → Array α
  | 0 => d
  | c + 1 => swp (upR d a c) (a + c) (a + c + 1)
@[simp] theorem size_upR (d : Array α) (a : Nat) : ∀ n, (upR d a n).size = d.size
  | 0 => rfl
  | n + 1 => by rw [upR, size_swp, size_upR d a n]
theorem get_upR (d : Array α) (a : Nat) : ∀ c, a + c < d.size → ∀ t, (upR d a c)[t]! = if a ≤ t ∧ t < a + c then d[t + 1]! else if t = a + c then d[a]! else d[t]!
  | 0, _, t => by
    rw [upR]
    (repeat' split) <;> first | (exfalso; omega) | rfl | (congr 1 <;> omega)
  | c + 1, h, t => by
    have ih := get_upR d a c (by omega)
    rw [upR, swp_get (upR d a c) (by rw [size_upR]; omega) (by rw [size_upR]; omega), ih, ih, ih]
    (repeat' split) <;> first | (exfalso; omega) | rfl | (congr 1 <;> omega)

/-- c exchanges downwards: the element at m goes to m - c. -/
def downR (d : Array α) (m : Nat) : Nat → Array α
  | 0 => d
  | c + 1 => swp (downR d m c) (m - c) (m - c - 1)
@[simp] theorem size_downR (d : Array α) (a : Nat) : ∀ n, (downR d a n).size = d.size
  | 0 => rfl
  | n + 1 => by rw [downR, size_swp, size_downR d a n]
theorem get_downR (d : Array α) (m : Nat) : ∀ c, c ≤ m → m < d.size → ∀ t, (downR d m c)[t]! = if m - c < t ∧ t ≤ m then d[t - 1]! else if t = m - c then d[m]! else d[t]!
  | 0, _, _, t => by
    rw [downR]
    (repeat' split) <;> first | (exfalso; omega) | rfl | (congr 1 <;> omega)
  | c + 1, h, hs, t => by
    have ih := get_downR d m c (by omega) hs
    rw [downR, swp_get (downR d m c) (by rw [size_downR]; omega) (by rw [size_downR]; omega), ih, ih, ih]
    (repeat' split) <;> first | (exfalso; omega) | rfl | (congr 1 <;> omega)

/-! ### The search -/
/-- The first place from i on, below j, where p does not hold, by halves. -/
def bs (p : Nat → Bool) (i j : Nat) : Nat :=
  if i < j then (if p ((i + j) / 2) then bs p ((i + j) / 2 + 1) j else bs p i ((i + j) / 2)) else i
termination_by j - i
theorem bs_stop (p : Nat → Bool) (i j : Nat) (h : ¬ i < j) : bs p i j = i := by rw [bs, if_neg h]
theorem bs_yes (p : Nat → Bool) (i j : Nat) (h : i < j) (hp : p ((i + j) / 2) = true) : bs p i j = bs p ((i + j) / 2 + 1) j := by rw [bs, if_pos h, if_pos hp]
theorem bs_no (p : Nat → Bool) (i j : Nat) (h : i < j) (hp : p ((i + j) / 2) = false) : bs p i j = bs p i ((i + j) / 2) := by rw [bs, if_pos h, if_neg (by simp [hp])]
/-- Where p holds up to some place only. -/
theorem bs_spec (p : Nat → Bool) (i j : Nat) (hij : i ≤ j) (hm : ∀ x y, i ≤ x → x ≤ y → y < j → p y = true → p x = true) :
    i ≤ bs p i j ∧ bs p i j ≤ j ∧ (∀ x, i ≤ x → x < bs p i j → p x = true) ∧ (∀ x, bs p i j ≤ x → x < j → p x = false) := by
  fun_induction bs p i j with
  | case1 i j h hp ih =>
    obtain ⟨h1, h2, h3, h4⟩ := ih (by omega) (fun x y a b c => hm x y (by omega) b c)
    refine ⟨by omega, h2, fun x a b => ?_, h4⟩
    by_cases hx : x ≤ (i + j) / 2
    · exact hm x _ a hx (by omega) hp
    · exact h3 x (by omega) b
  | case2 i j h hp ih =>
    obtain ⟨h1, h2, h3, h4⟩ := ih (by omega) (fun x y a b c => hm x y a b (by omega))
    refine ⟨h1, by omega, h3, fun x a b => ?_⟩
    by_cases hx : x < (i + j) / 2
    · exact h4 x a hx
    · cases hpx : p x with
      | false => rfl
      | true => exact absurd (hm ((i + j) / 2) x (by omega) (by omega) b hpx) hp
  | case3 i j h =>
    exact ⟨Nat.le_refl _, hij, fun x a b => absurd b (by omega), fun x a b => absurd b (by omega)⟩

section
variable (lt : α → α → Bool)

/-! ### The merge of lists -/
def merge : List α → List α → List α
  | [], Y => Y
  | x :: X, [] => x :: X
  | x :: X, y :: Y => if lt y x then y :: merge (x :: X) Y else x :: merge X (y :: Y)
@[simp] theorem merge_nil_left (Y : List α) : merge lt [] Y = Y := by rw [merge]
@[simp] theorem merge_nil_right (X : List α) : merge lt X [] = X := by cases X <;> rw [merge]
theorem merge_lt (x : α) (X : List α) (y : α) (Y : List α) (h : lt y x = true) : merge lt (x :: X) (y :: Y) = y :: merge lt (x :: X) Y := by rw [merge, if_pos h]
theorem merge_ge (x : α) (X : List α) (y : α) (Y : List α) (h : lt y x = false) : merge lt (x :: X) (y :: Y) = x :: merge lt X (y :: Y) := by rw [merge, if_neg (by simp [h])]
theorem merge_split (X1 Y1 X2 Y2 : List α) (h1 : ∀ x ∈ X2, ∀ y ∈ Y1, lt y x = true) (h2 : ∀ x ∈ X1, ∀ y ∈ Y2, lt y x = false) :
    merge lt (X1 ++ X2) (Y1 ++ Y2) = merge lt X1 Y1 ++ merge lt X2 Y2 := by
  induction X1 generalizing Y1 with
  | nil =>
    induction Y1 with
    | nil => simp
    | cons y Y1 ih =>
      cases X2 with
      | nil => simp
      | cons x X2 =>
        have := ih (fun x hx y hy => h1 x hx y (by simp [hy]))
        simp only [List.nil_append, List.cons_append, merge_nil_left] at this ⊢
        rw [merge_lt lt x X2 y _ (h1 x (by simp) y (by simp)), this]
  | cons x X1 ih =>
    induction Y1 with
    | nil =>
      cases Y2 with
      | nil => simp
      | cons y Y2 =>
        have := ih [] (fun _ _ _ h => by cases h) (fun x hx y hy => h2 x (by simp [hx]) y hy)
        simp only [List.nil_append, List.cons_append, merge_nil_right] at this ⊢
        rw [merge_ge lt x _ y _ (h2 x (by simp) y (by simp)), this]
    | cons y Y1 ihY =>
      cases hlt : lt y x with
      | true =>
        have := ihY (fun x hx y hy => h1 x hx y (by simp [hy]))
        simp only [List.cons_append] at this ⊢
        rw [merge_lt lt x _ y _ hlt, merge_lt lt x _ y _ hlt, this]
        rfl
      | false =>
        have := ih (y :: Y1) h1 (fun x hx y hy => h2 x (by simp [hx]) y hy)
        simp only [List.cons_append] at this ⊢
        rw [merge_ge lt x _ y _ hlt, merge_ge lt x _ y _ hlt, this]
        rfl

/-! ### The symmetric merge -/
def sM (a m b : Nat) : Nat := if m > (a + b) / 2 then (a + b) / 2 + m - b else a
def rM (a m b : Nat) : Nat := if m > (a + b) / 2 then (a + b) / 2 else m
/-- Where the parts ahead of m and behind it are cut. -/
def cut (a m b : Nat) (d : Array α) : Nat := bs (fun c => !lt d[(a + b) / 2 + m - 1 - c]! d[c]!) (sM a m b) (rM a m b)
def turned (a m b : Nat) (d : Array α) : Array α :=
  if cut lt a m b d < m ∧ m < (a + b) / 2 + m - cut lt a m b d then rot m (m - cut lt a m b d) ((a + b) / 2 + m - cut lt a m b d - m) d else d
/-- The merge of a..m and m..b in place. -/
def symM (a m b : Nat) (d : Array α) : Array α :=
  if h : m ≤ a ∨ b ≤ m then d else
  if m - a = 1 then upR d a (bs (fun h => lt d[h]! d[a]!) m b - 1 - a) else
  if b - m = 1 then downR d m (m - bs (fun h => !lt d[m]! d[h]!) a m) else
    symM ((a + b) / 2) ((a + b) / 2 + m - cut lt a m b d) b (symM a (cut lt a m b d) ((a + b) / 2) (turned lt a m b d))
termination_by b - a
decreasing_by all_goals omega
theorem symM_none (a m b : Nat) (d : Array α) (h : m ≤ a ∨ b ≤ m) : symM lt a m b d = d := by rw [symM, dif_pos h]
theorem symM_left (a m b : Nat) (d : Array α) (h1 : a < m) (h2 : m < b) (h : m - a = 1) : symM lt a m b d = upR d a (bs (fun h => lt d[h]! d[a]!) m b - 1 - a) := by
  rw [symM, dif_neg (by omega), if_pos h]
theorem symM_right (a m b : Nat) (d : Array α) (h1 : a < m) (h2 : m < b) (h3 : m - a ≠ 1) (h : b - m = 1) : symM lt a m b d = downR d m (m - bs (fun h => !lt d[m]! d[h]!) a m) := by
  rw [symM, dif_neg (by omega), if_neg h3, if_pos h]
theorem symM_halves (a m b : Nat) (d : Array α) (h1 : a < m) (h2 : m < b) (h3 : m - a ≠ 1) (h : b - m ≠ 1) : symM lt a m b d =
    symM lt ((a + b) / 2) ((a + b) / 2 + m - cut lt a m b d) b (symM lt a (cut lt a m b d) ((a + b) / 2) (turned lt a m b d)) := by
  rw [symM, dif_neg (by omega), if_neg h3, if_neg h]
@[simp] theorem size_turned (a m b : Nat) (d : Array α) : (turned lt a m b d).size = d.size := by
  unfold turned; split <;> simp
@[simp] theorem size_symM (a m b : Nat) (d : Array α) : (symM lt a m b d).size = d.size := by
  fun_induction symM lt a m b d <;> simp_all

theorem merge_one (x : α) (Y1 Y2 : List α) (h1 : ∀ y ∈ Y1, lt y x = true) (h2 : ∀ y ∈ Y2, lt y x = false) : merge lt [x] (Y1 ++ Y2) = Y1 ++ x :: Y2 := by
  have := merge_split lt [] Y1 [x] Y2 (by simpa using h1) (by simp)
  rw [List.nil_append, merge_nil_left] at this
  rw [this]
  cases Y2 with
  | nil => rw [merge_nil_right]
  | cons y Y2 => rw [merge_ge lt x [] y Y2 (h2 y (by simp)), merge_nil_left]
theorem merge_last (y : α) (X1 X2 : List α) (h1 : ∀ x ∈ X1, lt y x = false) (h2 : ∀ x ∈ X2, lt y x = true) : merge lt (X1 ++ X2) [y] = X1 ++ y :: X2 := by
  have := merge_split lt X1 [] X2 [y] (by simp) (by simpa using h1)
  rw [List.nil_append, merge_nil_right] at this
  rw [this]
  cases X2 with
  | nil => rw [merge_nil_left]
  | cons x X2 => rw [merge_lt lt x X2 y [] (h2 x (by simp)), merge_nil_right]

/-- Ascending. -/
def Asc (l : List α) : Prop := l.Pairwise fun x y => lt y x = false
theorem asc_get {d : Array α} {a b : Nat} (hb : b ≤ d.size) (h : Asc lt (seg d a b)) {s t : Nat} (h1 : a ≤ s) (h2 : s < t) (h3 : t < b) : lt d[t]! d[s]! = false := by
  have := List.pairwise_iff_getElem.1 h (s - a) (t - a) (by rw [seg_length d a b hb]; omega) (by rw [seg_length d a b hb]; omega) (by omega)
  have e1 := seg_get d a b (s - a) hb (by omega)
  have e2 := seg_get d a b (t - a) hb (by omega)
  rw [List.getElem?_eq_getElem (by rw [seg_length d a b hb]; omega)] at e1 e2
  rw [Option.some.inj e1, Option.some.inj e2, show a + (t - a) = t by omega, show a + (s - a) = s by omega] at this
  exact this
theorem asc_le {d : Array α} {a b : Nat} (hS : SWO lt) (hb : b ≤ d.size) (h : Asc lt (seg d a b)) {s t : Nat} (h1 : a ≤ s) (h2 : s ≤ t) (h3 : t < b) : lt d[t]! d[s]! = false := by
  rcases Nat.lt_or_ge s t with c | c
  · exact asc_get lt hb h h1 c h3
  · have : s = t := by omega
    subst this; exact hS.irrefl _

theorem SWO.lt_of_lt_of_le {lt : α → α → Bool} (hS : SWO lt) {x y z : α} (h1 : lt x y = true) (h2 : lt z y = false) : lt x z = true := by
  cases h : lt x z with
  | true => rfl
  | false => have := hS.ntrans x z y h h2; rw [h1] at this; cases this
theorem SWO.lt_of_le_of_lt {lt : α → α → Bool} (hS : SWO lt) {x y z : α} (h1 : lt y x = false) (h2 : lt y z = true) : lt x z = true := by
  cases h : lt x z with
  | true => rfl
  | false => have := hS.ntrans y x z h1 h; rw [h2] at this; cases this

theorem seg_one (d : Array α) (a : Nat) (h : a < d.size) : seg d a (a + 1) = [d[a]!] := by
  apply List.ext_getElem?
  intro t
  cases t with
  | zero => rw [seg_get d a (a + 1) 0 (by omega) (by omega)]; rfl
  | succ t => rw [List.getElem?_eq_none (by rw [seg_length d a _ (by omega)]; omega)]; rfl

/-- The merge in place is the merge of the two lists; nothing else is touched. -/
theorem symM_spec (hS : SWO lt) : ∀ (N a m b : Nat) (d : Array α), b - a ≤ N → a ≤ m → m ≤ b → b ≤ d.size → Asc lt (seg d a m) → Asc lt (seg d m b) →
    seg (symM lt a m b d) a b = merge lt (seg d a m) (seg d m b) ∧ ∀ t, t < a ∨ b ≤ t → (symM lt a m b d)[t]! = d[t]! := by
  intro N
  induction N with
  | zero =>
    intro a m b d hN h1 h2 hb hX hY
    rw [symM_none lt a m b d (by omega), seg_nil d (by omega), seg_nil d (by omega), seg_nil d (by omega)]
    exact ⟨(merge_nil_left lt []).symm, fun _ _ => rfl⟩
  | succ N ih =>
    intro a m b d hN h1 h2 hb hX hY
    by_cases c0 : m ≤ a ∨ b ≤ m
    · rw [symM_none lt a m b d c0]
      refine ⟨?_, fun _ _ => rfl⟩
      rcases c0 with c | c
      · have : m = a := by omega
        subst this
        rw [seg_nil d (Nat.le_refl _), merge_nil_left]
      · have : m = b := by omega
        subst this
        rw [seg_nil d (Nat.le_refl m), merge_nil_right]
    have ham : a < m := by omega
    have hmb : m < b := by omega
    by_cases c1 : m - a = 1
    · have hm : m = a + 1 := by omega
      subst hm
      rw [symM_left lt a (a + 1) b d ham hmb c1]
      obtain ⟨s1, s2, s3, s4⟩ := bs_spec (fun h => lt d[h]! d[a]!) (a + 1) b (by omega) (fun x y e1 e2 e3 e4 => by
        exact SWO.lt_of_le_of_lt hS (asc_le lt hS hb hY e1 e2 e3) e4)
      generalize bs (fun h => lt d[h]! d[a]!) (a + 1) b = i at *
      have hg := get_upR d a (i - 1 - a) (by omega)
      refine ⟨?_, fun t ht => by rw [hg, if_neg (by omega), if_neg (by omega)]⟩
      rw [seg_one d a (by omega), ← seg_append d s1 s2, merge_one lt _ _ _ (fun y hy => by
          obtain ⟨t, e1, e2, rfl⟩ := seg_mem (by omega) hy
          exact s3 t e1 e2) (fun y hy => by
          obtain ⟨t, e1, e2, rfl⟩ := seg_mem hb hy
          exact s4 t e1 e2)]
      rw [← seg_append _ (show a ≤ i - 1 by omega) (show i - 1 ≤ b by omega), ← seg_append _ (show i - 1 ≤ i by omega) s2]
      congr 1
      · exact seg_congr (by rw [size_upR]; omega) (by omega) (by omega) fun t ht => by
          rw [hg, if_pos (by omega)]; congr 1 <;> omega
      · obtain ⟨q, rfl⟩ : ∃ q, i = q + 1 := ⟨i - 1, by omega⟩
        rw [Nat.add_sub_cancel, seg_one _ q (by rw [size_upR]; omega)]
        have e1 : (upR d a (q - a))[q]! = d[a]! := by
          have hg := hg q
          rw [Nat.add_sub_cancel] at hg
          rw [hg, if_neg (by omega), if_pos (by omega)]
        rw [e1]
        show d[a]! :: _ = d[a]! :: _
        congr 1
        exact seg_congr (by rw [size_upR]; omega) (by omega) rfl fun t ht => by
          have hg := hg (q + 1 + t)
          rw [Nat.add_sub_cancel] at hg
          rw [hg, if_neg (by omega), if_neg (by omega)]
    by_cases c2 : b - m = 1
    · have hm : b = m + 1 := by omega
      subst hm
      rw [symM_right lt a m (m + 1) d ham hmb c1 c2]
      obtain ⟨s1, s2, s3, s4⟩ := bs_spec (fun h => !lt d[m]! d[h]!) a m (by omega) (fun x y e1 e2 e3 e4 => by
        simp only [Bool.not_eq_true'] at e4 ⊢
        exact hS.ntrans _ _ _ e4 (asc_le lt hS (by omega) hX e1 e2 e3))
      generalize bs (fun h => !lt d[m]! d[h]!) a m = i at *
      have hg := get_downR d m (m - i) (by omega) (by omega)
      refine ⟨?_, fun t ht => by rw [hg, if_neg (by omega), if_neg (by omega)]⟩
      rw [seg_one d m (by omega), ← seg_append d s1 s2, merge_last lt _ _ _ (fun y hy => by
          obtain ⟨t, e1, e2, rfl⟩ := seg_mem (by omega) hy
          simpa using s3 t e1 e2) (fun y hy => by
          obtain ⟨t, e1, e2, rfl⟩ := seg_mem (by omega) hy
          simpa using s4 t e1 e2)]
      rw [← seg_append _ (show a ≤ i by omega) (show i ≤ m + 1 by omega), ← seg_append _ (show i ≤ i + 1 by omega) (show i + 1 ≤ m + 1 by omega)]
      congr 1
      · exact seg_congr (by rw [size_downR]; omega) (by omega) (by omega) fun t ht => by
          rw [hg, if_neg (by omega), if_neg (by omega)]
      · rw [seg_one _ i (by rw [size_downR]; omega)]
        have e1 : (downR d m (m - i))[i]! = d[m]! := by rw [hg, if_neg (by omega), if_pos (by omega)]
        rw [e1]
        show d[m]! :: _ = d[m]! :: _
        congr 1
        exact seg_congr (by rw [size_downR]; omega) (by omega) (by omega) fun t ht => by
          rw [hg, if_pos (by omega)]; congr 1 <;> omega
    rw [symM_halves lt a m b d ham hmb c1 c2]
    have hsr : sM a m b ≤ rM a m b := by unfold sM rM; split <;> omega
    have has : a ≤ sM a m b := by unfold sM; split <;> omega
    have hrm : rM a m b ≤ m := by unfold rM; split <;> omega
    have hrd : rM a m b ≤ (a + b) / 2 := by unfold rM; split <;> omega
    have hpb : ∀ c, sM a m b ≤ c → (a + b) / 2 + m - c ≤ b := fun c hc => by unfold sM at hc; split at hc <;> omega
    obtain ⟨s1, s2, s3, s4⟩ := bs_spec (fun c => !lt d[(a + b) / 2 + m - 1 - c]! d[c]!) (sM a m b) (rM a m b) hsr (fun x y e1 e2 e3 e4 => by
      simp only [Bool.not_eq_true'] at e4 ⊢
      have k1 : lt d[(a + b) / 2 + m - 1 - x]! d[(a + b) / 2 + m - 1 - y]! = false := asc_le lt hS hb hY (by omega) (by omega) (by have := hpb x e1; omega)
      exact hS.ntrans _ _ _ (hS.ntrans _ _ _ k1 e4) (asc_le lt hS (by omega) hX (by omega) e2 (by omega)))
    have hcut : cut lt a m b d = bs (fun c => !lt d[(a + b) / 2 + m - 1 - c]! d[c]!) (sM a m b) (rM a m b) := rfl
    rw [← hcut] at s1 s2 s3 s4
    generalize hs : cut lt a m b d = s at *
    have hse : (a + b) / 2 + m - s ≤ b := hpb s s1
    have hme : m ≤ (a + b) / 2 + m - s := by omega
    -- what stands where
    have B1 : ∀ x ∈ seg d s m, ∀ y ∈ seg d m ((a + b) / 2 + m - s), lt y x = true := by
      intro x hx y hy
      obtain ⟨t, e1, e2, rfl⟩ := seg_mem (by omega) hx
      obtain ⟨u, e3, e4, rfl⟩ := seg_mem (by omega) hy
      have hlt : s < rM a m b := by unfold rM; split <;> omega
      have k := s4 s (Nat.le_refl _) hlt
      simp only [Bool.not_eq_false'] at k
      exact SWO.lt_of_le_of_lt hS (asc_le lt hS hb hY e3 (by omega) (by omega)) (SWO.lt_of_lt_of_le hS k (asc_le lt hS (by omega) hX (by omega) e1 e2))
    have B2 : ∀ x ∈ seg d a s, ∀ y ∈ seg d ((a + b) / 2 + m - s) b, lt y x = false := by
      intro x hx y hy
      obtain ⟨t, e1, e2, rfl⟩ := seg_mem (by omega) hx
      obtain ⟨u, e3, e4, rfl⟩ := seg_mem (by omega) hy
      have hlt : sM a m b < s := by
        rcases Nat.lt_or_ge (sM a m b) s with h | h
        · exact h
        · have : s = sM a m b := by omega
          unfold sM at this; split at this <;> omega
      have k := s3 (s - 1) (by omega) (by omega)
      simp only [Bool.not_eq_true'] at k
      rw [show (a + b) / 2 + m - 1 - (s - 1) = (a + b) / 2 + m - s by omega] at k
      exact hS.ntrans _ _ _ (hS.ntrans _ _ _ (asc_le lt hS hb hY hme e3 e4) k) (asc_le lt hS (by omega) hX e1 (by omega) (by omega))
    -- the turned row
    have T : seg (turned lt a m b d) a s = seg d a s ∧ seg (turned lt a m b d) s ((a + b) / 2) = seg d m ((a + b) / 2 + m - s) ∧ seg (turned lt a m b d) ((a + b) / 2) ((a + b) / 2 + m - s) = seg d s m ∧ seg (turned lt a m b d) ((a + b) / 2 + m - s) b = seg d ((a + b) / 2 + m - s) b ∧ ∀ t, t < a ∨ b ≤ t → (turned lt a m b d)[t]! = d[t]! := by
      unfold turned
      rw [hs]
      by_cases c : s < m ∧ m < (a + b) / 2 + m - s
      · rw [if_pos c]
        have hg := get_rot m (m - s) ((a + b) / 2 + m - s - m) d (by omega) (by omega) (by omega) (by omega)
        refine ⟨seg_congr (by rw [size_rot]; omega) (by omega) rfl fun t ht => ?_, seg_congr (by rw [size_rot]; omega) (by omega) (by omega) fun t ht => ?_, seg_congr (by rw [size_rot]; omega) (by omega) (by omega) fun t ht => ?_, seg_congr (by rw [size_rot]; omega) (by omega) rfl fun t ht => ?_, fun t ht => ?_⟩
        · rw [hg, if_neg (by omega), if_neg (by omega)]
        · rw [hg, if_pos (by omega)]; congr 1 <;> omega
        · rw [hg, if_neg (by omega), if_pos (by omega)]; congr 1 <;> omega
        · rw [hg, if_neg (by omega), if_neg (by omega)]
        · rw [hg, if_neg (by omega), if_neg (by omega)]
      · rw [if_neg c]
        rcases Nat.lt_or_ge s m with c3 | c3
        · -- nothing behind m to turn
          have e : s = (a + b) / 2 := by omega
          refine ⟨rfl, ?_, ?_, rfl, fun _ _ => rfl⟩
          · rw [seg_nil d (by omega), seg_nil d (by omega)]
          · exact seg_congr (by omega) (by omega) (by omega) fun t ht => by rw [e]
        · have e : s = m := by omega
          refine ⟨rfl, ?_, ?_, rfl, fun _ _ => rfl⟩
          · exact seg_congr (by omega) (by omega) (by omega) fun t ht => by rw [e]
          · rw [seg_nil d (by omega), seg_nil d (by omega)]
    obtain ⟨T1, T2, T3, T4, T5⟩ := T
    have AX := hX
    have AY := hY
    rw [← seg_append d (show a ≤ s by omega) (show s ≤ m by omega)] at hX
    rw [← seg_append d hme hse] at hY
    have P1 := List.pairwise_append.1 hX
    have P2 := List.pairwise_append.1 hY
    obtain ⟨i1, i2⟩ := ih a s ((a + b) / 2) (turned lt a m b d) (by omega) (by omega) (by omega) (by rw [size_turned]; omega) (by rw [T1]; exact P1.1) (by rw [T2]; exact P2.1)
    have K3 : seg (symM lt a s ((a + b) / 2) (turned lt a m b d)) ((a + b) / 2) ((a + b) / 2 + m - s) = seg d s m := by
      rw [← T3]
      exact seg_congr (by rw [size_symM, size_turned]; omega) (by rw [size_turned]; omega) rfl fun t ht => i2 _ (by omega)
    have K4 : seg (symM lt a s ((a + b) / 2) (turned lt a m b d)) ((a + b) / 2 + m - s) b = seg d ((a + b) / 2 + m - s) b := by
      rw [← T4]
      exact seg_congr (by rw [size_symM, size_turned]; omega) (by rw [size_turned]; omega) rfl fun t ht => i2 _ (by omega)
    obtain ⟨j1, j2⟩ := ih ((a + b) / 2) ((a + b) / 2 + m - s) b (symM lt a s ((a + b) / 2) (turned lt a m b d)) (by omega) (by omega) hse (by rw [size_symM, size_turned]; omega) (by rw [K3]; exact P1.2.1) (by rw [K4]; exact P2.2.1)
    refine ⟨?_, fun t ht => by rw [j2 t (by omega), i2 t (by omega), T5 t ht]⟩
    rw [← seg_append _ (show a ≤ (a + b) / 2 by omega) (show (a + b) / 2 ≤ b by omega), j1, K3, K4, ← seg_append d (show a ≤ s by omega) (show s ≤ m by omega), ← seg_append d hme hse, merge_split lt _ _ _ _ B1 B2]
    congr 1
    rw [← T1, ← T2, ← i1]
    exact seg_congr (by rw [size_symM, size_symM, size_turned]; omega) (by rw [size_symM, size_turned]; omega) rfl fun t ht => j2 _ (by omega)

/-! ### What a stable sort gives -/
/-- Neither is less. -/
def eqv (x y : α) : Bool := !lt x y && !lt y x
/-- l' is l in ascending order, those that are equal in the order in which they stood. -/
structure Stab (l l' : List α) : Prop where
  perm : l'.Perm l
  asc : Asc lt l'
  keep : ∀ e, l'.filter (eqv lt e) = l.filter (eqv lt e)

theorem eqv_self (hS : SWO lt) (x : α) : eqv lt x x = true := by simp [eqv, hS.irrefl]
theorem asc_eq (hS : SWO lt) : ∀ (l l' : List α), Asc lt l → Asc lt l' → (∀ e, l.filter (eqv lt e) = l'.filter (eqv lt e)) → l = l'
  | [], [], _, _, _ => rfl
  | [], y :: l', _, _, h => by
    have := h y
    rw [List.filter_nil, List.filter_cons_of_pos (eqv_self lt hS y)] at this
    cases this
  | x :: l, [], _, _, h => by
    have := h x
    rw [List.filter_nil, List.filter_cons_of_pos (eqv_self lt hS x)] at this
    cases this
  | x :: l, y :: l', h1, h2, h => by
    have hx := h x
    have hy := h y
    rw [List.filter_cons_of_pos (eqv_self lt hS x)] at hx
    rw [List.filter_cons_of_pos (eqv_self lt hS y)] at hy
    have mx : x ∈ y :: l' := (List.mem_filter.1 (hx ▸ (by simp : x ∈ x :: l.filter (eqv lt x)))).1
    have my : y ∈ x :: l := (List.mem_filter.1 (hy ▸ (by simp : y ∈ y :: l'.filter (eqv lt y)))).1
    have a1 : lt x y = false := by
      rcases List.mem_cons.1 mx with e | e
      · rw [e]; exact hS.irrefl _
      · exact (List.pairwise_cons.1 h2).1 x e
    have a2 : lt y x = false := by
      rcases List.mem_cons.1 my with e | e
      · rw [e]; exact hS.irrefl _
      · exact (List.pairwise_cons.1 h1).1 y e
    rw [List.filter_cons_of_pos (by simp [eqv, a1, a2])] at hx
    have e : x = y := (List.cons.inj hx).1
    subst e
    rw [asc_eq hS l l' (List.pairwise_cons.1 h1).2 (List.pairwise_cons.1 h2).2 fun e => ?_]
    have he := h e
    cases c : eqv lt e x with
    | true => rw [List.filter_cons_of_pos c, List.filter_cons_of_pos c] at he; exact (List.cons.inj he).2
    | false => rw [List.filter_cons_of_neg (by simp [c]), List.filter_cons_of_neg (by simp [c])] at he; exact he
/-- There is only one. -/
theorem Stab.eq (hS : SWO lt) {l l' l'' : List α} (h1 : Stab lt l l') (h2 : Stab lt l l'') : l' = l'' :=
  asc_eq lt hS l' l'' h1.asc h2.asc fun e => (h1.keep e).trans (h2.keep e).symm
theorem Stab.refl {l : List α} (h : Asc lt l) : Stab lt l l := ⟨.refl _, h, fun _ => rfl⟩
theorem Stab.trans {l l' l'' : List α} (h1 : Stab lt l l') (h2 : Stab lt l' l'') : Stab lt l l'' :=
  ⟨h2.perm.trans h1.perm, h2.asc, fun e => (h2.keep e).trans (h1.keep e)⟩
theorem Stab.length {l l' : List α} (h : Stab lt l l') : l'.length = l.length := h.perm.length_eq

theorem merge_perm (X Y : List α) : (merge lt X Y).Perm (X ++ Y) := by
  fun_induction merge lt X Y with
  | case1 Y => exact .refl _
  | case2 x X => simp
  | case3 x X y Y h ih =>
    refine (List.Perm.cons y ih).trans ?_
    exact List.perm_middle.symm
  | case4 x X y Y h ih => exact List.Perm.cons x ih
theorem merge_asc (hS : SWO lt) (X Y : List α) (hX : Asc lt X) (hY : Asc lt Y) : Asc lt (merge lt X Y) := by
  fun_induction merge lt X Y with
  | case1 Y => exact hY
  | case2 x X => exact hX
  | case3 x X y Y h ih =>
    have h1 := List.pairwise_cons.1 hX
    have h2 := List.pairwise_cons.1 hY
    refine List.pairwise_cons.2 ⟨fun z hz => ?_, ih hX h2.2⟩
    have hyx : lt x y = false := by
      cases c : lt x y with
      | false => rfl
      | true => have := hS.trans _ _ _ h c; rw [hS.irrefl] at this; cases this
    rcases List.mem_append.1 ((merge_perm lt _ _).mem_iff.1 hz) with e | e
    · rcases List.mem_cons.1 e with e | e
      · rw [e]; exact hyx
      · exact hS.ntrans _ _ _ (h1.1 z e) hyx
    · exact h2.1 z e
  | case4 x X y Y h ih =>
    have h1 := List.pairwise_cons.1 hX
    have h2 := List.pairwise_cons.1 hY
    have h' : lt y x = false := by simpa using h
    refine List.pairwise_cons.2 ⟨fun z hz => ?_, ih h1.2 hY⟩
    rcases List.mem_append.1 ((merge_perm lt _ _).mem_iff.1 hz) with e | e
    · exact h1.1 z e
    · rcases List.mem_cons.1 e with e | e
      · rw [e]; exact h'
      · exact hS.ntrans _ _ _ (h2.1 z e) h'
theorem merge_keep (hS : SWO lt) (e : α) (X Y : List α) (hX : Asc lt X) : (merge lt X Y).filter (eqv lt e) = (X ++ Y).filter (eqv lt e) := by
  fun_induction merge lt X Y with
  | case1 Y => rfl
  | case2 x X => simp
  | case3 x X y Y h ih =>
    have ih := ih hX
    cases c : eqv lt e y with
    | false =>
      rw [List.filter_cons_of_neg (by simp [c]), ih, List.filter_append, List.filter_append, List.filter_cons_of_neg (a := y) (by simp [c])]
    | true =>
      have h1 := List.pairwise_cons.1 hX
      have n : ∀ z ∈ x :: X, ¬ eqv lt e z = true := fun z hz hc => by
        simp only [eqv, Bool.and_eq_true, Bool.not_eq_true'] at c hc
        have hzx : lt z x = false := by
          rcases List.mem_cons.1 hz with q | q
          · rw [q]; exact hS.irrefl _
          · exact h1.1 z q
        have := hS.ntrans _ _ _ (hS.ntrans _ _ _ c.2 hc.1) hzx
        rw [h] at this; cases this
      rw [List.filter_cons_of_pos c, ih, List.filter_append, List.filter_append, List.filter_eq_nil_iff.2 n, List.filter_cons_of_pos c]
      rfl
  | case4 x X y Y h ih =>
    have ih := ih (List.pairwise_cons.1 hX).2
    rw [List.filter_cons, ih, List.cons_append, List.filter_cons]
/-- Two sorted parts, merged. -/
theorem Stab.merge (hS : SWO lt) {S T X Y : List α} (h1 : Stab lt S X) (h2 : Stab lt T Y) : Stab lt (S ++ T) (merge lt X Y) :=
  ⟨(merge_perm lt X Y).trans (h1.perm.append h2.perm), merge_asc lt hS X Y h1.asc h2.asc, fun e => by
    rw [merge_keep lt hS e X Y h1.asc, List.filter_append, List.filter_append, h1.keep, h2.keep]⟩

/-- One by one, each behind those that are not greater. -/
def insSort (l : List α) : List α := l.foldl (fun out e => ST.merge lt out [e]) []
theorem insSort_snoc (l : List α) (e : α) : insSort lt (l ++ [e]) = ST.merge lt (insSort lt l) [e] := by unfold insSort; rw [List.foldl_append]; rfl
theorem insSort_stab (hS : SWO lt) (l : List α) : Stab lt l (insSort lt l) := by
  suffices ∀ (l S X : List α), Stab lt S X → Stab lt (S ++ l) (l.foldl (fun out e => ST.merge lt out [e]) X) by
    have := this l [] [] (Stab.refl lt List.Pairwise.nil)
    rwa [List.nil_append] at this
  intro l
  induction l with
  | nil => intro S X h; rw [List.append_nil]; exact h
  | cons e l ih =>
    intro S X h
    have := ih (S ++ [e]) (ST.merge lt X [e]) (Stab.merge lt hS h (Stab.refl lt (List.pairwise_singleton _ _)))
    rw [List.append_assoc] at this
    exact this
/-- Where a new element goes: k is the first place from which on all are greater. -/
theorem merge_at (hS : SWO lt) {X : List α} (e : α) (hX : Asc lt X) {k : Nat} (hk : k ≤ X.length) (h1 : ∀ j x, k ≤ j → X[j]? = some x → lt e x = true) (h2 : ∀ x, 0 < k → X[k - 1]? = some x → lt e x = false) :
    ST.merge lt X [e] = X.take k ++ e :: X.drop k := by
  conv => lhs; rw [← List.take_append_drop k X]
  rw [merge_last lt e (X.take k) (X.drop k)]
  · intro x hx
    obtain ⟨j, hj⟩ := List.mem_iff_getElem?.1 hx
    have hjl := (List.getElem?_eq_some_iff.1 hj).1
    rw [List.length_take] at hjl
    rw [List.getElem?_take_of_lt (by omega)] at hj
    obtain ⟨z, hz⟩ : ∃ z, X[k - 1]? = some z := ⟨_, List.getElem?_eq_getElem (by omega)⟩
    have hez := h2 z (by omega) hz
    rcases Nat.lt_or_ge j (k - 1) with c | c
    · have := List.pairwise_iff_getElem.1 hX j (k - 1) (by omega) (by omega) c
      rw [(List.getElem?_eq_some_iff.1 hj).2, (List.getElem?_eq_some_iff.1 hz).2] at this
      exact hS.ntrans _ _ _ hez this
    · have : j = k - 1 := by omega
      subst this
      rw [hz] at hj; cases hj; exact hez
  · intro x hx
    obtain ⟨j, hj⟩ := List.mem_iff_getElem?.1 hx
    rw [List.getElem?_drop] at hj
    exact h1 (k + j) x (by omega) hj

/-! ### The insertion sort keeps equals in their order -/
theorem swp_keep (hS : SWO lt) (d : Array α) (j : Nat) (hj : j + 1 < d.size) (h : lt d[j + 1]! d[j]! = true) (e : α) : (swp d (j + 1) j).toList.filter (eqv lt e) = d.toList.filter (eqv lt e) := by
  have g := swp_get d hj (show j < d.size by omega)
  have hz : (swp d (j + 1) j).size = d.size := size_swp ..
  rw [← seg_all, ← seg_all d, hz, ← seg_append _ (Nat.zero_le j) (show j ≤ d.size by omega), ← seg_append _ (show j ≤ j + 1 by omega) (show j + 1 ≤ d.size by omega), ← seg_append _ (show j + 1 ≤ j + 2 by omega) (show j + 2 ≤ d.size by omega),
    ← seg_append d (Nat.zero_le j) (show j ≤ d.size by omega), ← seg_append d (show j ≤ j + 1 by omega) (show j + 1 ≤ d.size by omega), ← seg_append d (show j + 1 ≤ j + 2 by omega) (show j + 2 ≤ d.size by omega)]
  rw [seg_one d j (by omega), seg_one d (j + 1) hj, seg_one _ j (by omega), seg_one _ (j + 1) (by omega),
    seg_congr (d := swp d (j + 1) j) (d' := d) (a := 0) (b := j) (a' := 0) (b' := j) (by omega) (by omega) rfl (fun t ht => by rw [g, if_neg (by omega), if_neg (by omega)]),
    seg_congr (d := swp d (j + 1) j) (d' := d) (a := j + 2) (b := d.size) (a' := j + 2) (b' := d.size) (by omega) (by omega) rfl (fun t ht => by rw [g, if_neg (by omega), if_neg (by omega)])]
  rw [g, g, if_pos rfl, if_neg (by omega), if_pos rfl]
  simp only [List.filter_append]
  congr 1
  rw [← List.append_assoc, ← List.append_assoc]
  congr 1
  cases c1 : eqv lt e d[j + 1]! with
  | false => rw [List.filter_cons_of_neg (by simp [c1])]; simp
  | true =>
    have c2 : eqv lt e d[j]! = false := by
      cases c2 : eqv lt e d[j]! with
      | false => rfl
      | true =>
        simp only [eqv, Bool.and_eq_true, Bool.not_eq_true'] at c1 c2
        have := hS.ntrans _ _ _ c1.2 c2.1
        rw [h] at this; cases this
    rw [List.filter_cons_of_neg (a := d[j]!) (by simp [c2])]; simp
theorem insInner_keep (hS : SWO lt) (a : Nat) (e : α) : ∀ (j : Nat) (d : Array α), j < d.size → (insInner lt a j d).toList.filter (eqv lt e) = d.toList.filter (eqv lt e)
  | 0, d, _ => by rw [insInner]
  | j + 1, d, h => by
    rw [insInner]
    split
    · rename_i c
      rw [insInner_keep hS a e j _ (by rw [size_swp]; omega), swp_keep lt hS d j h (by simp at c; exact c.2)]
    · rfl
theorem size_insInner' (a : Nat) : ∀ (j : Nat) (d : Array α), (insInner lt a j d).size = d.size
  | 0, d => by rw [insInner]
  | j + 1, d => by
    rw [insInner]
    split
    · rw [size_insInner' a j, size_swp]
    · rfl
theorem insOuter_keep (hS : SWO lt) (a b : Nat) (e : α) (i : Nat) (d : Array α) (hb : b ≤ d.size) : (insOuter lt a b i d).toList.filter (eqv lt e) = d.toList.filter (eqv lt e) := by
  induction hN : b - i generalizing i d with
  | zero => rw [insOuter, if_neg (by omega)]
  | succ N ih =>
    rw [insOuter, if_pos (by omega), ih (i + 1) _ (by rw [size_insInner']; exact hb) (by omega), insInner_keep lt hS a e i d (by omega)]

theorem insOuter_size (a b i : Nat) (d : Array α) : (insOuter lt a b i d).size = d.size := by
  induction hN : b - i generalizing i d with
  | zero => rw [insOuter, if_neg (by omega)]
  | succ N ih => rw [insOuter, if_pos (by omega), ih (i + 1) _ (by omega), size_insInner']
theorem insertionSort_size (d : Array α) (a b : Nat) : (Sort.insertionSort lt d a b).size = d.size := insOuter_size lt a b (a + 1) d

/-- d' is d with the places a to b sorted, equals in their order. -/
structure StabIn (a b : Nat) (d d' : Array α) : Prop where
  size : d'.size = d.size
  out : ∀ t, t < a ∨ b ≤ t → d'[t]! = d[t]!
  stab : Stab lt (seg d a b) (seg d' a b)
theorem insertionSort_in (hS : SWO lt) (d : Array α) (a b : Nat) (hab : a ≤ b) (hb : b ≤ d.size) : StabIn lt a b d (Sort.insertionSort lt d a b) := by
  obtain ⟨⟨h1, h2, h3⟩, h4⟩ := insertionSort_holds (lt := lt) hS d a b hab hb
  refine ⟨h1, h2, ⟨h3, ?_, fun e => ?_⟩⟩
  · refine List.pairwise_iff_getElem.2 fun i j hi hj hij => ?_
    rw [seg_length _ a b (by omega)] at hi hj
    have e1 := seg_get (Sort.insertionSort lt d a b) a b i (by omega) hi
    have e2 := seg_get (Sort.insertionSort lt d a b) a b j (by omega) hj
    rw [List.getElem?_eq_getElem (by rw [seg_length _ a b (by omega)]; omega)] at e1 e2
    rw [Option.some.inj e1, Option.some.inj e2]
    exact h4 (a + i) (a + j) (by omega) (by omega) (by omega)
  · have k := insOuter_keep lt hS a b e (a + 1) d hb
    change (Sort.insertionSort lt d a b).toList.filter _ = _ at k
    rw [← seg_all, ← seg_all d, h1, ← seg_append _ (Nat.zero_le a) (show a ≤ d.size by omega), ← seg_append _ hab hb, ← seg_append d (Nat.zero_le a) (show a ≤ d.size by omega), ← seg_append d hab hb,
      seg_congr (d := Sort.insertionSort lt d a b) (d' := d) (a := 0) (b := a) (a' := 0) (b' := a) (by omega) (by omega) rfl (fun t ht => h2 _ (by omega)),
      seg_congr (d := Sort.insertionSort lt d a b) (d' := d) (a := b) (b := d.size) (a' := b) (b' := d.size) (by omega) (by omega) rfl (fun t ht => h2 _ (by omega))] at k
    simp only [List.filter_append] at k
    exact List.append_cancel_right (List.append_cancel_left k)
theorem symM_in (hS : SWO lt) {d0 d : Array α} {a m b : Nat} (h1 : a ≤ m) (h2 : m ≤ b) (hb : b ≤ d.size) (hX : Stab lt (seg d0 a m) (seg d a m)) (hY : Stab lt (seg d0 m b) (seg d m b)) :
    Stab lt (seg d0 a b) (seg (symM lt a m b d) a b) ∧ ∀ t, t < a ∨ b ≤ t → (symM lt a m b d)[t]! = d[t]! := by
  obtain ⟨k1, k2⟩ := symM_spec lt hS (b - a) a m b d (Nat.le_refl _) h1 h2 hb hX.asc hY.asc
  refine ⟨?_, k2⟩
  rw [k1, ← seg_append d0 h1 h2]
  exact Stab.merge lt hS hX hY

/-! ### The blocks -/
/-- The blocks of bs places each that begin below a are sorted (the last one may be shorter). -/
def Done (d0 d : Array α) (bs a : Nat) : Prop := d.size = d0.size ∧ ∀ i, i * bs < a → i * bs < d0.size → Stab lt (seg d0 (i * bs) (min (i * bs + bs) d0.size)) (seg d (i * bs) (min (i * bs + bs) d0.size))
/-- From a on the blocks of bs places are sorted. -/
def Rest (d0 d : Array α) (bs a : Nat) : Prop := ∀ i, a ≤ i * bs → i * bs < d0.size → Stab lt (seg d0 (i * bs) (min (i * bs + bs) d0.size)) (seg d (i * bs) (min (i * bs + bs) d0.size))
/-- From a on nothing was touched. -/
def Same (d0 d : Array α) (a : Nat) : Prop := ∀ t, a ≤ t → d[t]! = d0[t]!

theorem mul_lt_cases {i a bs : Nat} (h : i * bs < a * bs + bs) : i ≤ a := by
  have : i * bs < (a + 1) * bs := by rw [Nat.add_mul, Nat.one_mul]; exact h
  have := Nat.lt_of_mul_lt_mul_right this
  omega
theorem mul_step {i a bs : Nat} (h : i < a) : i * bs + bs ≤ a * bs := by
  have := Nat.mul_le_mul_right bs (show i + 1 ≤ a from h)
  rwa [Nat.add_mul, Nat.one_mul] at this
/-- One block more is sorted by insertion. -/
theorem done_ins (hS : SWO lt) {d0 d : Array α} {bs a : Nat} (h : Done lt d0 d bs (a * bs)) (hs : Same d0 d (a * bs)) (ha : a * bs ≤ d0.size) (e : Nat) (he : e = min (a * bs + bs) d0.size) :
    Done lt d0 (Sort.insertionSort lt d (a * bs) e) bs (a * bs + bs) ∧ Same d0 (Sort.insertionSort lt d (a * bs) e) e := by
  have hz := h.1
  obtain ⟨k1, k2, k3⟩ := insertionSort_in lt hS d (a * bs) e (by omega) (by omega)
  refine ⟨⟨by omega, fun i hi hd => ?_⟩, fun t ht => by rw [k2 t (by omega), hs t (by omega)]⟩
  rcases Nat.lt_or_ge i a with c | c
  · have := mul_step (bs := bs) c
    have hlt : i * bs < a * bs := by
      rcases Nat.eq_zero_or_pos bs with z | z
      · subst z; simp at hi
      · omega
    rw [seg_congr (d := Sort.insertionSort lt d (a * bs) e) (d' := d) (a := i * bs) (b := min (i * bs + bs) d0.size) (a' := i * bs) (b' := min (i * bs + bs) d0.size) (by omega) (by omega) rfl (fun t ht => k2 _ (by omega))]
    exact h.2 i hlt hd
  · have : i = a := by have := mul_lt_cases hi; omega
    subst this
    rw [← he]
    rw [seg_congr (d := d0) (d' := d) (a := i * bs) (b := e) (a' := i * bs) (b' := e) (by omega) (by omega) rfl (fun t ht => (hs _ (by omega)).symm)]
    exact k3
/-- Two blocks are merged into one. -/
theorem done_merge (hS : SWO lt) {d0 d : Array α} {bs a : Nat} (h : Done lt d0 d (2 * bs) (a * (2 * bs))) (hr : Rest lt d0 d bs (a * (2 * bs))) (m e : Nat) (hm : m = a * (2 * bs) + bs) (he : e = min (a * (2 * bs) + 2 * bs) d0.size) (hme : m ≤ d0.size) :
    Done lt d0 (symM lt (a * (2 * bs)) m e d) (2 * bs) (a * (2 * bs) + 2 * bs) ∧ Rest lt d0 (symM lt (a * (2 * bs)) m e d) bs (a * (2 * bs) + 2 * bs) := by
  have hz := h.1
  have e2 : 2 * a * bs = a * (2 * bs) := by rw [Nat.mul_comm 2 a, Nat.mul_assoc]
  have e3 : (2 * a + 1) * bs = a * (2 * bs) + bs := by rw [Nat.add_mul, e2, Nat.one_mul]
  rcases Nat.eq_zero_or_pos bs with z | z
  · subst z
    refine ⟨⟨by rw [size_symM]; exact hz, fun i hi _ => absurd hi (by simp)⟩, fun i hi hd => ?_⟩
    rw [seg_nil _ (by omega), seg_nil _ (by omega)]
    exact Stab.refl lt List.Pairwise.nil
  by_cases hlt : a * (2 * bs) < d0.size
  case neg => omega
  have r1 := hr (2 * a) (by omega) (by omega)
  rw [e2] at r1
  have r2 : Stab lt (seg d0 m e) (seg d m e) := by
    by_cases c : m < d0.size
    · have := hr (2 * a + 1) (by omega) (by omega)
      rw [e3] at this
      rw [show m = a * (2 * bs) + bs from hm, show e = min (a * (2 * bs) + bs + bs) d0.size by omega]
      exact this
    · rw [seg_nil _ (by omega), seg_nil _ (by omega)]
      exact Stab.refl lt List.Pairwise.nil
  rw [show min (a * (2 * bs) + bs) d0.size = m by omega] at r1
  obtain ⟨k1, k2⟩ := symM_in lt hS (d0 := d0) (d := d) (a := a * (2 * bs)) (m := m) (b := e) (by omega) (by omega) (by omega) r1 r2
  refine ⟨⟨by rw [size_symM]; exact hz, fun i hi hd => ?_⟩, fun i hi hd => ?_⟩
  · rcases Nat.lt_or_ge i a with c | c
    · have := mul_step (bs := 2 * bs) c
      rw [seg_congr (d := symM lt (a * (2 * bs)) m e d) (d' := d) (a := i * (2 * bs)) (b := min (i * (2 * bs) + 2 * bs) d0.size) (a' := i * (2 * bs)) (b' := min (i * (2 * bs) + 2 * bs) d0.size) (by rw [size_symM]; omega) (by omega) rfl (fun t ht => k2 _ (by omega))]
      exact h.2 i (by omega) hd
    · have : i = a := by have := mul_lt_cases hi; omega
      subst this
      rw [← he]
      exact k1
  · rw [seg_congr (d := symM lt (a * (2 * bs)) m e d) (d' := d) (a := i * bs) (b := min (i * bs + bs) d0.size) (a' := i * bs) (b' := min (i * bs + bs) d0.size) (by rw [size_symM]; omega) (by omega) rfl (fun t ht => k2 _ (by omega))]
    exact hr i (by omega) hd
theorem done_rest {d0 d : Array α} {bs : Nat} (h : Done lt d0 d bs d0.size) : Rest lt d0 d bs 0 := fun i _ hd => h.2 i hd hd
theorem done_end {d0 d : Array α} {bs a : Nat} (h : Done lt d0 d bs a) (ha : d0.size ≤ a) : Done lt d0 d bs d0.size := ⟨h.1, fun i _ hd => h.2 i (by omega) hd⟩
theorem done_tail {d0 d : Array α} {bs a : Nat} (h : Done lt d0 d (2 * bs) (a * (2 * bs))) (hr : Rest lt d0 d bs (a * (2 * bs))) (hs : d0.size ≤ a * (2 * bs) + bs) : Done lt d0 d (2 * bs) d0.size := by
  refine ⟨h.1, fun i hi hd => ?_⟩
  rcases Nat.lt_or_ge (i * (2 * bs)) (a * (2 * bs)) with c | c
  · exact h.2 i c hd
  · have e2 : 2 * i * bs = i * (2 * bs) := by rw [Nat.mul_comm 2 i, Nat.mul_assoc]
    have := hr (2 * i) (by omega) (by omega)
    rw [e2] at this
    rw [show min (i * (2 * bs) + 2 * bs) d0.size = min (i * (2 * bs) + bs) d0.size by omega]
    exact this
theorem done_zero (d0 : Array α) (bs : Nat) : Done lt d0 d0 bs 0 := ⟨rfl, fun _ h _ => absurd h (by omega)⟩
theorem done_all {d0 d : Array α} {bs : Nat} (h : Done lt d0 d bs d0.size) (hb : d0.size ≤ bs) : Stab lt d0.toList d.toList := by
  rcases Nat.eq_zero_or_pos d0.size with z | z
  · have e1 : d0 = #[] := Array.eq_empty_of_size_eq_zero z
    have e2 : d = #[] := Array.eq_empty_of_size_eq_zero (h.1.trans z)
    subst e1 e2
    exact Stab.refl lt List.Pairwise.nil
  have := h.2 0 (by omega) (by omega)
  rw [Nat.zero_mul, Nat.zero_add, Nat.min_eq_right hb, seg_all, show d0.size = d.size from h.1.symm, seg_all] at this
  exact this
end
end Go.Proofs.YtminphldifncaaaDoor.ST
