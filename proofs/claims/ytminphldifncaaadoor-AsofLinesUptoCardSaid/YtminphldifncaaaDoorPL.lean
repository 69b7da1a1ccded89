/- Plain laws of a booked ledger. -/
import Derived.Test.YtminphldifncaaaDoorLE
import Derived.Test.YtminphldifncaaaDoorST
set_option linter.unusedSimpArgs false
set_option linter.unusedVariables false
namespace Go.Proofs.YtminphldifncaaaDoor.LG

def litS (l : List Et) : Int := (lits l).sum
def sumF (f : Et → Bool) (l : List Et) : Int := litS (l.filter f)
theorem litS_nil : litS [] = 0 := rfl
theorem litS_cons (e : Et) (l : List Et) : litS (e :: l) = e.litres + litS l := by simp [litS, lits]
theorem litS_append (a b : List Et) : litS (a ++ b) = litS a + litS b := by
  induction a with
  | nil => rw [List.nil_append, litS_nil]; omega
  | cons e a ih => rw [List.cons_append, litS_cons, litS_cons, ih]; omega
theorem litS_perm {a b : List Et} (h : a.Perm b) : litS a = litS b := by
  induction h with
  | nil => rfl
  | cons e _ ih => rw [litS_cons, litS_cons, ih]
  | swap x y l => rw [litS_cons, litS_cons, litS_cons, litS_cons]; omega
  | trans _ _ h1 h2 => rw [h1, h2]
theorem sumF_nil (f : Et → Bool) : sumF f [] = 0 := rfl
theorem sumF_cons (f : Et → Bool) (e : Et) (l : List Et) : sumF f (e :: l) = (if f e then e.litres else 0) + sumF f l := by
  unfold sumF
  cases h : f e
  · rw [List.filter_cons_of_neg (by simp [h])]; simp
  · rw [List.filter_cons_of_pos h, litS_cons]; simp
theorem sumF_append (f : Et → Bool) (a b : List Et) : sumF f (a ++ b) = sumF f a + sumF f b := by
  unfold sumF; rw [List.filter_append, litS_append]
theorem sumF_true (l : List Et) : sumF (fun _ => true) l = litS l := by unfold sumF; rw [List.filter_eq_self.2 (fun _ _ => rfl)]
theorem sumF_congr {f g : Et → Bool} {l : List Et} (h : ∀ e ∈ l, f e = g e) : sumF f l = sumF g l := by unfold sumF; rw [List.filter_congr h]
theorem sumF_none {f : Et → Bool} {l : List Et} (h : ∀ e ∈ l, f e = false) : sumF f l = 0 := by
  unfold sumF; rw [List.filter_eq_nil_iff.2 (fun e he => by simp [h e he])]; rfl
theorem sumF_filter (f g : Et → Bool) (l : List Et) : sumF f (l.filter g) = sumF (fun e => g e && f e) l := by
  induction l with
  | nil => rfl
  | cons e l ih =>
    rw [sumF_cons]
    cases h : g e
    · rw [List.filter_cons_of_neg (by simp [h]), ih]; simp
    · rw [List.filter_cons_of_pos h, sumF_cons, ih]; simp
theorem absI_nn (n : Int) : 0 ≤ absI n := by unfold absI; split <;> omega
theorem absI_le (n : Int) : -absI n ≤ n ∧ n ≤ absI n := by unfold absI; split <;> omega
theorem absS_cons (e : Et) (l : List Et) : absS (e :: l) = absI e.litres + absS l := by simp [absS]
theorem absS_nn (l : List Et) : 0 ≤ absS l := by
  induction l with
  | nil => exact Int.le_refl _
  | cons e l ih => rw [absS_cons]; have := absI_nn e.litres; omega
theorem litS_abs (l : List Et) : -absS l ≤ litS l ∧ litS l ≤ absS l := by
  induction l with
  | nil => exact ⟨Int.le_refl _, Int.le_refl _⟩
  | cons e l ih => rw [absS_cons, litS_cons]; have := absI_le e.litres; omega
theorem absS_append (a b : List Et) : absS (a ++ b) = absS a + absS b := by
  induction a with
  | nil => show absS b = 0 + absS b; omega
  | cons e a ih => rw [List.cons_append, absS_cons, absS_cons, ih]; omega
theorem absS_filter (f : Et → Bool) (l : List Et) : absS (l.filter f) ≤ absS l := by
  induction l with
  | nil => exact Int.le_refl _
  | cons e l ih =>
    rw [absS_cons]
    have := absI_nn e.litres
    cases h : f e
    · rw [List.filter_cons_of_neg (by simp [h])]; omega
    · rw [List.filter_cons_of_pos h, absS_cons]; omega
theorem absS_take (l : List Et) (k : Nat) : absS (l.take k) ≤ absS l := by
  have h := absS_append (l.take k) (l.drop k)
  rw [List.take_append_drop] at h
  have := absS_nn (l.drop k)
  omega
theorem absS_perm {a b : List Et} (h : a.Perm b) : absS a = absS b := by
  induction h with
  | nil => rfl
  | cons e _ ih => rw [absS_cons, absS_cons, ih]
  | swap x y l => rw [absS_cons, absS_cons, absS_cons, absS_cons]; omega
  | trans _ _ h1 h2 => rw [h1, h2]
theorem okE_all {e : Et} (h : okE e = true) : 0 ≤ e.day ∧ e.day ≤ 699050 ∧ 0 ≤ e.known ∧ e.known ≤ 16777216 ∧ -1 ≤ e.owner ∧ e.owner ≤ 15 ∧ 0 ≤ e.place ∧ e.place ≤ 63 ∧ -1125899906842624 ≤ e.litres ∧ e.litres ≤ 1125899906842624 := by
  unfold okE wit at h
  simp only [Bool.and_eq_true, decide_eq_true_eq] at h
  omega
theorem absS_le {l : List Et} (h : ∀ e ∈ l, okE e = true) : absS l ≤ l.length * 1125899906842624 := by
  induction l with
  | nil => exact Int.le_refl _
  | cons e l ih =>
    have i := ih (fun x hx => h x (List.mem_cons_of_mem _ hx))
    have o := okE_all (h e (List.mem_cons_self ..))
    rw [absS_cons, List.length_cons]
    have : absI e.litres ≤ 1125899906842624 := by unfold absI; split <;> omega
    push_cast
    omega
/-- Of at most 128 good entries every sum is far from the edges. -/
theorem small_le {l : List Et} (h : ∀ e ∈ l, okE e = true) (hl : l.length ≤ 128) : absS l ≤ 144115188075855872 := by
  have := absS_le h
  omega
theorem sumX_of {l : List Et} (h : absS l ≤ 144115188075855872) : sumX (lits l) = (litS l, true) := by
  have := litS_abs l
  unfold sumX
  rw [if_pos]; · rfl
  · show inB (litS l) = true
    unfold inB
    simp only [Bool.and_eq_true, decide_eq_true_eq]
    omega
theorem account_eq {l : List Et} (h : absS l ≤ 144115188075855872) (o p d k : Int) : account l o p d k = sumF (accB o p d k) l := by
  unfold account
  rw [sumX_of (Int.le_trans (absS_filter _ _) h)]; rfl
theorem sumF_abs (f : Et → Bool) (l : List Et) : -absS l ≤ sumF f l ∧ sumF f l ≤ absS l := by
  have h1 := litS_abs (l.filter f)
  have h2 := absS_filter f l
  unfold sumF
  omega
theorem zeroX_sum {l : List Et} (h : zeroX l = true) : litS l = 0 := by
  unfold zeroX at h
  rw [Bool.and_eq_true, decide_eq_true_eq] at h
  obtain ⟨h1, h2⟩ := h
  unfold sumX at h1 h2
  split at h2
  · exact h2
  · simp_all
theorem zeroX_of {l : List Et} (h : litS l = 0) : zeroX l = true := by
  have hs : (lits l).sum = 0 := h
  unfold zeroX sumX
  rw [hs]
  rfl
theorem zeroX_no {l : List Et} (h : litS l ≠ 0) : zeroX l = false := by
  cases hz : zeroX l
  · rfl
  · exact absurd (zeroX_sum hz) h
theorem postB_parts {p : List Et} (h : postB p = true) : p ≠ [] ∧ (∀ e ∈ p, okE e = true ∧ e.day = (p.headD default).day ∧ e.known = (p.headD default).known) ∧ litS p = 0 := by
  unfold postB at h
  rw [Bool.and_eq_true, Bool.and_eq_true] at h
  obtain ⟨⟨h1, h2⟩, h3⟩ := h
  refine ⟨by rintro rfl; simp at h1, fun e he => ?_, zeroX_sum h3⟩
  have := List.all_eq_true.1 h2 e he
  unfold sameG at this
  simp only [Bool.and_eq_true, decide_eq_true_eq] at this
  exact this
theorem postB_of {p : List Et} {a b : Int} (h1 : p ≠ []) (h2 : ∀ e ∈ p, okE e = true ∧ e.day = a ∧ e.known = b) (h3 : litS p = 0) : postB p = true := by
  unfold postB
  have hh : p.headD default ∈ p := by
    cases p with
    | nil => exact absurd rfl h1
    | cons x p => exact List.mem_cons_self ..
  have g := h2 _ hh
  rw [Bool.and_eq_true, Bool.and_eq_true]
  refine ⟨⟨by cases p <;> simp_all, List.all_eq_true.2 fun e he => ?_⟩, zeroX_of h3⟩
  have q := h2 e he
  unfold sameG
  simp only [Bool.and_eq_true, decide_eq_true_eq]
  exact ⟨q.1, by rw [q.2.1, g.2.1], by rw [q.2.2, g.2.2]⟩
/-- What is booked posting by posting. -/
inductive Led : List Et → Prop
  | nil : Led []
  | step {l p : List Et} : Led l → postB p = true → Led (l ++ p)
theorem Led.ok {l : List Et} (h : Led l) : ∀ e ∈ l, okE e = true := by
  induction h with
  | nil => exact fun e he => nomatch he
  | step _ hp ih =>
    intro e he
    rcases List.mem_append.1 he with h | h
    · exact ih e h
    · exact ((postB_parts hp).2.1 e h).1
/-- What looks at the day and the hour alone sums to naught. -/
theorem group_zero {f : Et → Bool} (hf : ∀ a b : Et, a.day = b.day → a.known = b.known → f a = f b) {p : List Et} (hp : postB p = true) : sumF f p = 0 := by
  obtain ⟨h1, h2, h3⟩ := postB_parts hp
  have hall : ∀ e ∈ p, f e = f (p.headD default) := fun e he => hf _ _ (h2 e he).2.1 (h2 e he).2.2
  rw [sumF_congr (g := fun _ => f (p.headD default)) hall]
  cases f (p.headD default)
  · exact sumF_none (fun _ _ => rfl)
  · rw [sumF_true, h3]
theorem Led.zero {f : Et → Bool} (hf : ∀ a b : Et, a.day = b.day → a.known = b.known → f a = f b) {l : List Et} (h : Led l) : sumF f l = 0 := by
  induction h with
  | nil => rfl
  | step _ hp ih => rw [sumF_append, ih, group_zero hf hp]; rfl
theorem Led.account {l : List Et} (h : Led l) (hl : l.length ≤ 128) (d k : Int) : account l (-1) (-1) d k = 0 := by
  rw [account_eq (small_le h.ok hl)]
  exact h.zero (fun a b h1 h2 => by unfold accB; rw [h1, h2]; simp)
theorem Led.balanced {l : List Et} (h : Led l) (k : Int) : balanced l k = true := by
  unfold LG.balanced
  refine List.all_eq_true.2 fun e _ => ?_
  rw [zeroX_of (h.zero (f := sameG e) (fun a b h1 h2 => by unfold sameG; rw [h1, h2]))]
  simp
theorem postR_zero {l p : List Et} (h : (postR l p).2 = 0) : postB p = true ∧ lateB l p = false ∧ fullB l p = false ∧ (postR l p).1 = l ++ p := by
  unfold postR at h ⊢
  split at h
  · simp at h
  · split at h
    · simp at h
    · split at h
      · simp at h
      · rename_i h1 h2 h3
        rw [if_neg h1, if_neg h2, if_neg h3]
        exact ⟨by simpa using h1, by simpa using h2, by simpa using h3, rfl⟩
theorem postR_not {l p : List Et} (h : (postR l p).2 ≠ 0) : (postR l p).1 = [] := by
  unfold postR at h ⊢
  split
  · rfl
  · split
    · rfl
    · split
      · rfl
      · rename_i h1 h2 h3
        rw [if_neg h1, if_neg h2, if_neg h3] at h
        exact absurd rfl h
theorem postR_arg1 {l p : List Et} (h : postB p = false) : (postR l p).2 = 1 := by unfold postR; rw [h]; rfl
/-- Of one posting, what is not of the past is naught. -/
theorem post_past {p : List Et} (hp : postB p = true) {o pl d k : Int} (h : k < (p.headD default).known ∨ d < (p.headD default).day) : sumF (accB o pl d k) p = 0 := by
  obtain ⟨h1, h2, h3⟩ := postB_parts hp
  refine sumF_none (fun e he => ?_)
  have q := h2 e he
  unfold accB
  rcases h with h | h
  · rw [decide_eq_false (p := e.known ≤ k) (by omega)]; simp
  · rw [decide_eq_false (p := e.day ≤ d) (by omega)]; simp
/-- The lines' sum is a difference of two accounts. -/
theorem lines_sum {l : List Et} {o fr un k : Int} (ho : 0 ≤ o) (hf : fr ≤ un) : sumF (lineB o fr un k) l = sumF (accB o (-1) un k) l - sumF (accB o (-1) (fr - 1) k) l := by
  induction l with
  | nil => rfl
  | cons e l ih =>
    rw [sumF_cons, sumF_cons, sumF_cons, ih]
    have key : (if lineB o fr un k e then e.litres else 0) = (if accB o (-1) un k e then e.litres else 0) - (if accB o (-1) (fr - 1) k e then e.litres else 0) := by
      unfold lineB accB wit
      rw [decide_eq_false (p := o = -1) (by omega)]
      by_cases h1 : e.owner = o <;> by_cases h2 : e.known ≤ k <;> by_cases h3 : e.day ≤ un <;> by_cases h4 : fr ≤ e.day
      all_goals first
        | (have h5 : ¬ e.day ≤ fr - 1 := by omega
           simp [h1, h2, h3, h4, h5])
        | (have h5 : e.day ≤ fr - 1 := by omega
           simp [h1, h2, h3, h4, h5])
    rw [key]; omega
/-- By places. -/
def inPl (k : Int) (e : Et) : Bool := decide (0 ≤ e.place) && decide (e.place < k)
theorem places_step {l : List Et} {o d k : Int} (j : Nat) : sumF (fun e => inPl (j + 1) e && accB o (-1) d k e) l = sumF (fun e => inPl j e && accB o (-1) d k e) l + sumF (accB o j d k) l := by
  induction l with
  | nil => rfl
  | cons e l ih =>
    rw [sumF_cons, sumF_cons, sumF_cons, ih]
    have key : (if inPl (j + 1) e && accB o (-1) d k e then e.litres else 0) = (if inPl j e && accB o (-1) d k e then e.litres else 0) + (if accB o j d k e then e.litres else 0) := by
      unfold accB inPl
      rw [decide_eq_false (p := (j : Int) = -1) (by omega)]
      cases (decide (e.day ≤ d) && decide (e.known ≤ k) && (decide (o = -1) || decide (e.owner = o)))
      · simp
      · by_cases h1 : e.place = j
        · rw [decide_eq_true (p := 0 ≤ e.place) (by omega), decide_eq_true (p := e.place < j + 1) (by omega), decide_eq_false (p := e.place < j) (by omega), decide_eq_true h1]; simp
        · by_cases h2 : e.place < j
          · rw [decide_eq_true (p := e.place < j + 1) (by omega), decide_eq_true h2, decide_eq_false h1]; simp
          · rw [decide_eq_false (p := e.place < j + 1) (by omega), decide_eq_false h2, decide_eq_false h1]; simp
    rw [key]; omega
theorem places_zero {l : List Et} {o d k : Int} : sumF (fun e => inPl (0 : Nat) e && accB o (-1) d k e) l = 0 := sumF_none fun e _ => by
  unfold inPl
  by_cases h : 0 ≤ e.place
  · rw [decide_eq_false (p := e.place < ((0 : Nat) : Int)) (by omega)]; simp
  · rw [decide_eq_false h]; simp
theorem places_all {l : List Et} {o d k : Int} (h : ∀ e ∈ l, okE e = true) : sumF (fun e => inPl (64 : Nat) e && accB o (-1) d k e) l = sumF (accB o (-1) d k) l := sumF_congr fun e he => by
  have := okE_all (h e he)
  unfold inPl
  rw [decide_eq_true (p := 0 ≤ e.place) (by omega), decide_eq_true (p := e.place < ((64 : Nat) : Int)) (by omega)]; simp
/-- By owners. -/
def inOw (k : Int) (e : Et) : Bool := decide (0 ≤ e.owner) && decide (e.owner < k)
theorem owners_step {l : List Et} {p d k : Int} (j : Nat) : sumF (fun e => inOw (j + 1) e && accB (-1) p d k e) l = sumF (fun e => inOw j e && accB (-1) p d k e) l + sumF (accB j p d k) l := by
  induction l with
  | nil => rfl
  | cons e l ih =>
    rw [sumF_cons, sumF_cons, sumF_cons, ih]
    have key : (if inOw (j + 1) e && accB (-1) p d k e then e.litres else 0) = (if inOw j e && accB (-1) p d k e then e.litres else 0) + (if accB j p d k e then e.litres else 0) := by
      unfold accB inOw
      rw [decide_eq_false (p := (j : Int) = -1) (by omega)]
      cases (decide (e.day ≤ d) && decide (e.known ≤ k))
      · simp
      · cases (decide (p = -1) || decide (e.place = p))
        · simp
        · by_cases h1 : e.owner = j
          · rw [decide_eq_true (p := 0 ≤ e.owner) (by omega), decide_eq_true (p := e.owner < j + 1) (by omega), decide_eq_false (p := e.owner < j) (by omega), decide_eq_true h1]; simp
          · by_cases h2 : e.owner < j
            · rw [decide_eq_true (p := e.owner < j + 1) (by omega), decide_eq_true h2, decide_eq_false h1]; simp
            · rw [decide_eq_false (p := e.owner < j + 1) (by omega), decide_eq_false h2, decide_eq_false h1]; simp
    rw [key]; omega
theorem owners_zero {l : List Et} {p d k : Int} : sumF (fun e => inOw (0 : Nat) e && accB (-1) p d k e) l = 0 := sumF_none fun e _ => by
  unfold inOw
  by_cases h : 0 ≤ e.owner
  · rw [decide_eq_false (p := e.owner < ((0 : Nat) : Int)) (by omega)]; simp
  · rw [decide_eq_false h]; simp
/-- What no owner has stands in the lines of the owner -1. -/
theorem owners_all {l : List Et} {p d k : Int} (hp : 0 ≤ p) (h : ∀ e ∈ l, okE e = true) : sumF (fun e => inOw (16 : Nat) e && accB (-1) p d k e) l + sumF (fun e => lineB (-1) 0 d k e && decide (e.place = p)) l = sumF (accB (-1) p d k) l := by
  induction l with
  | nil => rfl
  | cons e l ih =>
    have o := okE_all (h e (List.mem_cons_self ..))
    have i := ih (fun x hx => h x (List.mem_cons_of_mem _ hx))
    rw [sumF_cons, sumF_cons, sumF_cons, ← i]
    have key : (if inOw (16 : Nat) e && accB (-1) p d k e then e.litres else 0) + (if lineB (-1) 0 d k e && decide (e.place = p) then e.litres else 0) = (if accB (-1) p d k e then e.litres else 0) := by
      unfold inOw accB lineB wit
      rw [decide_eq_true (p := 0 ≤ e.day) (by omega), decide_eq_false (p := p = -1) (by omega)]
      by_cases h1 : e.owner = -1
      · rw [decide_eq_false (p := 0 ≤ e.owner) (by omega), decide_eq_true h1]
        cases decide (e.day ≤ d) <;> cases decide (e.known ≤ k) <;> cases decide (e.place = p) <;> simp
      · rw [decide_eq_true (p := 0 ≤ e.owner) (by omega), decide_eq_true (p := e.owner < ((16 : Nat) : Int)) (by omega), decide_eq_false h1]
        simp
    omega
end Go.Proofs.YtminphldifncaaaDoor.LG
