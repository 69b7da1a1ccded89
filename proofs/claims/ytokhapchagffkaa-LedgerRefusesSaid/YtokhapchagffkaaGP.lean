/- Plain laws of groups by key. -/
import Derived.Test.YtokhapchagffkaaLE
set_option linter.unusedSimpArgs false
set_option linter.unusedVariables false
namespace Go.Proofs.Ytokhapchagffkaa.GP
open LG

def keyE (e : Et) : Int × Int := (e.day, e.known)
/-- The groups are those of the entries: each key once, with the litres of its entries in their order. -/
structure Good (m : List ((Int × Int) × List Int)) (l : List Et) : Prop where
  nd : (m.map (·.1)).Nodup
  val : ∀ p ∈ m, p.2 = lits (l.filter (fun e => decide (keyE e = p.1)))
  all : ∀ e ∈ l, ∃ p ∈ m, p.1 = keyE e
theorem Good.nil : Good [] [] := ⟨List.nodup_nil, (fun p h => nomatch h), (fun e h => nomatch h)⟩
theorem lits_append (a b : List Et) : lits (a ++ b) = lits a ++ lits b := by simp [lits]
theorem nodup_get {α : Type} {l : List α} (h : l.Nodup) {i j : Nat} {x : α} (hi : l[i]? = some x) (hj : l[j]? = some x) : i = j := by
  have hi' := List.getElem?_eq_some_iff.1 hi
  have hj' := List.getElem?_eq_some_iff.1 hj
  rcases Nat.lt_trichotomy i j with c | c | c
  · have := List.pairwise_iff_getElem.1 h i j hi'.1 hj'.1 c
    exact absurd (hi'.2.trans hj'.2.symm) this
  · exact c
  · have := List.pairwise_iff_getElem.1 h j i hj'.1 hi'.1 c
    exact absurd (hj'.2.trans hi'.2.symm) this
theorem Good.step {m m1 : List ((Int × Int) × List Int)} {l : List Et} {e : Et} {i : Nat} {L : List Int} (h : Good m l) (h1 : (m1 = m) ∨ (keyE e ∉ m.map (·.1) ∧ L = [] ∧ m1 = m ++ [(keyE e, [])])) (hi : m1[i]? = some (keyE e, L)) :
    Good (m1.set i (keyE e, L ++ [e.litres])) (l ++ [e]) := by
  have nd1 : (m1.map (·.1)).Nodup := by
    rcases h1 with rfl | ⟨q1, q2, rfl⟩
    · exact h.nd
    · rw [List.map_append]
      exact List.nodup_append.2 ⟨h.nd, by simp, fun a ha b hb e1 => by simp at hb; subst hb; subst e1; exact q1 ha⟩
  have val1 : ∀ p ∈ m1, p.2 = lits (l.filter (fun x => decide (keyE x = p.1))) := by
    rcases h1 with rfl | ⟨q1, q2, rfl⟩
    · exact h.val
    · intro p hp
      rcases List.mem_append.1 hp with c | c
      · exact h.val p c
      · simp at c
        subst c
        have : l.filter (fun x => decide (keyE x = keyE e)) = [] := by
          rw [List.filter_eq_nil_iff]
          intro x hx hk
          obtain ⟨p, hp1, hp2⟩ := h.all x hx
          exact q1 (List.mem_map.2 ⟨p, hp1, by rw [hp2]; simpa using hk⟩)
        show [] = lits (l.filter _)
        rw [this]; rfl
  have hil := (List.getElem?_eq_some_iff.1 hi).1
  have hks : (m1.set i (keyE e, L ++ [e.litres])).map (·.1) = m1.map (·.1) := by
    rw [List.map_set]
    apply List.ext_getElem?
    intro j
    rw [List.getElem?_set]
    split
    · rename_i q; subst q
      rw [if_pos (by simpa using hil), List.getElem?_map, hi]; rfl
    · rfl
  refine ⟨by rw [hks]; exact nd1, fun p hp => ?_, fun x hx => ?_⟩
  · obtain ⟨j, hj⟩ := List.mem_iff_getElem?.1 hp
    rw [List.getElem?_set] at hj
    rw [List.filter_append, lits_append]
    split at hj
    · rename_i q; subst q
      injection hj with hj; subst hj
      have := val1 _ (List.mem_of_getElem? hi)
      show L ++ [e.litres] = _
      rw [show L = lits (l.filter (fun x => decide (keyE x = keyE e))) from this]
      simp [lits]
    · rename_i q
      have hne : keyE e ≠ p.1 := fun q2 => q (nodup_get nd1 (i := i) (j := j) (x := keyE e) (by rw [List.getElem?_map, hi]; rfl) (by rw [List.getElem?_map, hj]; simp [q2]))
      rw [val1 p (List.mem_of_getElem? hj)]
      simp [lits, hne]
  · have hx' : ∃ p ∈ m1, p.1 = keyE x := by
      rcases List.mem_append.1 hx with c | c
      · obtain ⟨p, hp1, hp2⟩ := h.all x c
        rcases h1 with rfl | ⟨q1, q2, rfl⟩
        · exact ⟨p, hp1, hp2⟩
        · exact ⟨p, by simp [hp1], hp2⟩
      · simp at c; subst c
        exact ⟨_, List.mem_of_getElem? hi, rfl⟩
    obtain ⟨p, hp1, hp2⟩ := hx'
    have : p.1 ∈ (m1.set i (keyE e, L ++ [e.litres])).map (·.1) := by rw [hks]; exact List.mem_map.2 ⟨p, hp1, rfl⟩
    obtain ⟨p', a, b⟩ := List.mem_map.1 this
    exact ⟨p', a, b.trans hp2⟩
/-- All groups are zero just where each entry's group is. -/
theorem Good.balanced {m : List ((Int × Int) × List Int)} {l : List Et} {known : Int} (h : Good m (l.filter (fun e => decide (e.known ≤ known)))) :
    LG.balanced l known = m.all (fun p => (sumX p.2).2 && decide ((sumX p.2).1 = 0)) := by
  have hg : ∀ (e : Et), e.known ≤ known → lits ((l.filter (fun e => decide (e.known ≤ known))).filter (fun x => decide (keyE x = keyE e))) = lits (l.filter (sameG e)) := fun e he => by
    rw [List.filter_filter]
    congr 1
    apply List.filter_congr
    intro x _
    unfold sameG keyE
    rw [Bool.eq_iff_iff]
    simp
    omega
  rw [Bool.eq_iff_iff, LG.balanced, List.all_eq_true, List.all_eq_true]
  constructor
  · intro H p hp
    rw [h.val p hp]
    by_cases hq : ∃ e ∈ l.filter (fun e => decide (e.known ≤ known)), p.1 = keyE e
    · obtain ⟨e, he, hpe⟩ := hq
      obtain ⟨he1, he2⟩ := List.mem_filter.1 he
      have he2 : e.known ≤ known := by simpa using he2
      rw [hpe, hg e he2]
      have := H e he1
      rw [decide_eq_true he2] at this
      simpa [zeroX] using this
    · have : (l.filter (fun e => decide (e.known ≤ known))).filter (fun x => decide (keyE x = p.1)) = [] := by
        rw [List.filter_eq_nil_iff]
        intro x hx hk
        exact hq ⟨x, hx, by simpa using (of_decide_eq_true hk).symm⟩
      rw [this]; decide
  · intro H e he
    by_cases he2 : e.known ≤ known
    · obtain ⟨p, hp1, hp2⟩ := h.all e (List.mem_filter.2 ⟨he, by simpa using he2⟩)
      have := H p hp1
      rw [h.val p hp1, hp2, hg e he2] at this
      rw [decide_eq_true he2]
      simpa [zeroX] using this
    · rw [decide_eq_false he2]; rfl
end Go.Proofs.Ytokhapchagffkaa.GP
