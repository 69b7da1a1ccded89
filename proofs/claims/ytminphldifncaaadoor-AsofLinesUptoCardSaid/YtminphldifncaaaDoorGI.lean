/- Plain laws of an index: groups of entries by owner and place. -/
import Derived.Test.YtminphldifncaaaDoorW2
set_option linter.unusedSimpArgs false
set_option linter.unusedVariables false
namespace Go.Proofs.YtminphldifncaaaDoor.GI
open LG

def keyE (e : Et) : Int × Int := (e.owner, e.place)
/-- The groups are those of the entries: each key once, with its entries in their order. -/
structure Good (m : List ((Int × Int) × List Et)) (l : List Et) : Prop where
  nd : (m.map (·.1)).Nodup
  val : ∀ p ∈ m, p.2 = (l.filter (fun e => decide (keyE e = p.1)))
  all : ∀ e ∈ l, ∃ p ∈ m, p.1 = keyE e
  len : m.length ≤ l.length
theorem Good.nil : Good [] [] := ⟨List.nodup_nil, (fun p h => nomatch h), (fun e h => nomatch h), Nat.le_refl _⟩
theorem nodup_get {α : Type} {l : List α} (h : l.Nodup) {i j : Nat} {x : α} (hi : l[i]? = some x) (hj : l[j]? = some x) : i = j := by
  have hi' := List.getElem?_eq_some_iff.1 hi
  have hj' := List.getElem?_eq_some_iff.1 hj
  rcases Nat.lt_trichotomy i j with c | c | c
  · have := List.pairwise_iff_getElem.1 h i j hi'.1 hj'.1 c
    exact absurd (hi'.2.trans hj'.2.symm) this
  · exact c
  · have := List.pairwise_iff_getElem.1 h j i hj'.1 hi'.1 c
    exact absurd (hj'.2.trans hi'.2.symm) this
theorem Good.step {m m1 : List ((Int × Int) × List Et)} {l : List Et} {e : Et} {i : Nat} {L : List Et} (h : Good m l) (h1 : (m1 = m) ∨ (keyE e ∉ m.map (·.1) ∧ L = [] ∧ m1 = m ++ [(keyE e, [])])) (hi : m1[i]? = some (keyE e, L)) :
    Good (m1.set i (keyE e, L ++ [e])) (l ++ [e]) := by
  have nd1 : (m1.map (·.1)).Nodup := by
    rcases h1 with rfl | ⟨q1, q2, rfl⟩
    · exact h.nd
    · rw [List.map_append]
      exact List.nodup_append.2 ⟨h.nd, by simp, fun a ha b hb e1 => by simp at hb; subst hb; subst e1; exact q1 ha⟩
  have val1 : ∀ p ∈ m1, p.2 = (l.filter (fun x => decide (keyE x = p.1))) := by
    rcases h1 with rfl | ⟨q1, q2, rfl⟩
    · exact h.val
    · intro p hp
      rcases List.mem_append.1 hp with c | c
      · exact h.val p c
      · simp at c
        subst c
        have : l.filter (fun x => decide (keyE x = keyE e)) = [] := by
          rw [List.filter_eq_nil_iff]
          intro x hx hk
          obtain ⟨p, hp1, hp2⟩ := h.all x hx
          exact q1 (List.mem_map.2 ⟨p, hp1, by rw [hp2]; simpa using hk⟩)
        show [] = (l.filter _)
        rw [this]
  have hil := (List.getElem?_eq_some_iff.1 hi).1
  have hks : (m1.set i (keyE e, L ++ [e])).map (·.1) = m1.map (·.1) := by
    rw [List.map_set]
    apply List.ext_getElem?
    intro j
    rw [List.getElem?_set]
    split
    · rename_i q; subst q
      rw [if_pos (by simpa using hil), List.getElem?_map, hi]; rfl
    · rfl
  refine ⟨by rw [hks]; exact nd1, fun p hp => ?_, fun x hx => ?_, ?_⟩
  · obtain ⟨j, hj⟩ := List.mem_iff_getElem?.1 hp
    rw [List.getElem?_set] at hj
    rw [List.filter_append]
    split at hj
    · rename_i q; subst q
      injection hj with hj; subst hj
      have := val1 _ (List.mem_of_getElem? hi)
      show L ++ [e] = _
      rw [show L = (l.filter (fun x => decide (keyE x = keyE e))) from this]
      simp
    · rename_i q
      have hne : keyE e ≠ p.1 := fun q2 => q (nodup_get nd1 (i := i) (j := j) (x := keyE e) (by rw [List.getElem?_map, hi]; rfl) (by rw [List.getElem?_map, hj]; simp [q2]))
      rw [val1 p (List.mem_of_getElem? hj)]
      simp [hne]
  · have hx' : ∃ p ∈ m1, p.1 = keyE x := by
      rcases List.mem_append.1 hx with c | c
      · obtain ⟨p, hp1, hp2⟩ := h.all x c
        rcases h1 with rfl | ⟨q1, q2, rfl⟩
        · exact ⟨p, hp1, hp2⟩
        · exact ⟨p, by simp [hp1], hp2⟩
      · simp at c; subst c
        exact ⟨_, List.mem_of_getElem? hi, rfl⟩
    obtain ⟨p, hp1, hp2⟩ := hx'
    have : p.1 ∈ (m1.set i (keyE e, L ++ [e])).map (·.1) := by rw [hks]; exact List.mem_map.2 ⟨p, hp1, rfl⟩
    obtain ⟨p', a, b⟩ := List.mem_map.1 this
    exact ⟨p', a, b.trans hp2⟩
  · rw [List.length_set, List.length_append, List.length_singleton]
    have := h.len
    rcases h1 with rfl | ⟨q1, q2, rfl⟩
    · omega
    · rw [List.length_append, List.length_singleton]; omega

theorem disj_perm (p q : Et → Bool) : ∀ (L : List Et), (∀ e ∈ L, p e = true → q e = false) → (L.filter p ++ L.filter q).Perm (L.filter fun e => p e || q e)
  | [], _ => .refl _
  | e :: L, h => by
    have ih := disj_perm p q L fun x hx => h x (List.mem_cons_of_mem _ hx)
    cases hp : p e
    · cases hq : q e
      · simpa [List.filter_cons, hp, hq] using ih
      · rw [List.filter_cons_of_neg (by simp [hp]), List.filter_cons_of_pos hq, List.filter_cons_of_pos (by simp [hq])]
        exact List.perm_middle.trans (ih.cons e)
    · have hq := h e (List.mem_cons_self ..) hp
      rw [List.filter_cons_of_pos hp, List.filter_cons_of_neg (by simp [hq]), List.filter_cons_of_pos (by simp [hp])]
      exact ih.cons e
theorem groups_perm (M : Int × Int → Bool) (L : List Et) : ∀ (ks : List (Int × Int)), ks.Nodup → (ks.flatMap fun x => if M x then L.filter (fun e => decide (keyE e = x)) else []).Perm (L.filter fun e => M (keyE e) && decide (keyE e ∈ ks))
  | [], _ => by simp
  | x :: ks, h => by
    have h2 := List.nodup_cons.1 h
    have ih := groups_perm M L ks h2.2
    rw [List.flatMap_cons]
    refine (List.Perm.append_left _ ih).trans ?_
    cases hM : M x
    · simp only [Bool.false_eq_true, if_false, List.nil_append]
      have : (fun e => M (keyE e) && decide (keyE e ∈ ks)) = fun e => M (keyE e) && decide (keyE e ∈ x :: ks) := by
        funext e
        by_cases hx : keyE e = x
        · rw [hx, hM]; simp
        · simp [hx]
      rw [this]
    · simp only [if_true]
      refine (disj_perm _ _ L fun e _ h1 => ?_).trans ?_
      · have h1 : keyE e = x := of_decide_eq_true h1
        rw [h1]; simp [h2.1]
      · have : (fun e => decide (keyE e = x) || (M (keyE e) && decide (keyE e ∈ ks))) = fun e => M (keyE e) && decide (keyE e ∈ x :: ks) := by
          funext e
          by_cases hx : keyE e = x
          · rw [hx, hM]; simp
          · simp [hx]
        rw [this]
def matchB (owner place : Int) (x : Int × Int) : Bool := (decide (owner = -1) || decide (x.1 = owner)) && (decide (place = -1) || decide (x.2 = place))
def grpOf (M : Int × Int → Bool) (m : List ((Int × Int) × List Et)) (i : Nat) : List Et := match m[i]? with
  | some p => if M p.1 then p.2 else []
  | none => []
theorem range_grp (M : Int × Int → Bool) (m : List ((Int × Int) × List Et)) : (List.range m.length).flatMap (grpOf M m) = m.flatMap fun p => if M p.1 then p.2 else [] := by
  have : (List.range m.length).map (grpOf M m) = m.map fun p => if M p.1 then p.2 else [] := by
    apply List.ext_getElem?
    intro i
    rw [List.getElem?_map, List.getElem?_map]
    by_cases hi : i < m.length
    · rw [List.getElem?_range hi, List.getElem?_eq_getElem hi]
      simp [grpOf, hi]
    · rw [List.getElem?_eq_none (by simpa using hi), List.getElem?_eq_none (by omega)]; rfl
  rw [List.flatMap_def, List.flatMap_def, this]
theorem seen_perm {m : List ((Int × Int) × List Et)} {L : List Et} (h : Good m L) (M : Int × Int → Bool) {S : List Nat} (hn : S.Nodup) (hs : ∀ i, i ∈ S ↔ i < m.length) : (S.flatMap (grpOf M m)).Perm (L.filter fun e => M (keyE e)) := by
  have h1 : S.Perm (List.range m.length) := by
    rw [List.perm_iff_count]
    intro a
    rw [hn.count, (List.nodup_range (n := m.length)).count]
    simp [hs a]
  refine (h1.flatMap_right _).trans ?_
  rw [range_grp]
  have e1 : (m.flatMap fun p => if M p.1 then p.2 else []) = (m.map (·.1)).flatMap fun x => if M x then L.filter (fun e => decide (keyE e = x)) else [] := by
    rw [List.flatMap_def, List.flatMap_def, List.map_map]
    congr 1
    apply List.map_congr_left
    intro p hp
    simp only [Function.comp]
    rw [← h.val p hp]
  rw [e1]
  refine (groups_perm M L _ h.nd).trans ?_
  have : L.filter (fun e => M (keyE e) && decide (keyE e ∈ m.map (·.1))) = L.filter fun e => M (keyE e) := by
    apply List.filter_congr
    intro e he
    obtain ⟨p, hp1, hp2⟩ := h.all e he
    have : keyE e ∈ m.map (·.1) := List.mem_map.2 ⟨p, hp1, hp2⟩
    rw [decide_eq_true this, Bool.and_true]
  rw [this]
theorem nodup_len : ∀ (n : Nat) (S : List Nat), S.Nodup → (∀ i ∈ S, i < n) → S.length ≤ n
  | 0, S, _, h => by
    cases S with
    | nil => exact Nat.le_refl _
    | cons a S => exact absurd (h a (List.mem_cons_self ..)) (by omega)
  | n + 1, S, hn, h => by
    have h1 := nodup_len n (S.filter (fun i => !(i == n))) (hn.filter _) fun i hi => by
      obtain ⟨q1, q2⟩ := List.mem_filter.1 hi
      have := h i q1
      have : i ≠ n := by simpa using q2
      omega
    have h2 := List.length_eq_countP_add_countP (fun i => i == n) (l := S)
    have h3 : S.countP (fun i => i == n) ≤ 1 := by
      have := hn.count (a := n)
      unfold List.count at this
      rw [this]; split <;> omega
    have h4 : S.countP (fun a => decide ¬(a == n) = true) = (S.filter (fun i => !(i == n))).length := by
      rw [List.countP_eq_length_filter]; congr 2; funext a; cases (a == n) <;> rfl
    omega
theorem flat_len {S : List Nat} {g : Nat → List Et} {K : Nat} (h : ∀ i ∈ S, (g i).length ≤ K) : (S.flatMap g).length ≤ S.length * K := by
  induction S with
  | nil => simp
  | cons a S ih =>
    have := ih fun i hi => h i (List.mem_cons_of_mem _ hi)
    have := h a (List.mem_cons_self ..)
    rw [List.flatMap_cons, List.length_append, List.length_cons, Nat.succ_mul]
    omega
theorem grp_len {m : List ((Int × Int) × List Et)} {L : List Et} (h : Good m L) (M : Int × Int → Bool) (i : Nat) : (grpOf M m i).length ≤ L.length := by
  unfold grpOf
  split
  · rename_i p hp
    split
    · rw [h.val p (List.mem_of_getElem? hp)]; exact List.length_filter_le _ _
    · simp
  · simp
theorem sum_perm {a b : List Int} (h : a.Perm b) : a.sum = b.sum := by
  induction h with
  | nil => rfl
  | cons x _ ih => simp [ih]
  | swap x y l => simp; omega
  | trans _ _ ih1 ih2 => exact ih1.trans ih2
theorem account_perm {a b : List Et} (h : a.Perm b) (owner place day known : Int) : account a owner place day known = account b owner place day known := by
  unfold account sumX
  have h2 := sum_perm ((h.filter (accB owner place day known)).map (·.litres))
  have e1 : (lits (a.filter (accB owner place day known))).sum = (lits (b.filter (accB owner place day known))).sum := h2
  rw [e1]
theorem acc_match (owner place day known : Int) (e : Et) (h : accB owner place day known e = true) : matchB owner place (keyE e) = true := by
  unfold accB at h
  simp only [Bool.and_eq_true] at h
  unfold matchB keyE
  rw [Bool.and_eq_true]
  exact ⟨h.1.2, h.2⟩
theorem account_match (L : List Et) (owner place day known : Int) : account (L.filter fun e => matchB owner place (keyE e)) owner place day known = account L owner place day known := by
  unfold account
  rw [List.filter_filter]
  congr 4
  funext e
  cases h : accB owner place day known e
  · simp
  · rw [acc_match _ _ _ _ _ h]; rfl
theorem account_key (L : List Et) {owner place : Int} (h1 : owner ≠ -1) (h2 : place ≠ -1) (day known : Int) : account (L.filter fun e => decide (keyE e = (owner, place))) owner place day known = account L owner place day known := by
  rw [← account_match L]
  congr 2
  funext e
  unfold matchB keyE
  rw [decide_eq_false h1, decide_eq_false h2, Bool.eq_iff_iff]
  simp
end Go.Proofs.YtminphldifncaaaDoor.GI
