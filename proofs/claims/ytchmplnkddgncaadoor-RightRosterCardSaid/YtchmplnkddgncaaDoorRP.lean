/- Plain laws of the roster. -/
import Derived.Test.YtchmplnkddgncaaDoorRE
set_option linter.unusedSectionVars false
set_option linter.unusedSimpArgs false
set_option linter.unusedVariables false
namespace Go.Proofs.YtchmplnkddgncaaDoor
open CM
namespace RG
theorem pick_is : ∀ (L : List Dl) (b : Option Dl), (L.foldl pick b = b ∧ (L = [] ∨ b.isSome)) ∨ ∃ d ∈ L, L.foldl pick b = some d
  | [], b => .inl ⟨rfl, .inl rfl⟩
  | d :: L, b => by
    rw [List.foldl_cons]
    rcases pick_is L (pick b d) with ⟨h, _⟩ | ⟨x, hx, h⟩
    · rw [h]
      cases b with
      | none => exact .inr ⟨d, List.mem_cons_self .., rfl⟩
      | some y =>
        by_cases g : y.known ≤ d.known
        · exact .inr ⟨d, List.mem_cons_self .., by simp [pick, g]⟩
        · exact .inl ⟨by simp [pick, g], .inr rfl⟩
    · exact .inr ⟨x, List.mem_cons_of_mem _ hx, h⟩
theorem lastOf_mem {k i : Int} {K : List Dl} {d : Dl} (h : lastOf k i K = some d) : d ∈ K ∧ d.kind = k ∧ d.right.id = i := by
  unfold lastOf at h
  have hm : d ∈ K.filter (fun d => decide (d.kind = k) && decide (d.right.id = i)) := by
    rcases pick_is (K.filter (fun d => decide (d.kind = k) && decide (d.right.id = i))) none with ⟨e, _⟩ | ⟨x, hx, e⟩
    · rw [e] at h; cases h
    · rw [e] at h; cases h; exact hx
  rw [List.mem_filter] at hm
  simpa using hm
theorem lastOf_none {k i : Int} {K : List Dl} (h : lastOf k i K = none) : ∀ d ∈ K, ¬ (d.kind = k ∧ d.right.id = i) := by
  intro d hd hk
  unfold lastOf at h
  have hm : d ∈ K.filter (fun d => decide (d.kind = k) && decide (d.right.id = i)) := List.mem_filter.2 ⟨hd, by simp [hk]⟩
  rcases pick_is (K.filter (fun d => decide (d.kind = k) && decide (d.right.id = i))) none with ⟨e, e2⟩ | ⟨x, hx, e⟩
  · rcases e2 with e2 | e2
    · rw [e2] at hm; cases hm
    · cases e2
  · rw [e] at h; cases h
theorem lastOf_snoc (k i : Int) (K : List Dl) (d : Dl) : lastOf k i (K ++ [d]) = if d.kind = k ∧ d.right.id = i then pick (lastOf k i K) d else lastOf k i K := by
  unfold lastOf
  rw [List.filter_append, List.foldl_append]
  by_cases h : d.kind = k ∧ d.right.id = i
  · rw [if_pos h]; simp [List.filter, h]
  · rw [if_neg h]
    have : (decide (d.kind = k) && decide (d.right.id = i)) = false := by rw [Bool.and_eq_false_iff]; simp; simp at h; by_cases g : d.kind = k; exact .inr (h g); exact .inl g
    simp [List.filter, this]
def gstep (g : List Rt) (d : Dl) : List Rt := if d.kind = 0 ∧ d.right.id ∉ g.map (·.id) then g ++ [d.right] else g
theorem grantsOf_eq (K : List Dl) : grantsOf K = K.foldl gstep [] := rfl
theorem grantsOf_snoc (K : List Dl) (d : Dl) : grantsOf (K ++ [d]) = if d.kind = 0 ∧ d.right.id ∉ (grantsOf K).map (·.id) then grantsOf K ++ [d.right] else grantsOf K := by
  rw [grantsOf_eq, List.foldl_append]; rfl
theorem gfold_spec : ∀ (K : List Dl) (g : List Rt), (g.map (·.id)).Nodup → ((K.foldl gstep g).map (·.id)).Nodup ∧ (∀ r ∈ K.foldl gstep g, r ∈ g ∨ ∃ d ∈ K, d.kind = 0 ∧ d.right = r) ∧ (K.foldl gstep g).length ≤ g.length + K.length
  | [], g, h => ⟨h, fun r hr => .inl hr, by simp⟩
  | d :: K, g, h => by
    rw [List.foldl_cons]
    have h1 : ((gstep g d).map (·.id)).Nodup := by
      unfold gstep
      split
      · rename_i q
        rw [List.map_append]
        exact List.nodup_append.2 ⟨h, by simp, fun a ha b hb e => by simp at hb; subst hb; subst e; exact q.2 ha⟩
      · exact h
    have h2 : (gstep g d).length ≤ g.length + 1 := by unfold gstep; split <;> simp
    obtain ⟨a, b, c⟩ := gfold_spec K (gstep g d) h1
    refine ⟨a, fun r hr => ?_, by rw [List.length_cons]; omega⟩
    rcases b r hr with q | ⟨x, hx, q⟩
    · unfold gstep at q
      split at q
      · rename_i q2
        rcases List.mem_append.1 q with q | q
        · exact .inl q
        · simp at q; subst q; exact .inr ⟨d, List.mem_cons_self .., q2.1, rfl⟩
      · exact .inl q
    · exact .inr ⟨x, List.mem_cons_of_mem _ hx, q⟩
theorem grantsOf_nodup (K : List Dl) : ((grantsOf K).map (·.id)).Nodup := (gfold_spec K [] (by simp)).1
theorem grantsOf_mem {K : List Dl} {r : Rt} (h : r ∈ grantsOf K) : ∃ d ∈ K, d.kind = 0 ∧ d.right = r := by
  rcases (gfold_spec K [] (by simp)).2.1 r h with q | q
  · cases q
  · exact q
theorem grantsOf_len (K : List Dl) : (grantsOf K).length ≤ K.length := by have := (gfold_spec K [] (by simp)).2.2; rw [List.length_nil, Nat.zero_add] at this; exact this
theorem changed_id (K : List Dl) (r : Rt) : (changed K r).id = r.id := rfl
/-- The stable sort of what is left of a list. -/
theorem order_filter (p : Rt → Bool) (A : List Rt) : (orderR A).filter p = orderR (A.filter p) := by
  have h := ST.insSort_stab ltR swoR A
  refine ST.Stab.eq ltR swoR (l := A.filter p) ⟨h.perm.filter p, List.Pairwise.sublist List.filter_sublist h.asc, fun e => ?_⟩ (ST.insSort_stab ltR swoR _)
  rw [List.filter_filter, List.filter_filter]
  have := congrArg (List.filter p) (h.keep e)
  rw [List.filter_filter, List.filter_filter] at this
  simpa [Bool.and_comm, orderR] using this
theorem order_perm (A : List Rt) : (orderR A).Perm A := (ST.insSort_stab ltR swoR A).perm
theorem order_len (A : List Rt) : (orderR A).length = A.length := (order_perm A).length_eq
theorem order_asc {A : List Rt} {i j : Nat} {x y : Rt} (hij : i < j) (hx : (orderR A)[i]? = some x) (hy : (orderR A)[j]? = some y) : x.date < y.date ∨ (x.date = y.date ∧ x.id ≤ y.id) := by
  have ha := (ST.insSort_stab ltR swoR A).asc
  obtain ⟨h1, e1⟩ := List.getElem?_eq_some_iff.1 hx
  obtain ⟨h2, e2⟩ := List.getElem?_eq_some_iff.1 hy
  have := List.pairwise_iff_getElem.1 ha i j h1 h2 hij
  unfold orderR at e1 e2
  rw [e1, e2] at this
  unfold ltR at this
  simp at this
  omega
theorem order_twice (A : List Rt) : orderR (orderR A) = orderR A :=
  ST.Stab.eq ltR swoR (ST.insSort_stab ltR swoR _) (ST.Stab.refl ltR (ST.insSort_stab ltR swoR A).asc)
section
variable {no np : Nat} {day known : Int} {l : List Dl}
theorem counted_mem {d : Dl} : d ∈ counted no np day known l ↔ d ∈ l ∧ d.known ≤ known ∧ appB no np day d = true := by
  unfold counted; rw [List.mem_filter]; simp
theorem roster_ids : ((rosterR no np day known l).map (·.id)).Nodup := by
  have h : ((rowsR day (counted no np day known l)).map (·.id)).Nodup := by
    unfold rowsR
    rw [List.map_map]
    have : ((fun x => x.id) ∘ changed (counted no np day known l)) = (fun r : Rt => r.id) := rfl
    rw [this]
    exact List.Nodup.sublist (List.Sublist.map _ List.filter_sublist) (grantsOf_nodup _)
  exact ((order_perm _).map (·.id)).nodup_iff.2 h
theorem roster_len : (rosterR no np day known l).length ≤ l.length := by
  unfold rosterR
  rw [order_len]
  unfold rowsR
  rw [List.length_map]
  refine Nat.le_trans (List.length_filter_le _ _) (Nat.le_trans (grantsOf_len _) ?_)
  unfold counted
  exact List.length_filter_le _ _
theorem wit_iff {n a b : Int} : wit n a b = true ↔ a ≤ n ∧ n ≤ b := by simp [wit]
/-- What each right of the roster is. -/
theorem roster_row {r : Rt} (h : r ∈ rosterR no np day known l) : ∃ K q, K = counted no np day known l ∧ q ∈ grantsOf K ∧ seasonB q day = true ∧ endedB K q.id = false ∧ r = changed K q := by
  have := (order_perm _).mem_iff.1 h
  unfold rowsR at this
  obtain ⟨q, hq, rfl⟩ := List.mem_map.1 this
  rw [List.mem_filter] at hq
  obtain ⟨h1, h2⟩ := hq
  rw [Bool.and_eq_true] at h2
  exact ⟨_, q, rfl, h1, h2.1, by simpa using h2.2, rfl⟩
theorem app0 {d : Dl} (h : appB no np day d = true) (hk : d.kind = 0) : rightB no np d.right = true := by
  unfold appB at h; rw [if_pos hk] at h; exact h
theorem app1 {d : Dl} (h : appB no np day d = true) (hk : d.kind = 1) : wit d.right.owner 0 (no - 1) = true ∧ d.from1 ≤ day ∧ day ≤ d.until1 := by
  unfold appB at h; rw [if_neg (by omega), if_pos hk] at h; simpa [Bool.and_eq_true] using h
theorem app2 {d : Dl} (h : appB no np day d = true) (hk : d.kind = 2) : wit d.right.place 0 (np - 1) = true ∧ d.from1 ≤ day ∧ day ≤ d.until1 := by
  unfold appB at h; rw [if_neg (by omega), if_neg (by omega), if_pos hk] at h; simpa [Bool.and_eq_true] using h
theorem right_parts {r : Rt} : rightB no np r = true ↔ (wit r.id 0 2147483647 = true ∧ wit r.date 0 1125899906842624 = true ∧ wit r.rate 0 1125899906842624 = true ∧ wit r.owner 0 (no - 1) = true ∧ wit r.place 0 (np - 1) = true ∧ wit r.back 0 1000 = true ∧
    (wit r.backTo 0 (np - 1) || (decide (r.backTo = -1) && decide (r.back = 0))) = true ∧ mdB r.from1 = true ∧ mdB r.until1 = true) := by
  unfold rightB
  rw [Bool.and_eq_true, Bool.and_eq_true, Bool.and_eq_true, Bool.and_eq_true, Bool.and_eq_true, Bool.and_eq_true, Bool.and_eq_true, Bool.and_eq_true]
  constructor
  · rintro ⟨⟨⟨⟨⟨⟨⟨⟨a, b⟩, c⟩, d⟩, e⟩, f⟩, g⟩, h⟩, i⟩; exact ⟨a, b, c, d, e, f, g, h, i⟩
  · rintro ⟨a, b, c, d, e, f, g, h, i⟩; exact ⟨⟨⟨⟨⟨⟨⟨⟨a, b⟩, c⟩, d⟩, e⟩, f⟩, g⟩, h⟩, i⟩
theorem roster_right {r : Rt} (h : r ∈ rosterR no np day known l) : rightB no np r = true ∧ seasonB r day = true := by
  obtain ⟨K, q, rfl, hq, hs, he, rfl⟩ := roster_row h
  obtain ⟨d, hd, hk, rfl⟩ := grantsOf_mem hq
  have hd2 := counted_mem.1 hd
  obtain ⟨p1, p2, p3, p4, p5, p6, p7, p8, p9⟩ := right_parts.1 (app0 hd2.2.2 hk)
  refine ⟨right_parts.2 ⟨p1, p2, p3, ?_, ?_, p6, p7, p8, p9⟩, hs⟩
  · unfold changed
    simp only
    cases hx : lastOf 1 d.right.id (counted no np day known l) with
    | none => exact p4
    | some x =>
      obtain ⟨m1, m2, _⟩ := lastOf_mem hx
      exact (app1 (counted_mem.1 m1).2.2 m2).1
  · unfold changed
    simp only
    cases hx : lastOf 2 d.right.id (counted no np day known l) with
    | none => exact p5
    | some x =>
      obtain ⟨m1, m2, _⟩ := lastOf_mem hx
      exact (app2 (counted_mem.1 m1).2.2 m2).1
/-- No known deal has ended it. -/
theorem roster_lives {r : Rt} (h : r ∈ rosterR no np day known l) {d : Dl} (hd : d ∈ l) (h1 : d.known ≤ known) (h2 : d.right.id = r.id) : ¬ (d.kind = 3 ∧ d.from1 ≤ day) := by
  rintro ⟨h3, h4⟩
  obtain ⟨K, q, rfl, hq, hs, he, rfl⟩ := roster_row h
  have hd2 : d ∈ counted no np day known l := counted_mem.2 ⟨hd, h1, by unfold appB; rw [if_neg (by omega), if_neg (by omega), if_neg (by omega), if_pos h3]; simpa using h4⟩
  unfold endedB at he
  have : lastOf 3 q.id (counted no np day known l) = none := by simpa using he
  exact lastOf_none this d hd2 ⟨h3, h2⟩
/-- It was granted, and sold and moved at most. -/
theorem roster_from {r : Rt} (h : r ∈ rosterR no np day known l) :
    (∃ d ∈ l, d.known ≤ known ∧ d.right.id = r.id ∧ d.kind = 0 ∧ { d.right with owner := r.owner, place := r.place } = r) ∧
    (∃ d ∈ l, d.known ≤ known ∧ d.right.id = r.id ∧ d.right.owner = r.owner ∧ (d.kind = 0 ∨ (d.kind = 1 ∧ d.from1 ≤ day ∧ day ≤ d.until1))) ∧
    (∃ d ∈ l, d.known ≤ known ∧ d.right.id = r.id ∧ d.right.place = r.place ∧ (d.kind = 0 ∨ (d.kind = 2 ∧ d.from1 ≤ day ∧ day ≤ d.until1))) := by
  obtain ⟨K, q, rfl, hq, hs, he, rfl⟩ := roster_row h
  obtain ⟨d, hd, hk, rfl⟩ := grantsOf_mem hq
  have hd2 := counted_mem.1 hd
  refine ⟨⟨d, hd2.1, hd2.2.1, rfl, hk, rfl⟩, ?_, ?_⟩
  · cases hx : lastOf 1 d.right.id (counted no np day known l) with
    | none => exact ⟨d, hd2.1, hd2.2.1, rfl, by simp [changed, hx], .inl hk⟩
    | some x =>
      obtain ⟨m1, m2, m3⟩ := lastOf_mem hx
      have hm := counted_mem.1 m1
      exact ⟨x, hm.1, hm.2.1, m3, by simp [changed, hx], .inr ⟨m2, (app1 hm.2.2 m2).2⟩⟩
  · cases hx : lastOf 2 d.right.id (counted no np day known l) with
    | none => exact ⟨d, hd2.1, hd2.2.1, rfl, by simp [changed, hx], .inl hk⟩
    | some x =>
      obtain ⟨m1, m2, m3⟩ := lastOf_mem hx
      have hm := counted_mem.1 m1
      exact ⟨x, hm.1, hm.2.1, m3, by simp [changed, hx], .inr ⟨m2, (app2 hm.2.2 m2).2⟩⟩
/-- In ascending order, by different Ids. -/
theorem roster_asc {i j : Nat} {x y : Rt} (hij : i < j) (hx : (rosterR no np day known l)[i]? = some x) (hy : (rosterR no np day known l)[j]? = some y) :
    (x.date < y.date ∨ (x.date = y.date ∧ x.id < y.id)) ∧ x.id ≠ y.id := by
  have h := order_asc hij hx hy
  have hne : x.id ≠ y.id := fun e => by
    have hn := roster_ids (no := no) (np := np) (day := day) (known := known) (l := l)
    obtain ⟨h1, e1⟩ := List.getElem?_eq_some_iff.1 hx
    obtain ⟨h2, e2⟩ := List.getElem?_eq_some_iff.1 hy
    have := List.pairwise_iff_getElem.1 hn i j (by simpa using h1) (by simpa using h2) hij
    simp [e1, e2] at this
    exact this e
  exact ⟨by omega, hne⟩
theorem counted_snoc (d : Dl) : counted no np day known (l ++ [d]) = counted no np day known l ++ (if d.known ≤ known ∧ appB no np day d = true then [d] else []) := by
  unfold counted
  rw [List.filter_append]
  congr 1
  by_cases h1 : d.known ≤ known <;> cases h2 : appB no np day d <;> simp [List.filter, h1, h2]
/-- A deal that becomes known later. -/
theorem roster_later {d : Dl} (h : known < d.known) : rosterR no np day known (l ++ [d]) = rosterR no np day known l := by
  unfold rosterR
  rw [counted_snoc, if_neg (by omega), List.append_nil]
theorem lastOf_other {k i : Int} {K : List Dl} {d : Dl} (h : d.right.id ≠ i) : lastOf k i (K ++ [d]) = lastOf k i K := by
  rw [lastOf_snoc, if_neg (fun e => h e.2)]
theorem changed_other {K : List Dl} {d : Dl} {r : Rt} (h : r.id ≠ d.right.id) : changed (K ++ [d]) r = changed K r := by
  unfold changed; rw [lastOf_other (fun e => h e.symm), lastOf_other (fun e => h e.symm)]
theorem ended_other {K : List Dl} {d : Dl} {i : Int} (h : i ≠ d.right.id) : endedB (K ++ [d]) i = endedB K i := by
  unfold endedB; rw [lastOf_other (fun e => h e.symm)]
theorem filter_map_ne {f g : Rt → Rt} (hf : ∀ r, (f r).id = r.id) (hg : ∀ r, (g r).id = r.id) {x : Int} {A B : List Rt} (hAB : A.filter (fun r => decide (r.id ≠ x)) = B.filter (fun r => decide (r.id ≠ x))) (hfg : ∀ r, r.id ≠ x → f r = g r) :
    (A.map f).filter (fun r => decide (r.id ≠ x)) = (B.map g).filter (fun r => decide (r.id ≠ x)) := by
  rw [List.filter_map, List.filter_map]
  have e1 : ((fun r : Rt => decide (r.id ≠ x)) ∘ f) = (fun r : Rt => decide (r.id ≠ x)) := by funext r; simp [hf]
  have e2 : ((fun r : Rt => decide (r.id ≠ x)) ∘ g) = (fun r : Rt => decide (r.id ≠ x)) := by funext r; simp [hg]
  rw [e1, e2, hAB]
  refine List.map_congr_left fun r hr => hfg r ?_
  have := (List.mem_filter.1 hr).2
  simpa using this
theorem rows_others {K : List Dl} {d : Dl} : (rowsR day (K ++ [d])).filter (fun r => decide (r.id ≠ d.right.id)) = (rowsR day K).filter (fun r => decide (r.id ≠ d.right.id)) := by
  unfold rowsR
  refine filter_map_ne (f := changed (K ++ [d])) (g := changed K) (fun _ => rfl) (fun _ => rfl) ?_ (fun r hr => changed_other hr)
  rw [List.filter_filter, List.filter_filter]
  have hg : (grantsOf (K ++ [d])).filter (fun r => decide (r.id ≠ d.right.id)) = (grantsOf K).filter (fun r => decide (r.id ≠ d.right.id)) := by
    rw [grantsOf_snoc]
    split
    · rw [List.filter_append]; simp [List.filter]
    · rfl
  have key : ∀ (A : List Rt) (p q : Rt → Bool), A.filter (fun r => p r && q r) = (A.filter p).filter q := fun A p q => by rw [List.filter_filter]; congr 1; funext r; exact Bool.and_comm _ _
  rw [key _ (fun r => decide (r.id ≠ d.right.id)) (fun r => seasonB r day && !endedB (K ++ [d]) r.id), key _ (fun r => decide (r.id ≠ d.right.id)) (fun r => seasonB r day && !endedB K r.id), hg]
  refine List.filter_congr fun r hr => ?_
  have := (List.mem_filter.1 hr).2
  rw [ended_other (by simpa using this)]
theorem roster_others {d : Dl} : (rosterR no np day known (l ++ [d])).filter (fun r => decide (r.id ≠ d.right.id)) = (rosterR no np day known l).filter (fun r => decide (r.id ≠ d.right.id)) := by
  unfold rosterR
  rw [order_filter, order_filter, counted_snoc]
  congr 1
  split
  · exact rows_others
  · rw [List.append_nil]
/-- A deal that ends its right. -/
theorem roster_ended {d : Dl} (h0 : d.known ≤ known) (h1 : d.kind = 3) (h2 : d.from1 ≤ day) : (rosterR no np day known (l ++ [d])).filter (fun r => decide (r.id ≠ d.right.id)) = rosterR no np day known (l ++ [d]) := by
  rw [List.filter_eq_self]
  intro r hr
  rw [decide_eq_true_iff]
  intro e
  exact roster_lives hr (d := d) (by simp) h0 e.symm ⟨h1, h2⟩
theorem ids_split (A : List Rt) (h : (A.map (·.id)).Nodup) (x : Int) : A.length ≤ (A.filter (fun r => decide (r.id ≠ x))).length + 1 := by
  induction A with
  | nil => simp
  | cons r A ih =>
    rw [List.map_cons, List.nodup_cons] at h
    by_cases e : r.id = x
    · have : A.filter (fun r => decide (r.id ≠ x)) = A := List.filter_eq_self.2 fun q hq => by
        rw [decide_eq_true_iff]; intro e2; exact h.1 (List.mem_map.2 ⟨q, hq, by rw [e2, e]⟩)
      rw [List.filter_cons, if_neg (by simp [e]), this]; simp
    · rw [List.filter_cons, if_pos (by simp [e])]
      have := ih h.2
      simp only [List.length_cons]; omega
theorem roster_one {d : Dl} : (rosterR no np day known (l ++ [d])).length ≤ (rosterR no np day known l).length + 1 := by
  have h1 := ids_split _ (roster_ids (no := no) (np := np) (day := day) (known := known) (l := l ++ [d])) d.right.id
  rw [roster_others] at h1
  have h2 := List.length_filter_le (fun r : Rt => decide (r.id ≠ d.right.id)) (rosterR no np day known l)
  omega
theorem pick_swap {b : Option Dl} {c d : Dl} (h : c.known ≠ d.known) : pick (pick b c) d = pick (pick b d) c := by
  cases b with
  | none => unfold pick; simp only; by_cases g : c.known ≤ d.known
            · rw [if_pos g, if_neg (by omega)]
            · rw [if_neg g, if_pos (by omega)]
  | some x =>
    unfold pick
    simp only
    by_cases g1 : x.known ≤ c.known <;> by_cases g2 : x.known ≤ d.known <;> by_cases g3 : c.known ≤ d.known <;> by_cases g4 : d.known ≤ c.known <;> simp [g1, g2, g3, g4] <;> omega
theorem lastOf_swap {A B : List Dl} {c d : Dl} (h : c.known ≠ d.known) (k i : Int) : lastOf k i (A ++ c :: d :: B) = lastOf k i (A ++ d :: c :: B) := by
  unfold lastOf
  rw [List.filter_append, List.filter_append, List.foldl_append, List.foldl_append]
  cases h1 : (decide (c.kind = k) && decide (c.right.id = i)) <;> cases h2 : (decide (d.kind = k) && decide (d.right.id = i)) <;> simp [List.filter, h1, h2]
  rw [pick_swap h]
theorem grants_swap {A B : List Dl} {c d : Dl} (h : ¬ (c.kind = 0 ∧ d.kind = 0)) : grantsOf (A ++ c :: d :: B) = grantsOf (A ++ d :: c :: B) := by
  rw [grantsOf_eq, grantsOf_eq, List.foldl_append, List.foldl_append]
  simp only [List.foldl_cons]
  congr 1
  by_cases h1 : c.kind = 0
  · have h2 : ¬ d.kind = 0 := fun e => h ⟨h1, e⟩
    simp [gstep, h2]
  · simp [gstep, h1]
theorem rows_swap {A B : List Dl} {c d : Dl} (h : c.known ≠ d.known) (h0 : ¬ (c.kind = 0 ∧ d.kind = 0)) : rowsR day (A ++ c :: d :: B) = rowsR day (A ++ d :: c :: B) := by
  unfold rowsR
  rw [grants_swap h0]
  have e1 : ∀ i, endedB (A ++ c :: d :: B) i = endedB (A ++ d :: c :: B) i := fun i => by unfold endedB; rw [lastOf_swap h]
  have e2 : changed (A ++ c :: d :: B) = changed (A ++ d :: c :: B) := by funext r; unfold changed; rw [lastOf_swap h, lastOf_swap h]
  simp only [e1, e2]
/-- Two neighbours exchanged. -/
theorem roster_swap {A B : List Dl} {c d : Dl} (h : c.known ≠ d.known) (h0 : ¬ (c.kind = 0 ∧ d.kind = 0)) : rosterR no np day known (A ++ c :: d :: B) = rosterR no np day known (A ++ d :: c :: B) := by
  unfold rosterR counted
  rw [List.filter_append, List.filter_append]
  congr 1
  cases h1 : (decide (c.known ≤ known) && appB no np day c) <;> cases h2 : (decide (d.known ≤ known) && appB no np day d) <;> simp only [List.filter, h1, h2]
  exact rows_swap h h0
/-- The deals that are known early are enough. -/
theorem roster_early : rosterR no np day known (l.filter (fun d => decide (d.known ≤ known))) = rosterR no np day known l := by
  unfold rosterR counted
  rw [List.filter_filter]
  congr 3
  funext d
  cases h : decide (d.known ≤ known) <;> simp
end
end RG
end Go.Proofs.YtchmplnkddgncaaDoor
