/- Plain laws of a day's bookings: the shares of grants, and what a correction books. -/
set_option linter.unusedSimpArgs false
set_option linter.unusedVariables false
namespace Go.Proofs.Ythoigjkelinjhaa.SP

/-- A right's Id, owner and place. -/
abbrev T3 := Int × Int × Int
def holder (roster : List T3) (id : Int) : Option T3 := roster.find? (fun r => r.1 == id)
theorem nodup_of_map {α β : Type} (f : α → β) : ∀ l : List α, (l.map f).Nodup → l.Nodup
  | [], _ => List.nodup_nil
  | x :: l, h => by
    rw [List.map_cons, List.nodup_cons] at h
    exact List.nodup_cons.2 ⟨fun hx => h.1 (List.mem_map.2 ⟨x, hx, rfl⟩), nodup_of_map f l h.2⟩
section
variable (wrap : Int → Int)
def bump : List (T3 × Int) → T3 → Int → List (T3 × Int)
  | [], t, n => [(t, n)]
  | x :: r, t, n => if x.1 = t then (x.1, wrap (x.2 + n)) :: r else x :: bump r t n
def step (roster : List T3) (m : List (T3 × Int)) (g : Int × Int) : List (T3 × Int) :=
  match holder roster g.1 with
  | none => m
  | some t => if g.2 ≤ 0 then m else bump wrap m t g.2
def shares (roster : List T3) (grants : List (Int × Int)) : List (T3 × Int) := grants.foldl (step wrap roster) []
theorem bump_new : ∀ (m : List (T3 × Int)) (t : T3) (n : Int), (∀ y ∈ m, y.1 ≠ t) → bump wrap m t n = m ++ [(t, n)]
  | [], _, _, _ => rfl
  | x :: r, t, n, h => by
    unfold bump
    rw [if_neg (h x (by simp)), bump_new r t n (fun y hy => h y (by simp [hy]))]
    rfl
theorem holder_of : ∀ (roster : List T3), (roster.map (·.1)).Nodup → ∀ t ∈ roster, holder roster t.1 = some t
  | [], _, t, h => by cases h
  | r :: l, hn, t, h => by
    rw [List.map_cons, List.nodup_cons] at hn
    unfold holder
    rw [List.find?_cons]
    by_cases e : r.1 = t.1
    · rcases List.mem_cons.1 h with rfl | h1
      · simp
      · exact absurd (e ▸ List.mem_map.2 ⟨t, h1, rfl⟩) hn.1
    · rw [show (r.1 == t.1) = false by simpa using e]
      rcases List.mem_cons.1 h with rfl | h1
      · exact absurd rfl e
      · exact holder_of l hn.2 t h1
theorem shares_fold (roster : List T3) : ∀ (L m : List (T3 × Int)), (∀ x ∈ L, holder roster x.1.1 = some x.1) → (L.map (·.1)).Nodup → (∀ x ∈ L, ∀ y ∈ m, y.1 ≠ x.1) →
    (L.map fun x => (x.1.1, x.2)).foldl (step wrap roster) m = m ++ L.filter (fun x => decide (0 < x.2))
  | [], m, _, _, _ => by simp
  | x :: L, m, h1, h2, h3 => by
    rw [List.map_cons, List.nodup_cons] at h2
    rw [List.map_cons, List.foldl_cons]
    have hs : step wrap roster m (x.1.1, x.2) = if x.2 ≤ 0 then m else m ++ [x] := by
      unfold step
      rw [h1 x (by simp)]
      dsimp only
      rw [bump_new wrap m x.1 x.2 (fun y hy => h3 x (by simp) y hy)]
    rw [hs]
    by_cases hx : x.2 ≤ 0
    · rw [if_pos hx, shares_fold roster L m (fun y hy => h1 y (by simp [hy])) h2.2 (fun y hy => h3 y (by simp [hy]))]
      rw [List.filter_cons, if_neg (by simp; omega)]
    · rw [if_neg hx, shares_fold roster L (m ++ [x]) (fun y hy => h1 y (by simp [hy])) h2.2 (fun y hy z hz => by
        rcases List.mem_append.1 hz with h | h
        · exact h3 y (by simp [hy]) z h
        · have e : z = x := by simpa using h
          subst e
          exact fun e => h2.1 (e ▸ List.mem_map.2 ⟨y, hy, rfl⟩))]
      rw [List.filter_cons, if_pos (by simp; omega)]
      simp
/-- The shares of the grants of a roster with different Ids. -/
theorem shares_of (L : List (T3 × Int)) (h : (L.map (fun x => x.1.1)).Nodup) : shares wrap (L.map (·.1)) (L.map fun x => (x.1.1, x.2)) = L.filter (fun x => decide (0 < x.2)) := by
  have h1 : ((L.map (·.1)).map (fun t : T3 => t.1)).Nodup := by rw [List.map_map]; exact h
  have h2 : (L.map (·.1)).Nodup := nodup_of_map (fun t : T3 => t.1) _ h1
  unfold shares
  rw [shares_fold wrap _ L [] (fun x hx => holder_of _ h1 x.1 (List.mem_map.2 ⟨x, hx, rfl⟩)) h2 (fun x _ y hy => by cases hy)]
  rfl
/-- What a map holds at a key. -/
def look (m : List (T3 × Int)) (t : T3) : Int := match m.find? (fun x => x.1 == t) with | some x => x.2 | none => 0
/-- An entry: owner, place, litres, the right. -/
def pair (t : T3) (n : Int) : List (Int × Int × Int × Int) := if n = 0 then [] else [(t.2.1, t.2.2, n, t.1), (-1, t.2.2, wrap (-n), t.1)]
def grantsE (m : List (T3 × Int)) : List (Int × Int × Int × Int) := m.flatMap fun x => pair wrap x.1 x.2
def correctE (before after : List (T3 × Int)) : List (Int × Int × Int × Int) :=
  (after.flatMap fun x => pair wrap x.1 (wrap (x.2 - look before x.1))) ++ ((before.filter fun x => !after.any fun y => y.1 == x.1).flatMap fun x => pair wrap x.1 (wrap (-x.2)))
theorem look_of : ∀ (m : List (T3 × Int)), (m.map (·.1)).Nodup → ∀ x ∈ m, look m x.1 = x.2
  | [], _, x, h => by cases h
  | y :: l, hn, x, h => by
    rw [List.map_cons, List.nodup_cons] at hn
    unfold look
    rw [List.find?_cons]
    by_cases e : y.1 = x.1
    · rcases List.mem_cons.1 h with rfl | h1
      · simp
      · exact absurd (e ▸ List.mem_map.2 ⟨x, h1, rfl⟩) hn.1
    · rw [show (y.1 == x.1) = false by simpa using e]
      rcases List.mem_cons.1 h with rfl | h1
      · exact absurd rfl e
      · exact look_of l hn.2 x h1
/-- The same shares again: nothing is booked. -/
theorem same_none (h0 : wrap 0 = 0) (m : List (T3 × Int)) (hn : (m.map (·.1)).Nodup) : correctE wrap m m = [] := by
  unfold correctE
  have h1 : (m.flatMap fun x => pair wrap x.1 (wrap (x.2 - look m x.1))) = [] := by
    rw [List.flatMap_eq_nil_iff]
    intro x hx
    rw [look_of m hn x hx, Int.sub_self, h0]
    rfl
  have h2 : (m.filter fun x => !m.any fun y => y.1 == x.1) = [] := by
    rw [List.filter_eq_nil_iff]
    intro x hx
    have : (m.any fun y => y.1 == x.1) = true := List.any_eq_true.2 ⟨x, hx, by simp⟩
    rw [this]
    simp
  rw [h1, h2]
  rfl
/-- No shares any more: all is taken back. -/
theorem back_all (m : List (T3 × Int)) : correctE wrap m [] = m.flatMap fun x => pair wrap x.1 (wrap (-x.2)) := by
  unfold correctE
  have : (m.filter fun x => !([] : List (T3 × Int)).any fun y => y.1 == x.1) = m := List.filter_eq_self.2 (fun x _ => by simp)
  rw [this]
  rfl
/-- One right has another owner: exactly its share moves. -/
theorem moves_two (h0 : wrap 0 = 0) (A B : List (T3 × Int)) (t u : T3) (n : Int) (hid : ((A ++ (t, n) :: B).map (fun x => x.1.1)).Nodup) (he : u.1 = t.1) (hne : u ≠ t) :
    correctE wrap (A ++ (t, n) :: B) (A ++ (u, n) :: B) = pair wrap u (wrap n) ++ pair wrap t (wrap (-n)) := by
  have hk : ((A ++ (t, n) :: B).map (·.1)).Nodup := nodup_of_map (fun t : T3 => t.1) _ (by rw [List.map_map]; exact hid)
  have hl := look_of (A ++ (t, n) :: B) hk
  rw [List.map_append, List.map_cons, List.nodup_append, List.nodup_cons] at hid
  have hA : ∀ x ∈ A, x.1.1 ≠ t.1 := fun x hx => hid.2.2 _ (List.mem_map.2 ⟨x, hx, rfl⟩) _ (by simp)
  have hB : ∀ x ∈ B, x.1.1 ≠ t.1 := fun x hx e => hid.2.1.1 (e ▸ List.mem_map.2 ⟨x, hx, rfl⟩)
  have hu : look (A ++ (t, n) :: B) u = 0 := by
    unfold look
    have : (A ++ (t, n) :: B).find? (fun x => x.1 == u) = none := by
      rw [List.find?_eq_none]
      intro x hx
      have : x.1 ≠ u := by
        rcases List.mem_append.1 hx with h | h
        · exact fun e => hA x h (by rw [e, he])
        · rcases List.mem_cons.1 h with rfl | h
          · exact fun e => hne e.symm
          · exact fun e => hB x h (by rw [e, he])
      simpa using this
    rw [this]
  have hz : ∀ Q : List (T3 × Int), (∀ x ∈ Q, x ∈ A ++ (t, n) :: B) → (Q.flatMap fun x => pair wrap x.1 (wrap (x.2 - look (A ++ (t, n) :: B) x.1))) = [] := by
    intro Q hQ
    rw [List.flatMap_eq_nil_iff]
    intro x hx
    rw [hl x (hQ x hx), Int.sub_self, h0]
    rfl
  have hin : ∀ Q : List (T3 × Int), (∀ x ∈ Q, x ∈ A ++ (u, n) :: B) → (Q.filter fun x => !(A ++ (u, n) :: B).any fun y => y.1 == x.1) = [] := by
    intro Q hQ
    rw [List.filter_eq_nil_iff]
    intro x hx
    have : ((A ++ (u, n) :: B).any fun y => y.1 == x.1) = true := List.any_eq_true.2 ⟨x, hQ x hx, by simp⟩
    rw [this]
    simp
  have hout : ((A ++ (u, n) :: B).any fun y => y.1 == t) = false := by
    rw [List.any_eq_false]
    intro x hx
    have : x.1 ≠ t := by
      rcases List.mem_append.1 hx with h | h
      · exact fun e => hA x h (by rw [e])
      · rcases List.mem_cons.1 h with rfl | h
        · exact hne
        · exact fun e => hB x h (by rw [e])
    simpa using this
  unfold correctE
  rw [List.flatMap_append, List.flatMap_cons, hz A (fun x hx => by simp [hx]), hz B (fun x hx => by simp [hx]), hu]
  rw [List.filter_append, List.filter_cons, hin A (fun x hx => by simp [hx]), hin B (fun x hx => by simp [hx])]
  dsimp only
  rw [hout]
  simp
end
end Go.Proofs.Ythoigjkelinjhaa.SP
