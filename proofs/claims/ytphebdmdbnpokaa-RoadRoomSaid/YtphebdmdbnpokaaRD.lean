/- Plain words and laws of roads: when a road is open, the least hour of a journey, the arrivals at the nodes. -/
set_option linter.unusedSimpArgs false
set_option linter.unusedVariables false
namespace Go.Proofs.Ytphebdmdbnpokaa
namespace RD
structure Rd where
  nm : ByteArray
  frm : Int
  to_ : Int
  hours : Int
  flow : Int
  by_ : Int
  limit : Int
abbrev Vs := List (List Int)
/-- N nodes, P places. -/
def usableB (N P : Nat) (r : Rd) : Bool := decide (0 ≤ r.frm ∧ r.frm < N ∧ 0 ≤ r.to_ ∧ r.to_ < N ∧ 1 ≤ r.hours ∧ r.hours ≤ 24 ∧ -1 ≤ r.by_ ∧ r.by_ < P)
theorem usable_iff {N P : Nat} {r : Rd} : usableB N P r = true ↔ 0 ≤ r.frm ∧ r.frm < N ∧ 0 ≤ r.to_ ∧ r.to_ < N ∧ 1 ≤ r.hours ∧ r.hours ≤ 24 ∧ -1 ≤ r.by_ ∧ r.by_ < P := by simp [usableB]
def passB (r : Rd) (V : List Int) : Bool := r.by_ == -1 || decide (V.getD r.by_.toNat 0 ≤ r.limit)
def volsAt (VS : Vs) (t : Nat) : List Int := VS.getD (min t (VS.length - 1)) []
def poss (VS : Vs) (r : Rd) (t : Nat) : Prop := ∀ i, i < r.hours.toNat → passB r (volsAt VS (t + i)) = true
def IsLeave (VS : Vs) (r : Rd) (a t : Nat) : Prop := a ≤ t ∧ poss VS r t ∧ ∀ u, a ≤ u → poss VS r u → t ≤ u
theorem least_of {p : Nat → Prop} : ∀ {n : Nat}, p n → ∃ m, p m ∧ m ≤ n ∧ ∀ k, p k → m ≤ k := by
  intro n
  induction n using Nat.strongRecOn with
  | ind n ih =>
    intro h
    by_cases q : ∃ k, k < n ∧ p k
    · obtain ⟨k, hk, hp⟩ := q
      obtain ⟨m, h1, h2, h3⟩ := ih k hk hp
      exact ⟨m, h1, by omega, h3⟩
    · exact ⟨n, h, Nat.le_refl _, fun k hk => Nat.le_of_not_lt fun hlt => q ⟨k, hlt, hk⟩⟩
section
variable {VS : Vs} {r : Rd} {a t u : Nat}
theorem IsLeave.uniq (h : IsLeave VS r a t) (k : IsLeave VS r a u) : t = u := Nat.le_antisymm (h.2.2 u k.1 k.2.1) (k.2.2 t h.1 h.2.1)
theorem leave_of (h : a ≤ t) (k : poss VS r t) : ∃ u, IsLeave VS r a u ∧ u ≤ t := by
  obtain ⟨m, h1, h2, h3⟩ := least_of (p := fun x => a ≤ x ∧ poss VS r x) (n := t) ⟨h, k⟩
  exact ⟨m, ⟨h1.1, h1.2, fun u h k => h3 u ⟨h, k⟩⟩, h2⟩
theorem volsAt_end (h : VS.length - 1 ≤ t) : volsAt VS t = volsAt VS (VS.length - 1) := by
  unfold volsAt; rw [Nat.min_eq_right h, Nat.min_self]
theorem poss_end (h : poss VS r t) (h1 : VS.length - 1 ≤ t) (h2 : VS.length - 1 ≤ u) : poss VS r u := fun i hi => by
  have := h i hi
  rw [volsAt_end (by omega)] at this
  rw [volsAt_end (by omega)]; exact this
theorem IsLeave.bound (h : IsLeave VS r a t) : t ≤ max a (VS.length - 1) := by
  by_cases q : t ≤ max a (VS.length - 1)
  · exact q
  · exact h.2.2 _ (by omega) (poss_end h.2.1 (by omega) (by omega))
theorem IsLeave.mono {b v : Nat} (h : IsLeave VS r a t) (k : IsLeave VS r b v) (hab : a ≤ b) : t ≤ v := h.2.2 v (Nat.le_trans hab k.1) k.2.1
/-- The search for the least hour, as the program makes it. -/
structure Dep (VS : Vs) (r : Rd) (a start t : Nat) : Prop where
  lo : a ≤ start
  le : start ≤ t
  open_ : ∀ u, start ≤ u → u < t → passB r (volsAt VS u) = true
  no : ∀ u, a ≤ u → u < start → ¬ poss VS r u
theorem Dep.begin : Dep VS r a a a := ⟨Nat.le_refl _, Nat.le_refl _, fun u h1 h2 => by omega, fun u h1 h2 => by omega⟩
theorem Dep.pass {s : Nat} (h : Dep VS r a s t) (hp : passB r (volsAt VS t) = true) : Dep VS r a s (t + 1) := ⟨h.lo, by have := h.le; omega, fun u h1 h2 => by
  by_cases e : u = t
  · rw [e]; exact hp
  · exact h.open_ u h1 (by omega), h.no⟩
theorem Dep.shut {s : Nat} (h : Dep VS r a s t) (hp : passB r (volsAt VS t) = false) (ht : t < s + r.hours.toNat) : ∀ u, s ≤ u → u ≤ t → ¬ poss VS r u := fun u h1 h2 k => by
  have := k (t - u) (by omega)
  rw [show u + (t - u) = t by omega, hp] at this; cases this
theorem Dep.fail {s : Nat} (h : Dep VS r a s t) (hp : passB r (volsAt VS t) = false) (ht : t < s + r.hours.toNat) : Dep VS r a (t + 1) (t + 1) := ⟨by have := h.lo; have := h.le; omega, Nat.le_refl _, fun u h1 h2 => by omega, fun u h1 h2 => by
  by_cases e : u < s
  · exact h.no u h1 e
  · exact h.shut hp ht u (by omega) (by omega)⟩
theorem Dep.never {s : Nat} (h : Dep VS r a s t) (hr : 1 ≤ r.hours) (hp : passB r (volsAt VS t) = false) (ht : t < s + r.hours.toNat) (hl : VS.length - 1 ≤ t) : ∀ u, a ≤ u → ¬ poss VS r u := fun u h1 k => by
  by_cases e : u ≤ t
  · exact (h.fail hp ht).no u h1 (by omega) k
  · have := poss_end k (by omega) hl 0 (by omega)
    rw [Nat.add_zero, hp] at this; cases this
theorem Dep.done {s : Nat} (h : Dep VS r a s t) (ht : s + r.hours.toNat ≤ t) : IsLeave VS r a s := ⟨h.lo, fun i hi => h.open_ _ (by omega) (by omega), fun u h1 k => Nat.le_of_not_lt fun hlt => h.no u h1 hlt k⟩
theorem never_bounded (h : ∀ t, a ≤ t → t ≤ max a (VS.length - 1) → ¬ poss VS r t) : ∀ t, a ≤ t → ¬ poss VS r t := fun t ht k => by
  obtain ⟨u, hu, _⟩ := leave_of ht k
  exact h u hu.1 hu.bound hu.2.1
end
section
variable (N P : Nat) (VS : Vs) (R : List Rd) (town : Nat)
/-- Who was in the town at the hour 0 can be at a node at an hour. -/
inductive At : Nat → Nat → Prop
  | start : At town 0
  | go {r : Rd} {a t : Nat} : r ∈ R → usableB N P r = true → At r.frm.toNat a → a ≤ t → poss VS r t → At r.to_.toNat (t + r.hours.toNat)
def IsArr (v h : Nat) : Prop := At N P VS R town v h ∧ ∀ k, At N P VS R town v k → h ≤ k
noncomputable def arr (v : Nat) : Int := @dite _ (∃ h, IsArr N P VS R town v h) (Classical.propDecidable _) (fun h => ((Classical.choose h : Nat) : Int)) (fun _ => -1)
end
section
variable {N P : Nat} {VS : Vs} {R : List Rd} {town v h : Nat}
theorem IsArr.uniq {k : Nat} (a : IsArr N P VS R town v h) (b : IsArr N P VS R town v k) : h = k := Nat.le_antisymm (a.2 k b.1) (b.2 h a.1)
theorem arr_is (a : IsArr N P VS R town v h) : arr N P VS R town v = h := by
  unfold arr
  rw [dif_pos ⟨h, a⟩]
  have := (Classical.choose_spec (⟨h, a⟩ : ∃ h, IsArr N P VS R town v h)).uniq a
  rw [this]
theorem at_arr (a : At N P VS R town v h) : ∃ k, IsArr N P VS R town v k ∧ k ≤ h := by
  obtain ⟨m, h1, h2, h3⟩ := least_of (p := fun x => At N P VS R town v x) a
  exact ⟨m, ⟨h1, h3⟩, h2⟩
theorem arr_none (a : ∀ k, ¬ At N P VS R town v k) : arr N P VS R town v = -1 := by
  unfold arr
  rw [dif_neg]
  rintro ⟨k, hk⟩; exact a k hk.1
theorem arr_cases (N P : Nat) (VS : Vs) (R : List Rd) (town v : Nat) : (∃ h : Nat, arr N P VS R town v = h ∧ IsArr N P VS R town v h) ∨ arr N P VS R town v = -1 ∧ ∀ k, ¬ At N P VS R town v k := by
  by_cases q : ∃ k, At N P VS R town v k
  · obtain ⟨k, hk⟩ := q
    obtain ⟨m, hm, _⟩ := at_arr hk
    exact .inl ⟨m, arr_is hm, hm⟩
  · have q : ∀ k, ¬ At N P VS R town v k := fun k hk => q ⟨k, hk⟩
    exact .inr ⟨arr_none q, q⟩
theorem arr_ge (N P : Nat) (VS : Vs) (R : List Rd) (town v : Nat) : -1 ≤ arr N P VS R town v := by
  rcases arr_cases N P VS R town v with ⟨h, e, _⟩ | ⟨e, _⟩ <;> rw [e] <;> omega
theorem at_le (a : At N P VS R town v h) : 0 ≤ arr N P VS R town v ∧ arr N P VS R town v ≤ h := by
  obtain ⟨k, hk, hle⟩ := at_arr a
  rw [arr_is hk]; omega
theorem arr_town (N P : Nat) (VS : Vs) (R : List Rd) (town : Nat) : arr N P VS R town town = 0 := by
  have := at_le (At.start (N := N) (P := P) (VS := VS) (R := R) (town := town)); omega
theorem arr_isarr (h0 : 0 ≤ arr N P VS R town v) : IsArr N P VS R town v (arr N P VS R town v).toNat := by
  rcases arr_cases N P VS R town v with ⟨h, e, a⟩ | ⟨e, _⟩
  · rw [e]; exact a
  · omega
theorem at_lt (ht : town < N) (a : At N P VS R town v h) : v < N := by
  cases a with
  | start => exact ht
  | go h1 h2 h3 h4 h5 => have := usable_iff.1 h2; omega
/-- A node other than the town has a road that is the last of its way. -/
theorem last_road (hv : v ≠ town) (a : IsArr N P VS R town v h) : ∃ r ∈ R, usableB N P r = true ∧ r.to_.toNat = v ∧ ∃ b t, IsArr N P VS R town r.frm.toNat b ∧ IsLeave VS r b t ∧ t + r.hours.toNat = h := by
  obtain ⟨a1, a2⟩ := a
  cases a1 with
  | start => exact absurd rfl hv
  | @go r b t h1 h2 h3 h4 h5 =>
    obtain ⟨c, hc, hcb⟩ := at_arr h3
    obtain ⟨u, hu, hut⟩ := leave_of (Nat.le_trans hcb h4) h5
    have := a2 _ (At.go h1 h2 hc.1 hu.1 hu.2.1)
    exact ⟨r, h1, h2, rfl, c, u, hc, hu, by omega⟩
/-- The search with a heap of visits: what holds of the arrivals found so far and of the heap; the roads of X are still to come. -/
structure Dij (N P : Nat) (VS : Vs) (R : List Rd) (town : Nat) (D : List Int) (Q : List (Nat × Nat)) (X : List Rd) : Prop where
  len : D.length = N
  sound : ∀ v, v < N → D.getD v (-1) = -1 ∨ ∃ h : Nat, D.getD v (-1) = h ∧ IsArr N P VS R town v h
  inq : ∀ p ∈ Q, At N P VS R town p.2 p.1
  town : 0 ≤ D.getD town (-1) ∨ (0, town) ∈ Q
  next : ∀ r ∈ R, usableB N P r = true → ∀ b : Nat, D.getD r.frm.toNat (-1) = b → r ∉ X → ∀ t, IsLeave VS r b t → 0 ≤ D.getD r.to_.toNat (-1) ∨ (t + r.hours.toNat, r.to_.toNat) ∈ Q
variable {D : List Int} {Q : List (Nat × Nat)} {X : List Rd}
theorem Dij.begin (N P : Nat) (VS : Vs) (R : List Rd) (town : Nat) (ht : town < N) : Dij N P VS R town (List.replicate N (-1)) [(0, town)] [] := by
  have e : ∀ v, (List.replicate N (-1 : Int)).getD v (-1) = -1 := fun v => by
    rw [List.getD_eq_getElem?_getD, List.getElem?_replicate]; split <;> rfl
  refine ⟨by simp, fun v _ => .inl (e v), fun p hp => ?_, .inr (by simp), fun r _ _ b hb => ?_⟩
  · obtain rfl := List.mem_singleton.1 hp; exact .start
  · rw [e] at hb; omega
/-- Whatever can be reached is found, or something earlier waits. -/
theorem Dij.wait (d : Dij N P VS R town D Q []) (ht : town < N) (a : At N P VS R town v h) : (∃ k : Nat, D.getD v (-1) = k ∧ k ≤ h) ∨ ∃ p ∈ Q, p.1 ≤ h ∧ D.getD p.2 (-1) < 0 := by
  have key : ∀ w x : Nat, (0 ≤ D.getD w (-1) ∨ (x, w) ∈ Q) → w < N → At N P VS R town w x → (∃ k : Nat, D.getD w (-1) = k ∧ k ≤ x) ∨ ∃ p ∈ Q, p.1 ≤ x ∧ D.getD p.2 (-1) < 0 := fun w x hq hw ha => by
    rcases d.sound w hw with e | ⟨k, e, hk⟩
    · rcases hq with q | q
      · omega
      · exact .inr ⟨_, q, Nat.le_refl _, by show D.getD w (-1) < 0; omega⟩
    · exact .inl ⟨k, e, hk.2 _ ha⟩
  induction a with
  | start => exact key _ _ d.town ht .start
  | @go r b t h1 h2 h3 h4 h5 ih =>
    rcases ih with ⟨k, e, hk⟩ | ⟨p, hp, hp1, hp2⟩
    · obtain ⟨u, hu, hut⟩ := leave_of (Nat.le_trans hk h4) h5
      have hat : At N P VS R town r.to_.toNat (u + r.hours.toNat) := by
        rcases d.sound r.frm.toNat (at_lt ht h3) with e2 | ⟨k2, e2, hk2⟩
        · omega
        · obtain rfl : k = k2 := by omega
          exact .go h1 h2 hk2.1 hu.1 hu.2.1
      rcases key _ _ (d.next r h1 h2 k e (by simp) u hu) (at_lt ht hat) hat with ⟨k2, e2, hk2⟩ | ⟨p, hp, hp1, hp2⟩
      · exact .inl ⟨k2, e2, by omega⟩
      · exact .inr ⟨p, hp, by omega, hp2⟩
    · exact .inr ⟨p, hp, by omega, hp2⟩
theorem Dij.found (d : Dij N P VS R town D [] []) (ht : town < N) (v : Nat) (hv : v < N) : D.getD v (-1) = arr N P VS R town v := by
  rcases d.sound v hv with e | ⟨k, e, hk⟩
  · rw [e, arr_none]
    intro k hk
    rcases d.wait ht hk with ⟨j, e2, _⟩ | ⟨p, hp, _⟩
    · omega
    · cases hp
  · rw [e, arr_is hk]
/-- The first of the heap is taken off: a node that is found already. -/
theorem Dij.skip {p : Nat × Nat} {Q' : List (Nat × Nat)} (d : Dij N P VS R town D Q []) (h1 : ∀ q ∈ Q', q ∈ Q) (h2 : ∀ q ∈ Q, q = p ∨ q ∈ Q') (hp : 0 ≤ D.getD p.2 (-1)) : Dij N P VS R town D Q' [] := by
  refine ⟨d.len, d.sound, fun q hq => d.inq q (h1 q hq), ?_, fun r hr hu b hb hX t ht => ?_⟩
  · rcases d.town with h | h
    · exact .inl h
    · rcases h2 _ h with e | e
      · rw [← e] at hp; exact .inl hp
      · exact .inr e
  · rcases d.next r hr hu b hb hX t ht with h | h
    · exact .inl h
    · rcases h2 _ h with e | e
      · rw [← e] at hp; exact .inl hp
      · exact .inr e
theorem getD_set {l : List Int} {i j : Nat} {x : Int} : (l.set i x).getD j (-1) = if i = j ∧ i < l.length then x else l.getD j (-1) := by
  rw [List.getD_eq_getElem?_getD, List.getD_eq_getElem?_getD, List.getElem?_set]
  by_cases e : i = j
  · subst e
    by_cases h : i < l.length
    · simp [h]
    · simp [h]
  · simp [e]
/-- .. a node that is found by it. -/
theorem Dij.take {p : Nat × Nat} {Q' : List (Nat × Nat)} (d : Dij N P VS R town D Q []) (ht : town < N) (hin : p ∈ Q) (hmin : ∀ q ∈ Q, p.1 ≤ q.1) (h1 : ∀ q ∈ Q', q ∈ Q) (h2 : ∀ q ∈ Q, q = p ∨ q ∈ Q') (hp : D.getD p.2 (-1) < 0) :
    Dij N P VS R town (D.set p.2 p.1) Q' (R.filter fun r => usableB N P r && r.frm.toNat == p.2) ∧ IsArr N P VS R town p.2 p.1 := by
  have hpat := d.inq p hin
  have hpn := at_lt ht hpat
  have harr : IsArr N P VS R town p.2 p.1 := ⟨hpat, fun k hk => by
    rcases d.wait ht hk with ⟨j, e, _⟩ | ⟨q, hq, hq1, _⟩
    · omega
    · exact Nat.le_trans (hmin q hq) hq1⟩
  have hset : ∀ v, (D.set p.2 (p.1 : Int)).getD v (-1) = if p.2 = v then (p.1 : Int) else D.getD v (-1) := fun v => by
    rw [getD_set]
    by_cases e : p.2 = v
    · rw [if_pos e, if_pos ⟨e, by rw [d.len]; exact hpn⟩]
    · rw [if_neg e, if_neg (fun h => e h.1)]
  refine ⟨⟨by simp [d.len], fun v hv => ?_, fun q hq => d.inq q (h1 q hq), ?_, fun r hr hu b hb hX t htt => ?_⟩, harr⟩
  · rw [hset]
    by_cases e : p.2 = v
    · rw [if_pos e]; exact .inr ⟨p.1, rfl, e ▸ harr⟩
    · rw [if_neg e]; exact d.sound v hv
  · rw [hset]
    by_cases e : p.2 = town
    · rw [if_pos e]; exact .inl (by omega)
    · rw [if_neg e]
      rcases d.town with h | h
      · exact .inl h
      · rcases h2 _ h with e2 | e2
        · exact absurd (by rw [← e2]) e
        · exact .inr e2
  · rw [hset] at hb
    by_cases e : p.2 = r.frm.toNat
    · exact absurd (List.mem_filter.2 ⟨hr, by simp [hu, e]⟩) hX
    · rw [if_neg e] at hb
      rw [hset]
      by_cases e3 : p.2 = r.to_.toNat
      · rw [if_pos e3]; exact .inl (by omega)
      · rw [if_neg e3]
        rcases d.next r hr hu b hb (by simp) t htt with h | h
        · exact .inl h
        · rcases h2 _ h with e2 | e2
          · exact absurd (by rw [← e2]) e3
          · exact .inr e2
/-- A road of the node that was found: nothing is pushed. -/
theorem Dij.pass {r : Rd} (d : Dij N P VS R town D Q (r :: X)) (h : 0 ≤ D.getD r.to_.toNat (-1) ∨ ∀ b : Nat, D.getD r.frm.toNat (-1) = b → ∀ t, ¬ IsLeave VS r b t) : Dij N P VS R town D Q X :=
  ⟨d.len, d.sound, d.inq, d.town, fun q hq hu b hb hX t ht => by
    by_cases e : q = r
    · subst e
      rcases h with h | h
      · exact .inl h
      · exact absurd ht (h b hb t)
    · exact d.next q hq hu b hb (by simp [e, hX]) t ht⟩
theorem Dij.push {r : Rd} {b t : Nat} {Q' : List (Nat × Nat)} (d : Dij N P VS R town D Q (r :: X)) (hr : r ∈ R) (hu : usableB N P r = true) (ht : town < N) (hb : D.getD r.frm.toNat (-1) = b) (htt : IsLeave VS r b t)
    (h1 : ∀ q ∈ Q', q = (t + r.hours.toNat, r.to_.toNat) ∨ q ∈ Q) (h2 : ∀ q ∈ Q, q ∈ Q') (h3 : (t + r.hours.toNat, r.to_.toNat) ∈ Q') : Dij N P VS R town D Q' X := by
  have hfr : r.frm.toNat < N := by have := usable_iff.1 hu; omega
  refine ⟨d.len, d.sound, fun q hq => ?_, d.town.imp id (h2 _), fun q hq hu' b' hb' hX t' ht' => ?_⟩
  · rcases h1 q hq with e | e
    · subst e
      rcases d.sound _ hfr with e | ⟨k, e, hk⟩
      · omega
      · obtain rfl : b = k := by omega
        exact .go hr hu hk.1 htt.1 htt.2.1
    · exact d.inq q e
  · by_cases e : q = r
    · subst e
      obtain rfl : b = b' := by omega
      obtain rfl := htt.uniq ht'
      exact .inr h3
    · exact (d.next q hq hu' b' hb' (by simp [e, hX]) t' ht').imp id (h2 _)
end
end RD
end Go.Proofs.Ytphebdmdbnpokaa
