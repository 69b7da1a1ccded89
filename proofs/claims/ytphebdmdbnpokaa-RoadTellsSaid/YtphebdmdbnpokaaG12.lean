/- Joined of: RD RY. -/

/- Plain words and laws of roads: when a road is open, the least hour of a journey, the arrivals at the nodes. -/
set_option linter.unusedSimpArgs false
set_option linter.unusedVariables false
namespace Go.Proofs.Ytphebdmdbnpokaa
namespace RD
structure Rd where
  nm : ByteArray
  frm : Int
  to_ : Int
  hours : Int
  flow : Int
  by_ : Int
  limit : Int
abbrev Vs := List (List Int)
/-- N nodes, P places. -/
def usableB (N P : Nat) (r : Rd) : Bool := decide (0 ≤ r.frm ∧ r.frm < N ∧ 0 ≤ r.to_ ∧ r.to_ < N ∧ 1 ≤ r.hours ∧ r.hours ≤ 24 ∧ -1 ≤ r.by_ ∧ r.by_ < P)
theorem usable_iff {N P : Nat} {r : Rd} : usableB N P r = true ↔ 0 ≤ r.frm ∧ r.frm < N ∧ 0 ≤ r.to_ ∧ r.to_ < N ∧ 1 ≤ r.hours ∧ r.hours ≤ 24 ∧ -1 ≤ r.by_ ∧ r.by_ < P := by simp [usableB]
def passB (r : Rd) (V : List Int) : Bool := r.by_ == -1 || decide (V.getD r.by_.toNat 0 ≤ r.limit)
def volsAt (VS : Vs) (t : Nat) : List Int := VS.getD (min t (VS.length - 1)) []
def poss (VS : Vs) (r : Rd) (t : Nat) : Prop := ∀ i, i < r.hours.toNat → passB r (volsAt VS (t + i)) = true
def IsLeave (VS : Vs) (r : Rd) (a t : Nat) : Prop := a ≤ t ∧ poss VS r t ∧ ∀ u, a ≤ u → poss VS r u → t ≤ u
theorem least_of {p : Nat → Prop} : ∀ {n : Nat}, p n → ∃ m, p m ∧ m ≤ n ∧ ∀ k, p k → m ≤ k := by
  intro n
  induction n using Nat.strongRecOn with
  | ind n ih =>
    intro h
    by_cases q : ∃ k, k < n ∧ p k
    · obtain ⟨k, hk, hp⟩ := q
      obtain ⟨m, h1, h2, h3⟩ := ih k hk hp
      exact ⟨m, h1, by omega, h3⟩
    · exact ⟨n, h, Nat.le_refl _, fun k hk => Nat.le_of_not_lt fun hlt => q ⟨k, hlt, hk⟩⟩
section
variable {VS : Vs} {r : Rd} {a t u : Nat}
theorem IsLeave.uniq (h : IsLeave VS r a t) (k : IsLeave VS r a u) : t = u := Nat.le_antisymm (h.2.2 u k.1 k.2.1) (k.2.2 t h.1 h.2.1)
theorem leave_of (h : a ≤ t) (k : poss VS r t) : ∃ u, IsLeave VS r a u ∧ u ≤ t := by
  obtain ⟨m, h1, h2, h3⟩ := least_of (p := fun x => a ≤ x ∧ poss VS r x) (n := t) ⟨h, k⟩
  exact ⟨m, ⟨h1.1, h1.2, fun u h k => h3 u ⟨h, k⟩⟩, h2⟩
theorem volsAt_end (h : VS.length - 1 ≤ t) : volsAt VS t = volsAt VS (VS.length - 1) := by
  unfold volsAt; rw [Nat.min_eq_right h, Nat.min_self]
theorem poss_end (h : poss VS r t) (h1 : VS.length - 1 ≤ t) (h2 : VS.length - 1 ≤ u) : poss VS r u := fun i hi => by
  have := h i hi
  rw [volsAt_end (by omega)] at this
  rw [volsAt_end (by omega)]; exact this
theorem IsLeave.bound (h : IsLeave VS r a t) : t ≤ max a (VS.length - 1) := by
  by_cases q : t ≤ max a (VS.length - 1)
  · exact q
  · exact h.2.2 _ (by omega) (poss_end h.2.1 (by omega) (by omega))
theorem IsLeave.mono {b v : Nat} (h : IsLeave VS r a t) (k : IsLeave VS r b v) (hab : a ≤ b) : t ≤ v := h.2.2 v (Nat.le_trans hab k.1) k.2.1
/-- The search for the least hour, as the program makes it. -/
structure Dep (VS : Vs) (r : Rd) (a start t : Nat) : Prop where
  lo : a ≤ start
  le : start ≤ t
  open_ : ∀ u, start ≤ u → u < t → passB r (volsAt VS u) = true
  no : ∀ u, a ≤ u → u < start → ¬ poss VS r u
theorem Dep.begin : Dep VS r a a a := ⟨Nat.le_refl _, Nat.le_refl _, fun u h1 h2 => by omega, fun u h1 h2 => by omega⟩
theorem Dep.pass {s : Nat} (h : Dep VS r a s t) (hp : passB r (volsAt VS t) = true) : Dep VS r a s (t + 1) := ⟨h.lo, by have := h.le; omega, fun u h1 h2 => by
  by_cases e : u = t
  · rw [e]; exact hp
  · exact h.open_ u h1 (by omega), h.no⟩
theorem Dep.shut {s : Nat} (h : Dep VS r a s t) (hp : passB r (volsAt VS t) = false) (ht : t < s + r.hours.toNat) : ∀ u, s ≤ u → u ≤ t → ¬ poss VS r u := fun u h1 h2 k => by
  have := k (t - u) (by omega)
  rw [show u + (t - u) = t by omega, hp] at this; cases this
theorem Dep.fail {s : Nat} (h : Dep VS r a s t) (hp : passB r (volsAt VS t) = false) (ht : t < s + r.hours.toNat) : Dep VS r a (t + 1) (t + 1) := ⟨by have := h.lo; have := h.le; omega, Nat.le_refl _, fun u h1 h2 => by omega, fun u h1 h2 => by
  by_cases e : u < s
  · exact h.no u h1 e
  · exact h.shut hp ht u (by omega) (by omega)⟩
theorem Dep.never {s : Nat} (h : Dep VS r a s t) (hr : 1 ≤ r.hours) (hp : passB r (volsAt VS t) = false) (ht : t < s + r.hours.toNat) (hl : VS.length - 1 ≤ t) : ∀ u, a ≤ u → ¬ poss VS r u := fun u h1 k => by
  by_cases e : u ≤ t
  · exact (h.fail hp ht).no u h1 (by omega) k
  · have := poss_end k (by omega) hl 0 (by omega)
    rw [Nat.add_zero, hp] at this; cases this
theorem Dep.done {s : Nat} (h : Dep VS r a s t) (ht : s + r.hours.toNat ≤ t) : IsLeave VS r a s := ⟨h.lo, fun i hi => h.open_ _ (by omega) (by omega), fun u h1 k => Nat.le_of_not_lt fun hlt => h.no u h1 hlt k⟩
theorem never_bounded (h : ∀ t, a ≤ t → t ≤ max a (VS.length - 1) → ¬ poss VS r t) : ∀ t, a ≤ t → ¬ poss VS r t := fun t ht k => by
  obtain ⟨u, hu, _⟩ := leave_of ht k
  exact h u hu.1 hu.bound hu.2.1
end
section
variable (N P : Nat) (VS : Vs) (R : List Rd) (town : Nat)
/-- Who was in the town at the hour 0 can be at a node at an hour. -/
inductive At : Nat → Nat → Prop
  | start : At town 0
  | go {r : Rd} {a t : Nat} : r ∈ R → usableB N P r = true → At r.frm.toNat a → a ≤ t → poss VS r t → At r.to_.toNat (t + r.hours.toNat)
def IsArr (v h : Nat) : Prop := At N P VS R town v h ∧ ∀ k, At N P VS R town v k → h ≤ k
noncomputable def arr (v : Nat) : Int := @dite _ (∃ h, IsArr N P VS R town v h) (Classical.propDecidable _) (fun h => ((Classical.choose h : Nat) : Int)) (fun _ => -1)
end
section
variable {N P : Nat} {VS : Vs} {R : List Rd} {town v h : Nat}
theorem IsArr.uniq {k : Nat} (a : IsArr N P VS R town v h) (b : IsArr N P VS R town v k) : h = k := Nat.le_antisymm (a.2 k b.1) (b.2 h a.1)
theorem arr_is (a : IsArr N P VS R town v h) : arr N P VS R town v = h := by
  unfold arr
  rw [dif_pos ⟨h, a⟩]
  have := (Classical.choose_spec (⟨h, a⟩ : ∃ h, IsArr N P VS R town v h)).uniq a
  rw [this]
theorem at_arr (a : At N P VS R town v h) : ∃ k, IsArr N P VS R town v k ∧ k ≤ h := by
  obtain ⟨m, h1, h2, h3⟩ := least_of (p := fun x => At N P VS R town v x) a
  exact ⟨m, ⟨h1, h3⟩, h2⟩
theorem arr_none (a : ∀ k, ¬ At N P VS R town v k) : arr N P VS R town v = -1 := by
  unfold arr
  rw [dif_neg]
  rintro ⟨k, hk⟩; exact a k hk.1
theorem arr_cases (N P : Nat) (VS : Vs) (R : List Rd) (town v : Nat) : (∃ h : Nat, arr N P VS R town v = h ∧ IsArr N P VS R town v h) ∨ arr N P VS R town v = -1 ∧ ∀ k, ¬ At N P VS R town v k := by
  by_cases q : ∃ k, At N P VS R town v k
  · obtain ⟨k, hk⟩ := q
    obtain ⟨m, hm, _⟩ := at_arr hk
    exact .inl ⟨m, arr_is hm, hm⟩
  · have q : ∀ k, ¬ At N P VS R town v k := fun k hk => q ⟨k, hk⟩
    exact .inr ⟨arr_none q, q⟩
theorem arr_ge (N P : Nat) (VS : Vs) (R : List Rd) (town v : Nat) : -1 ≤ arr N P VS R town v := by
  rcases arr_cases N P VS R town v with ⟨h, e, _⟩ | ⟨e, _⟩ <;> rw [e] <;> omega
theorem at_le (a : At N P VS R town v h) : 0 ≤ arr N P VS R town v ∧ arr N P VS R town v ≤ h := by
  obtain ⟨k, hk, hle⟩ := at_arr a
  rw [arr_is hk]; omega
theorem arr_town (N P : Nat) (VS : Vs) (R : List Rd) (town : Nat) : arr N P VS R town town = 0 := by
  have := at_le (At.start (N := N) (P := P) (VS := VS) (R := R) (town := town)); omega
theorem arr_isarr (h0 : 0 ≤ arr N P VS R town v) : IsArr N P VS R town v (arr N P VS R town v).toNat := by
  rcases arr_cases N P VS R town v with ⟨h, e, a⟩ | ⟨e, _⟩
  · rw [e]; exact a
  · omega
theorem at_lt (ht : town < N) (a : At N P VS R town v h) : v < N := by
  cases a with
  | start => exact ht
  | go h1 h2 h3 h4 h5 => have := usable_iff.1 h2; omega
/-- A node other than the town has a road that is the last of its way. -/
theorem last_road (hv : v ≠ town) (a : IsArr N P VS R town v h) : ∃ r ∈ R, usableB N P r = true ∧ r.to_.toNat = v ∧ ∃ b t, IsArr N P VS R town r.frm.toNat b ∧ IsLeave VS r b t ∧ t + r.hours.toNat = h := by
  obtain ⟨a1, a2⟩ := a
  cases a1 with
  | start => exact absurd rfl hv
  | @go r b t h1 h2 h3 h4 h5 =>
    obtain ⟨c, hc, hcb⟩ := at_arr h3
    obtain ⟨u, hu, hut⟩ := leave_of (Nat.le_trans hcb h4) h5
    have := a2 _ (At.go h1 h2 hc.1 hu.1 hu.2.1)
    exact ⟨r, h1, h2, rfl, c, u, hc, hu, by omega⟩
/-- The search with a heap of visits: what holds of the arrivals found so far and of the heap; the roads of X are still to come. -/
structure Dij (N P : Nat) (VS : Vs) (R : List Rd) (town : Nat) (D : List Int) (Q : List (Nat × Nat)) (X : List Rd) : Prop where
  len : D.length = N
  sound : ∀ v, v < N → D.getD v (-1) = -1 ∨ ∃ h : Nat, D.getD v (-1) = h ∧ IsArr N P VS R town v h
  inq : ∀ p ∈ Q, At N P VS R town p.2 p.1
  town : 0 ≤ D.getD town (-1) ∨ (0, town) ∈ Q
  next : ∀ r ∈ R, usableB N P r = true → ∀ b : Nat, D.getD r.frm.toNat (-1) = b → r ∉ X → ∀ t, IsLeave VS r b t → 0 ≤ D.getD r.to_.toNat (-1) ∨ (t + r.hours.toNat, r.to_.toNat) ∈ Q
variable {D : List Int} {Q : List (Nat × Nat)} {X : List Rd}
theorem Dij.begin (N P : Nat) (VS : Vs) (R : List Rd) (town : Nat) (ht : town < N) : Dij N P VS R town (List.replicate N (-1)) [(0, town)] [] := by
  have e : ∀ v, (List.replicate N (-1 : Int)).getD v (-1) = -1 := fun v => by
    rw [List.getD_eq_getElem?_getD, List.getElem?_replicate]; split <;> rfl
  refine ⟨by simp, fun v _ => .inl (e v), fun p hp => ?_, .inr (by simp), fun r _ _ b hb => ?_⟩
  · obtain rfl := List.mem_singleton.1 hp; exact .start
  · rw [e] at hb; omega
/-- Whatever can be reached is found, or something earlier waits. -/
theorem Dij.wait (d : Dij N P VS R town D Q []) (ht : town < N) (a : At N P VS R town v h) : (∃ k : Nat, D.getD v (-1) = k ∧ k ≤ h) ∨ ∃ p ∈ Q, p.1 ≤ h ∧ D.getD p.2 (-1) < 0 := by
  have key : ∀ w x : Nat, (0 ≤ D.getD w (-1) ∨ (x, w) ∈ Q) → w < N → At N P VS R town w x → (∃ k : Nat, D.getD w (-1) = k ∧ k ≤ x) ∨ ∃ p ∈ Q, p.1 ≤ x ∧ D.getD p.2 (-1) < 0 := fun w x hq hw ha => by
    rcases d.sound w hw with e | ⟨k, e, hk⟩
    · rcases hq with q | q
      · omega
      · exact .inr ⟨_, q, Nat.le_refl _, by show D.getD w (-1) < 0; omega⟩
    · exact .inl ⟨k, e, hk.2 _ ha⟩
  induction a with
  | start => exact key _ _ d.town ht .start
  | @go r b t h1 h2 h3 h4 h5 ih =>
    rcases ih with ⟨k, e, hk⟩ | ⟨p, hp, hp1, hp2⟩
    · obtain ⟨u, hu, hut⟩ := leave_of (Nat.le_trans hk h4) h5
      have hat : At N P VS R town r.to_.toNat (u + r.hours.toNat) := by
        rcases d.sound r.frm.toNat (at_lt ht h3) with e2 | ⟨k2, e2, hk2⟩
        · omega
        · obtain rfl : k = k2 := by omega
          exact .go h1 h2 hk2.1 hu.1 hu.2.1
      rcases key _ _ (d.next r h1 h2 k e (by simp) u hu) (at_lt ht hat) hat with ⟨k2, e2, hk2⟩ | ⟨p, hp, hp1, hp2⟩
      · exact .inl ⟨k2, e2, by omega⟩
      · exact .inr ⟨p, hp, by omega, hp2⟩
    · exact .inr ⟨p, hp, by omega, hp2⟩
theorem Dij.found (d : Dij N P VS R town D [] []) (ht : town < N) (v : Nat) (hv : v < N) : D.getD v (-1) = arr N P VS R town v := by
  rcases d.sound v hv with e | ⟨k, e, hk⟩
  · rw [e, arr_none]
    intro k hk
    rcases d.wait ht hk with ⟨j, e2, _⟩ | ⟨p, hp, _⟩
    · omega
    · cases hp
  · rw [e, arr_is hk]
/-- The first of the heap is taken off: a node that is found already. -/
theorem Dij.skip {p : Nat × Nat} {Q' : List (Nat × Nat)} (d : Dij N P VS R town D Q []) (h1 : ∀ q ∈ Q', q ∈ Q) (h2 : ∀ q ∈ Q, q = p ∨ q ∈ Q') (hp : 0 ≤ D.getD p.2 (-1)) : Dij N P VS R town D Q' [] := by
  refine ⟨d.len, d.sound, fun q hq => d.inq q (h1 q hq), ?_, fun r hr hu b hb hX t ht => ?_⟩
  · rcases d.town with h | h
    · exact .inl h
    · rcases h2 _ h with e | e
      · rw [← e] at hp; exact .inl hp
      · exact .inr e
  · rcases d.next r hr hu b hb hX t ht with h | h
    · exact .inl h
    · rcases h2 _ h with e | e
      · rw [← e] at hp; exact .inl hp
      · exact .inr e
theorem getD_set {l : List Int} {i j : Nat} {x : Int} : (l.set i x).getD j (-1) = if i = j ∧ i < l.length then x else l.getD j (-1) := by
  rw [List.getD_eq_getElem?_getD, List.getD_eq_getElem?_getD, List.getElem?_set]
  by_cases e : i = j
  · subst e
    by_cases h : i < l.length
    · simp [h]
    · simp [h]
  · simp [e]
/-- .. a node that is found by it. -/
theorem Dij.take {p : Nat × Nat} {Q' : List (Nat × Nat)} (d : Dij N P VS R town D Q []) (ht : town < N) (hin : p ∈ Q) (hmin : ∀ q ∈ Q, p.1 ≤ q.1) (h1 : ∀ q ∈ Q', q ∈ Q) (h2 : ∀ q ∈ Q, q = p ∨ q ∈ Q') (hp : D.getD p.2 (-1) < 0) :
    Dij N P VS R town (D.set p.2 p.1) Q' (R.filter fun r => usableB N P r && r.frm.toNat == p.2) ∧ IsArr N P VS R town p.2 p.1 := by
  have hpat := d.inq p hin
  have hpn := at_lt ht hpat
  have harr : IsArr N P VS R town p.2 p.1 := ⟨hpat, fun k hk => by
    rcases d.wait ht hk with ⟨j, e, _⟩ | ⟨q, hq, hq1, _⟩
    · omega
    · exact Nat.le_trans (hmin q hq) hq1⟩
  have hset : ∀ v, (D.set p.2 (p.1 : Int)).getD v (-1) = if p.2 = v then (p.1 : Int) else D.getD v (-1) := fun v => by
    rw [getD_set]
    by_cases e : p.2 = v
    · rw [if_pos e, if_pos ⟨e, by rw [d.len]; exact hpn⟩]
    · rw [if_neg e, if_neg (fun h => e h.1)]
  refine ⟨⟨by simp [d.len], fun v hv => ?_, fun q hq => d.inq q (h1 q hq), ?_, fun r hr hu b hb hX t htt => ?_⟩, harr⟩
  · rw [hset]
    by_cases e : p.2 = v
    · rw [if_pos e]; exact .inr ⟨p.1, rfl, e ▸ harr⟩
    · rw [if_neg e]; exact d.sound v hv
  · rw [hset]
    by_cases e : p.2 = town
    · rw [if_pos e]; exact .inl (by omega)
    · rw [if_neg e]
      rcases d.town with h | h
      · exact .inl h
      · rcases h2 _ h with e2 | e2
        · exact absurd (by rw [← e2]) e
        · exact .inr e2
  · rw [hset] at hb
    by_cases e : p.2 = r.frm.toNat
    · exact absurd (List.mem_filter.2 ⟨hr, by simp [hu, e]⟩) hX
    · rw [if_neg e] at hb
      rw [hset]
      by_cases e3 : p.2 = r.to_.toNat
      · rw [if_pos e3]; exact .inl (by omega)
      · rw [if_neg e3]
        rcases d.next r hr hu b hb (by simp) t htt with h | h
        · exact .inl h
        · rcases h2 _ h with e2 | e2
          · exact absurd (by rw [← e2]) e3
          · exact .inr e2
/-- A road of the node that was found: nothing is pushed. -/
theorem Dij.pass {r : Rd} (d : Dij N P VS R town D Q (r :: X)) (h : 0 ≤ D.getD r.to_.toNat (-1) ∨ ∀ b : Nat, D.getD r.frm.toNat (-1) = b → ∀ t, ¬ IsLeave VS r b t) : Dij N P VS R town D Q X :=
  ⟨d.len, d.sound, d.inq, d.town, fun q hq hu b hb hX t ht => by
    by_cases e : q = r
    · subst e
      rcases h with h | h
      · exact .inl h
      · exact absurd ht (h b hb t)
    · exact d.next q hq hu b hb (by simp [e, hX]) t ht⟩
theorem Dij.push {r : Rd} {b t : Nat} {Q' : List (Nat × Nat)} (d : Dij N P VS R town D Q (r :: X)) (hr : r ∈ R) (hu : usableB N P r = true) (ht : town < N) (hb : D.getD r.frm.toNat (-1) = b) (htt : IsLeave VS r b t)
    (h1 : ∀ q ∈ Q', q = (t + r.hours.toNat, r.to_.toNat) ∨ q ∈ Q) (h2 : ∀ q ∈ Q, q ∈ Q') (h3 : (t + r.hours.toNat, r.to_.toNat) ∈ Q') : Dij N P VS R town D Q' X := by
  have hfr : r.frm.toNat < N := by have := usable_iff.1 hu; omega
  refine ⟨d.len, d.sound, fun q hq => ?_, d.town.imp id (h2 _), fun q hq hu' b' hb' hX t' ht' => ?_⟩
  · rcases h1 q hq with e | e
    · subst e
      rcases d.sound _ hfr with e | ⟨k, e, hk⟩
      · omega
      · obtain rfl : b = k := by omega
        exact .go hr hu hk.1 htt.1 htt.2.1
    · exact d.inq q e
  · by_cases e : q = r
    · subst e
      obtain rfl : b = b' := by omega
      obtain rfl := htt.uniq ht'
      exact .inr h3
    · exact (d.next q hq hu' b' hb' (by simp [e, hX]) t' ht').imp id (h2 _)
end
end RD
end Go.Proofs.Ytphebdmdbnpokaa

/- Plain words and laws of ways: the best shelter, the node before a node, the chain of them; journeys and walks that are travelled. -/
namespace Go.Proofs.Ytphebdmdbnpokaa
namespace RD
/-- The least number of a set, or -1. -/
def MinOf (S : Nat → Prop) (b : Int) : Prop := (b = -1 ∧ ∀ m, ¬ S m) ∨ ∃ m : Nat, b = m ∧ S m ∧ ∀ k, S k → m ≤ k
theorem MinOf.uniq {S : Nat → Prop} {a b : Int} (h : MinOf S a) (k : MinOf S b) : a = b := by
  rcases h with ⟨rfl, h⟩ | ⟨m, rfl, h1, h2⟩ <;> rcases k with ⟨rfl, k⟩ | ⟨n, rfl, k1, k2⟩
  · rfl
  · exact absurd k1 (h _)
  · exact absurd h1 (k _)
  · have := h2 _ k1; have := k2 _ h1; omega
theorem MinOf.congr {S T : Nat → Prop} {a : Int} (h : MinOf S a) (e : ∀ m, S m ↔ T m) : MinOf T a := by
  rcases h with ⟨rfl, h⟩ | ⟨m, rfl, h1, h2⟩
  · exact .inl ⟨rfl, fun m k => h m ((e m).2 k)⟩
  · exact .inr ⟨m, rfl, (e m).1 h1, fun k hk => h2 k ((e k).2 hk)⟩
theorem MinOf.none : MinOf (fun _ => False) (-1) := .inl ⟨rfl, fun _ => id⟩
theorem MinOf.more {S : Nat → Prop} {a : Int} (h : MinOf S a) (x : Nat) : MinOf (fun m => S m ∨ m = x) (if a < 0 ∨ (x : Int) < a then x else a) := by
  rcases h with ⟨rfl, h⟩ | ⟨m, rfl, h1, h2⟩
  · rw [if_pos (by omega)]
    exact .inr ⟨x, rfl, .inr rfl, fun k hk => by rcases hk with hk | hk; exact absurd hk (h k); omega⟩
  · by_cases e : x < m
    · rw [if_pos (by omega)]
      exact .inr ⟨x, rfl, .inr rfl, fun k hk => by rcases hk with hk | hk; have := h2 k hk; omega; omega⟩
    · rw [if_neg (by omega)]
      exact .inr ⟨m, rfl, .inl h1, fun k hk => by rcases hk with hk | hk; exact h2 k hk; omega⟩
noncomputable def minI (S : Nat → Prop) : Int := @dite _ (∃ m, S m) (Classical.propDecidable _) (fun h => ((Classical.choose (least_of (p := S) (Classical.choose_spec h)) : Nat) : Int)) (fun _ => -1)
theorem minI_is (S : Nat → Prop) : MinOf S (minI S) := by
  unfold minI
  by_cases h : ∃ m, S m
  · rw [dif_pos h]
    have := Classical.choose_spec (least_of (p := S) (Classical.choose_spec h))
    exact .inr ⟨_, rfl, this.1, this.2.2⟩
  · rw [dif_neg h]; exact .inl ⟨rfl, fun m k => h ⟨m, k⟩⟩
theorem MinOf.eq {S : Nat → Prop} {a : Int} (h : MinOf S a) : minI S = a := (minI_is S).uniq h
theorem minI_ge (S : Nat → Prop) : -1 ≤ minI S := by rcases minI_is S with ⟨e, _⟩ | ⟨m, e, _⟩ <;> omega
theorem minI_mem {S : Nat → Prop} (h : 0 ≤ minI S) : S (minI S).toNat := by
  rcases minI_is S with ⟨e, _⟩ | ⟨m, e, h1, _⟩
  · omega
  · rw [e]; exact h1
theorem minI_le {S : Nat → Prop} {m : Nat} (h : S m) : 0 ≤ minI S ∧ minI S ≤ m := by
  rcases minI_is S with ⟨e, k⟩ | ⟨n, e, _, k⟩
  · exact absurd h (k m)
  · have := k m h; omega
/-- The shelter with the least arrival among the nodes lo, .. of which k were looked at. -/
def best (A : Nat → Int) (lo : Nat) : Nat → Int
  | 0 => -1
  | k + 1 => if 0 ≤ A (lo + k) ∧ (best A lo k < 0 ∨ A (lo + k) < A (best A lo k).toNat) then ((lo + k : Nat) : Int) else best A lo k
theorem best_cases (A : Nat → Int) (lo : Nat) : ∀ k, (best A lo k = -1 ∧ ∀ n, lo ≤ n → n < lo + k → A n < 0) ∨ ∃ b : Nat, best A lo k = b ∧ lo ≤ b ∧ b < lo + k ∧ 0 ≤ A b ∧ ∀ n, lo ≤ n → n < lo + k → 0 ≤ A n → A b ≤ A n
  | 0 => .inl ⟨rfl, fun n h1 h2 => by omega⟩
  | k + 1 => by
    have ih := best_cases A lo k
    simp only [best]
    rcases ih with ⟨e, h⟩ | ⟨b, e, h1, h2, h3, h4⟩
    · rw [e]
      by_cases q : 0 ≤ A (lo + k)
      · rw [if_pos ⟨q, .inl (by omega)⟩]
        exact .inr ⟨_, rfl, by omega, by omega, q, fun n a1 a2 a3 => by
          by_cases e2 : n = lo + k
          · rw [e2]; exact Int.le_refl _
          · have := h n a1 (by omega); omega⟩
      · rw [if_neg (fun h => q h.1)]
        exact .inl ⟨rfl, fun n a1 a2 => by
          by_cases e2 : n = lo + k
          · rw [e2]; omega
          · exact h n a1 (by omega)⟩
    · rw [e, Int.toNat_natCast]
      by_cases q : 0 ≤ A (lo + k) ∧ A (lo + k) < A b
      · rw [if_pos ⟨q.1, .inr q.2⟩]
        exact .inr ⟨_, rfl, by omega, by omega, q.1, fun n a1 a2 a3 => by
          by_cases e2 : n = lo + k
          · rw [e2]; exact Int.le_refl _
          · have := h4 n a1 (by omega) a3; omega⟩
      · rw [if_neg (fun h => q ⟨h.1, h.2.resolve_left (by omega)⟩)]
        exact .inr ⟨b, rfl, h1, by omega, h3, fun n a1 a2 a3 => by
          by_cases e2 : n = lo + k
          · rw [e2] at a3 ⊢
            by_cases e3 : A (lo + k) < A b
            · exact absurd ⟨a3, e3⟩ q
            · omega
          · exact h4 n a1 (by omega) a3⟩
theorem best_congr {A B : Nat → Int} {lo : Nat} : ∀ {k}, (∀ n, n < lo + k → A n = B n) → best A lo k = best B lo k
  | 0, _ => rfl
  | k + 1, h => by
    have ih := best_congr (A := A) (B := B) (lo := lo) (k := k) fun n hn => h n (by omega)
    have c := best_cases B lo k
    simp only [best, ih]
    rw [h (lo + k) (by omega)]
    rcases c with ⟨e, _⟩ | ⟨b, e, h1, h2, _⟩
    · rw [e]; simp
    · rw [e, Int.toNat_natCast, h b (by omega)]
section
variable (N P : Nat) (VS : Vs) (A : Nat → Int)
/-- Whether a road is a last journey to its end. -/
def Leads (r : Rd) : Prop := usableB N P r = true ∧ ∃ a b t : Nat, A r.frm.toNat = a ∧ A r.to_.toNat = b ∧ IsLeave VS r a t ∧ t + r.hours.toNat = b
noncomputable def leadB (r : Rd) : Bool := @decide (Leads N P VS A r) (Classical.propDecidable _)
theorem leadB_iff {r : Rd} : leadB N P VS A r = true ↔ Leads N P VS A r := by
  unfold leadB
  exact @decide_eq_true_iff _ (Classical.propDecidable _)
/-- The node before a node. -/
noncomputable def bef (R : List Rd) (v : Nat) : Int := match R.find? (fun r => leadB N P VS A r && r.to_.toNat == v) with
  | some r => r.frm
  | none => -1
end
section
variable {N P : Nat} {VS : Vs} {A : Nat → Int}
theorem bef_nil (v : Nat) : bef N P VS A [] v = -1 := rfl
theorem bef_snoc {R : List Rd} {r : Rd} (hr : usableB N P r = true → 0 ≤ r.frm) (v : Nat) : bef N P VS A (R ++ [r]) v = if leadB N P VS A r = true ∧ r.to_.toNat = v ∧ bef N P VS A R v < 0 then r.frm else bef N P VS A R v := by
  unfold bef
  rw [List.find?_append]
  cases e : R.find? (fun r => leadB N P VS A r && r.to_.toNat == v) with
  | some q =>
    have hq := List.find?_some e
    simp only [Bool.and_eq_true] at hq
    have := usable_iff.1 ((leadB_iff N P VS A).1 hq.1).1
    simp only [Option.some_or]
    rw [if_neg (by omega)]
  | none =>
    by_cases h : leadB N P VS A r = true ∧ r.to_.toNat = v
    · simp [h.1, h.2]
    · rw [if_neg (fun k => h ⟨k.1, k.2.1⟩)]
      have : (leadB N P VS A r && r.to_.toNat == v) = false := by
        cases e1 : leadB N P VS A r
        · rfl
        · cases e2 : r.to_.toNat == v
          · rfl
          · exact absurd ⟨e1, by simpa using e2⟩ h
      simp [this]
theorem bef_cases (R : List Rd) (v : Nat) : (bef N P VS A R v = -1 ∧ ∀ r ∈ R, Leads N P VS A r → r.to_.toNat ≠ v) ∨ ∃ r ∈ R, Leads N P VS A r ∧ r.to_.toNat = v ∧ bef N P VS A R v = r.frm ∧ 0 ≤ r.frm := by
  unfold bef
  cases e : R.find? (fun r => leadB N P VS A r && r.to_.toNat == v) with
  | some q =>
    have hq := List.find?_some e
    simp only [Bool.and_eq_true, beq_iff_eq] at hq
    have hl := (leadB_iff N P VS A).1 hq.1
    exact .inr ⟨q, List.mem_of_find?_eq_some e, hl, hq.2, rfl, (usable_iff.1 hl.1).1⟩
  | none =>
    refine .inl ⟨rfl, fun r hr hl hv => ?_⟩
    have := List.find?_eq_none.1 e r hr
    rw [(leadB_iff N P VS A).2 hl, hv] at this
    simp at this
end
/-- The way from the town to a node, by the nodes before. -/
inductive Chain (B : Nat → Int) (town : Nat) : Nat → List Nat → Prop
  | stop : Chain B town town [town]
  | go {v : Nat} {l : List Nat} : v ≠ town → 0 ≤ B v → Chain B town (B v).toNat l → Chain B town v (l ++ [v])
theorem Chain.uniq {B : Nat → Int} {town v : Nat} {l m : List Nat} (h : Chain B town v l) (k : Chain B town v m) : l = m := by
  induction h generalizing m with
  | stop => cases k with
    | stop => rfl
    | go h1 _ _ => exact absurd rfl h1
  | go h1 h2 h3 ih => cases k with
    | stop => exact absurd rfl h1
    | go _ _ k3 => rw [ih k3]
theorem Chain.town {B : Nat → Int} {town : Nat} {l : List Nat} (h : Chain B town town l) : l = [town] := h.uniq .stop
theorem Chain.split {B : Nat → Int} {town v : Nat} {l : List Nat} (h : Chain B town v l) (hv : v ≠ town) : 0 ≤ B v ∧ ∃ m, Chain B town (B v).toNat m ∧ l = m ++ [v] := by
  cases h with
  | stop => exact absurd rfl hv
  | go h1 h2 h3 => exact ⟨h2, _, h3, rfl⟩
theorem Chain.pos {B : Nat → Int} {town v : Nat} {l : List Nat} (h : Chain B town v l) : 0 < l.length := by cases h <;> simp
section
variable {N P : Nat} {VS : Vs} {R : List Rd} {town : Nat}
theorem bef_of_arr {v h : Nat} (hv : v ≠ town) (a : IsArr N P VS R town v h) : ∃ r ∈ R, usableB N P r = true ∧ r.to_.toNat = v ∧ bef N P VS (arr N P VS R town) R v = r.frm ∧ 0 ≤ r.frm ∧ ∃ b t, IsArr N P VS R town r.frm.toNat b ∧ IsLeave VS r b t ∧ t + r.hours.toNat = h := by
  obtain ⟨r, hr, h1, h2, b, t, hb, ht, he⟩ := last_road hv a
  rcases bef_cases (N := N) (P := P) (VS := VS) (A := arr N P VS R town) R v with ⟨_, q⟩ | ⟨q, hq, ⟨l1, x, y, z, lx, ly, lz, le⟩, lv, lb, l0⟩
  · refine absurd h2 (q r hr ⟨h1, b, h, t, arr_is hb, ?_, ht, he⟩)
    rw [h2]; exact arr_is a
  · refine ⟨q, hq, l1, lv, lb, l0, x, z, ?_, lz, ?_⟩
    · have := arr_isarr (N := N) (P := P) (VS := VS) (R := R) (town := town) (v := q.frm.toNat) (by rw [lx]; omega)
      rw [lx] at this; exact this
    · rw [lv, arr_is a] at ly; omega
theorem chain_is {v h : Nat} (a : IsArr N P VS R town v h) : ∃ l, Chain (bef N P VS (arr N P VS R town) R) town v l := by
  induction h using Nat.strongRecOn generalizing v with
  | ind h ih =>
    by_cases hv : v = town
    · subst hv; exact ⟨_, .stop⟩
    · obtain ⟨r, hr, h1, h2, h3, h4, b, t, hb, ht, he⟩ := bef_of_arr hv a
      have hh := usable_iff.1 h1
      obtain ⟨l, hl⟩ := ih b (by have := ht.1; omega) hb
      exact ⟨_, .go hv (by rw [h3]; exact h4) (by rw [h3]; exact hl)⟩
/-- Where and when one can be by a single journey. -/
def Jour (N P : Nat) (VS : Vs) (R : List Rd) (u v : Int) (now m : Nat) : Prop := ∃ r ∈ R, usableB N P r = true ∧ r.frm = u ∧ r.to_ = v ∧ ∃ t, now ≤ t ∧ poss VS r t ∧ t + r.hours.toNat = m
noncomputable def jour (N P : Nat) (VS : Vs) (R : List Rd) (u v : Int) (now : Nat) : Int := minI (Jour N P VS R u v now)
theorem jour_at {u v : Int} {now : Nat} (h : At N P VS R town u.toNat now) (h0 : 0 ≤ jour N P VS R u v now) : 0 ≤ v ∧ At N P VS R town v.toNat (jour N P VS R u v now).toNat := by
  obtain ⟨r, hr, h1, rfl, rfl, t, h2, h3, h4⟩ := minI_mem h0
  have := usable_iff.1 h1
  refine ⟨by omega, ?_⟩
  unfold jour
  rw [← h4]
  exact .go hr h1 h h2 h3
theorem jour_bound {u v : Int} {now : Nat} : jour N P VS R u v now ≤ max now (VS.length - 1) + 24 := by
  rcases minI_is (Jour N P VS R u v now) with ⟨e, _⟩ | ⟨m, e, ⟨r, hr, h1, h2, h3, t, h4, h5, h6⟩, hm⟩
  · unfold jour; omega
  · unfold jour
    rw [e]
    obtain ⟨x, hx, hxt⟩ := leave_of h4 h5
    have hb := hx.bound
    have := usable_iff.1 h1
    have := hm _ ⟨r, hr, h1, h2, h3, x, hx.1, hx.2.1, rfl⟩
    omega
/-- The hour at which a walk's rest is done, or -1. -/
noncomputable def trav (N P : Nat) (VS : Vs) (R : List Rd) : Int → Nat → List Int → Int
  | _, now, [] => now
  | u, now, v :: l => if jour N P VS R u v now < 0 then -1 else trav N P VS R v (jour N P VS R u v now).toNat l
theorem trav_at : ∀ {l : List Int} {u : Int} {now : Nat}, At N P VS R town u.toNat now → 0 ≤ trav N P VS R u now l → At N P VS R town ((u :: l).getLast (by simp)).toNat (trav N P VS R u now l).toNat
  | [], u, now, h, h0 => by simpa [trav] using h
  | v :: l, u, now, h, h0 => by
    simp only [trav] at h0 ⊢
    by_cases q : jour N P VS R u v now < 0
    · rw [if_pos q] at h0; omega
    · rw [if_neg q] at h0 ⊢
      have := jour_at (v := v) h (by omega)
      rw [List.getLast_cons (by simp)]
      exact trav_at this.2 h0
theorem trav_snoc : ∀ {l : List Int} {u v : Int} {now : Nat}, 0 ≤ trav N P VS R u now l → trav N P VS R u now (l ++ [v]) = jour N P VS R ((u :: l).getLast (by simp)) v (trav N P VS R u now l).toNat ∨ trav N P VS R u now (l ++ [v]) = -1 ∧ jour N P VS R ((u :: l).getLast (by simp)) v (trav N P VS R u now l).toNat < 0
  | [], u, v, now, _ => by
    simp only [trav, List.nil_append, Int.toNat_natCast, List.getLast_singleton]
    by_cases q : jour N P VS R u v now < 0
    · rw [if_pos q]; exact .inr ⟨rfl, q⟩
    · rw [if_neg q]; exact .inl (by omega)
  | x :: l, u, v, now, h => by
    simp only [trav, List.cons_append] at h ⊢
    by_cases q : jour N P VS R u x now < 0
    · rw [if_pos q] at h; omega
    · rw [if_neg q] at h
      rw [if_neg q, if_neg q, List.getLast_cons (by simp)]
      exact trav_snoc h
/-- The way's nodes as integers. -/
def intsOf (l : List Nat) : List Int := l.map fun n : Nat => (n : Int)
/-- A chain is travelled, and ends at the arrival. -/
theorem chain_trav {v : Nat} {l : List Nat} (hc : Chain (bef N P VS (arr N P VS R town) R) town v l) : ∀ {h}, IsArr N P VS R town v h → ∃ m, intsOf l = (town : Int) :: m ∧ trav N P VS R town 0 m = h ∧ ((town : Int) :: m).getLast (by simp) = v := by
  induction hc with
  | stop =>
    intro h a
    have := a.uniq (by have := arr_isarr (N := N) (P := P) (VS := VS) (R := R) (town := town) (v := town) (by rw [arr_town]; omega); rw [arr_town] at this; exact this)
    exact ⟨[], rfl, by simp only [trav]; omega, rfl⟩
  | @go v l hv h0 hl ih =>
    intro h a
    obtain ⟨r, hr, h1, h2, h3, h4, b, t, hb, ht, he⟩ := bef_of_arr hv a
    rw [h3] at ih hl
    obtain ⟨m, e1, e2, e3⟩ := ih hb
    refine ⟨m ++ [(v : Int)], by unfold intsOf at e1 ⊢; rw [List.map_append, e1]; rfl, ?_, by rw [List.getLast_cons (by simp)]; exact List.getLast_concat⟩
    have hu := usable_iff.1 h1
    have hj : jour N P VS R ((r.frm.toNat : Nat) : Int) v b = h := by
      refine MinOf.eq (.inr ⟨h, rfl, ⟨r, hr, h1, by omega, by omega, t, ht.1, ht.2.1, he⟩, fun k hk => ?_⟩)
      obtain ⟨q, hq, q1, q2, q3, x, q4, q5, q6⟩ := hk
      refine a.2 k ?_
      have := At.go hq q1 (town := town) (a := b) (by rw [q2, Int.toNat_natCast]; exact hb.1) q4 q5
      rw [q3, q6] at this
      simpa using this
    have := trav_snoc (N := N) (P := P) (VS := VS) (R := R) (l := m) (u := town) (v := v) (now := 0) (by rw [e2]; omega)
    rw [e2, e3, Int.toNat_natCast, hj] at this
    rcases this with e | ⟨_, e⟩
    · exact e
    · omega
/-- The arrivals ascend along a chain. -/
theorem chain_asc {v : Nat} {l : List Nat} (hc : Chain (bef N P VS (arr N P VS R town) R) town v l) : ∀ {h}, IsArr N P VS R town v h → (∀ x ∈ l, x = v ∨ ∃ k, IsArr N P VS R town x k ∧ k < h) ∧ l.Nodup ∧ (∀ x ∈ l, ∃ k, IsArr N P VS R town x k) := by
  induction hc with
  | stop => intro h a; exact ⟨fun x hx => .inl (List.mem_singleton.1 hx), by simp, fun x hx => by rw [List.mem_singleton.1 hx]; exact ⟨h, a⟩⟩
  | @go v l hv h0 hl ih =>
    intro h a
    obtain ⟨r, hr, h1, h2, h3, h4, b, t, hb, ht, he⟩ := bef_of_arr hv a
    rw [h3] at ih hl
    obtain ⟨i1, i2, i3⟩ := ih hb
    have hu := usable_iff.1 h1
    have hbh : b < h := by have := ht.1; omega
    have hlt : ∀ x ∈ l, ∃ k, IsArr N P VS R town x k ∧ k < h := fun x hx => by
      rcases i1 x hx with e | ⟨k, hk, hlt⟩
      · rw [e]; exact ⟨b, hb, hbh⟩
      · exact ⟨k, hk, by omega⟩
    refine ⟨fun x hx => ?_, ?_, fun x hx => ?_⟩
    · rcases List.mem_append.1 hx with hx | hx
      · exact .inr (hlt x hx)
      · exact .inl (List.mem_singleton.1 hx)
    · rw [List.nodup_append]
      refine ⟨i2, by simp, fun x hx y hy e => ?_⟩
      obtain rfl := List.mem_singleton.1 hy
      obtain ⟨k, hk, hlt⟩ := hlt x hx
      rw [e] at hk
      have := hk.uniq a; omega
    · rcases List.mem_append.1 hx with hx | hx
      · exact i3 x hx
      · rw [List.mem_singleton.1 hx]; exact ⟨h, a⟩
theorem nodup_len {n : Nat} : ∀ {l : List Nat}, l.Nodup → (∀ x ∈ l, x < n) → l.length ≤ n := by
  induction n with
  | zero => intro l _ h2; cases l with
    | nil => simp
    | cons x l => exact absurd (h2 x (by simp)) (by omega)
  | succ n ih =>
    intro l h1 h2
    have := ih (l := l.filter (· ≠ n)) (h1.filter _) (fun x hx => by
      obtain ⟨a, b⟩ := List.mem_filter.1 hx
      have := h2 x a
      have : x ≠ n := by simpa using b
      omega)
    have h3 : l.length ≤ (l.filter (· ≠ n)).length + 1 := by
      clear this h2 ih
      induction l with
      | nil => simp
      | cons x l ih =>
        rw [List.nodup_cons] at h1
        by_cases e : x = n
        · have : l.filter (· ≠ n) = l := List.filter_eq_self.2 fun y hy => by
            have : y ≠ n := fun q => h1.1 (by rw [e, ← q]; exact hy)
            simpa using this
          rw [List.filter_cons_of_neg (by simp [e]), this]; simp
        · rw [List.filter_cons_of_pos (by simp [e])]
          have := ih h1.2
          rw [List.length_cons, List.length_cons]; omega
    have h4 : (l.filter (fun x => decide (x ≠ n))).length ≤ n := this
    omega
theorem chain_len (ht : town < N) {v h : Nat} {l : List Nat} (hc : Chain (bef N P VS (arr N P VS R town) R) town v l) (a : IsArr N P VS R town v h) : l.length ≤ N := by
  obtain ⟨_, h2, h3⟩ := chain_asc hc a
  exact nodup_len h2 fun x hx => by obtain ⟨k, hk⟩ := h3 x hx; exact at_lt ht hk.1
end
section
variable {N P : Nat} {VS : Vs} {R : List Rd} {town : Nat}
theorem chain_bound {v : Nat} {l : List Nat} (hc : Chain (bef N P VS (arr N P VS R town) R) town v l) : ∀ {h}, IsArr N P VS R town v h → h ≤ VS.length + 24 * l.length := by
  induction hc with
  | stop =>
    intro h a
    have := a.uniq (by have := arr_isarr (N := N) (P := P) (VS := VS) (R := R) (town := town) (v := town) (by rw [arr_town]; omega); rw [arr_town] at this; exact this)
    simp at this; omega
  | @go v l hv h0 hl ih =>
    intro h a
    obtain ⟨r, hr, h1, h2, h3, h4, b, t, hb, ht, he⟩ := bef_of_arr hv a
    rw [h3] at ih
    have i := ih hb
    have hu := usable_iff.1 h1
    have := ht.bound
    simp; omega
theorem arr_bound (ht : town < N) (v : Nat) : arr N P VS R town v ≤ VS.length + 24 * N := by
  rcases arr_cases N P VS R town v with ⟨h, e, a⟩ | ⟨e, _⟩
  · obtain ⟨l, hl⟩ := chain_is a
    have := chain_bound hl a
    have := chain_len ht hl a
    rw [e]; omega
  · rw [e]; omega
/-- What Ways answers: the way and whether there is one. -/
def WayR (N P nT : Nat) (VS : Vs) (R : List Rd) (town : Int) (l : List Nat) (ok : Bool) : Prop :=
  (ok = false ∧ l = [] ∧ (town < 0 ∨ (nT : Int) ≤ town ∨ best (arr N P VS R town.toNat) nT (N - nT) = -1)) ∨
    (ok = true ∧ 0 ≤ town ∧ town < nT ∧ ∃ b : Nat, best (arr N P VS R town.toNat) nT (N - nT) = b ∧ Chain (bef N P VS (arr N P VS R town.toNat) R) town.toNat b l)
theorem WayR.uniq {nT : Nat} {tn : Int} {l m : List Nat} {a b : Bool} (h : WayR N P nT VS R tn l a) (k : WayR N P nT VS R tn m b) : l = m ∧ a = b := by
  rcases h with ⟨rfl, rfl, h⟩ | ⟨rfl, h1, h2, x, h3, h4⟩ <;> rcases k with ⟨rfl, rfl, k⟩ | ⟨rfl, k1, k2, y, k3, k4⟩
  · exact ⟨rfl, rfl⟩
  · rcases h with h | h | h
    · omega
    · omega
    · rw [h] at k3; omega
  · rcases k with k | k | k
    · omega
    · omega
    · rw [k] at h3; omega
  · rw [h3] at k3
    obtain rfl : x = y := by omega
    exact ⟨h4.uniq k4, rfl⟩
end
/-- Lower volumes never shut a road. -/
def Lower (lo hi : Vs) : Prop := lo.length = hi.length ∧ ∀ t, t < lo.length → (lo.getD t []).length = (hi.getD t []).length ∧ ∀ p, (lo.getD t []).getD p 0 ≤ (hi.getD t []).getD p 0
theorem passB_mono {r : Rd} {V W : List Int} (h : ∀ p, V.getD p 0 ≤ W.getD p 0) (k : passB r W = true) : passB r V = true := by
  unfold passB at *
  simp only [Bool.or_eq_true, decide_eq_true_eq] at *
  rcases k with k | k
  · exact .inl k
  · exact .inr (Int.le_trans (h _) k)
theorem Lower.vols {lo hi : Vs} (h : Lower lo hi) (t p : Nat) : (volsAt lo t).getD p 0 ≤ (volsAt hi t).getD p 0 := by
  unfold volsAt
  rw [← h.1]
  by_cases e : min t (lo.length - 1) < lo.length
  · exact (h.2 _ e).2 p
  · have out : ∀ (l : Vs) (i : Nat), l.length ≤ i → l.getD i [] = [] := fun l i hi => by rw [List.getD_eq_getElem?_getD, List.getElem?_eq_none hi]; rfl
    rw [out lo _ (by omega), out hi _ (by have := h.1; omega)]
    exact Int.le_refl _
theorem Lower.poss {lo hi : Vs} (h : Lower lo hi) {r : Rd} {t : Nat} (k : poss hi r t) : poss lo r t := fun i hi' => passB_mono (h.vols _) (k i hi')
theorem Lower.at_ {lo hi : Vs} (h : Lower lo hi) {N P : Nat} {R : List Rd} {town v x : Nat} (a : At N P hi R town v x) : At N P lo R town v x := by
  induction a with
  | start => exact .start
  | go h1 h2 _ h4 h5 ih => exact .go h1 h2 ih h4 (h.poss h5)
end RD
end Go.Proofs.Ytphebdmdbnpokaa

