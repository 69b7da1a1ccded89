/- Plain laws of flows and cuts: the value of a flow is at most the capacity of a cut; a flow beside which the sink is not reached is a maximum one, and what is reached is the least minimum cut. -/
set_option linter.unusedSimpArgs false
set_option linter.unusedVariables false
namespace Go.Proofs.Ytphebdmdbnpokaa.FM

/-- An arc: from, to, capacity. -/
abbrev Arc := Int × Int × Int
def ind (b : Bool) (x : Int) : Int := if b then x else 0
/-- What leaves a node less what comes to it. -/
def exc : List Arc → List Int → Int → Int
  | a :: A, x :: f, v => ind (a.1 == v) x - ind (a.2.1 == v) x + exc A f v
  | _, _, _ => 0
/-- What crosses from a set of nodes to its complement, less what crosses back. -/
def cross : List Arc → List Int → (Int → Bool) → Int
  | a :: A, x :: f, S => ind (S a.1 && !S a.2.1) x - ind (!S a.1 && S a.2.1) x + cross A f S
  | _, _, _ => 0
def cut : List Arc → (Int → Bool) → Int
  | a :: A, S => ind (S a.1 && !S a.2.1) a.2.2 + cut A S
  | [], _ => 0
def feas : List Arc → List Int → Prop
  | a :: A, x :: f => 0 ≤ x ∧ x ≤ a.2.2 ∧ feas A f
  | [], [] => True
  | _, _ => False
def inN (n : Nat) (A : List Arc) : Prop := ∀ a ∈ A, 0 ≤ a.1 ∧ a.1 < n ∧ 0 ≤ a.2.1 ∧ a.2.1 < n
def keeps (A : List Arc) (f : List Int) (s t : Int) : Prop := ∀ v, v ≠ s → v ≠ t → exc A f v = 0
/-- The sum over the nodes below n that are in S. -/
def sumN : Nat → (Int → Bool) → (Int → Int) → Int
  | 0, _, _ => 0
  | n + 1, S, g => sumN n S g + ind (S n) (g n)

theorem ind_nonneg {b : Bool} {x : Int} (h : 0 ≤ x) : 0 ≤ ind b x := by unfold ind; split <;> omega
theorem ind_true (x : Int) : ind true x = x := rfl
theorem ind_false (x : Int) : ind false x = 0 := rfl
theorem sumN_add (n : Nat) (S : Int → Bool) (g h : Int → Int) : sumN n S (fun v => g v + h v) = sumN n S g + sumN n S h := by
  induction n with
  | zero => rfl
  | succ n ih => simp only [sumN, ih]; cases S n <;> simp [ind] <;> omega
theorem sumN_zero (n : Nat) (S : Int → Bool) : sumN n S (fun _ => 0) = 0 := by
  induction n with
  | zero => rfl
  | succ n ih => simp only [sumN, ih]; cases S n <;> simp [ind]
theorem sumN_one (n : Nat) (S : Int → Bool) (u x : Int) (h0 : 0 ≤ u) : sumN n S (fun v => ind (u == v) x) = if u < n then ind (S u) x else 0 := by
  induction n with
  | zero => rw [if_neg (by omega)]; rfl
  | succ n ih =>
    simp only [sumN, ih]
    by_cases h : u < (n : Int)
    · rw [if_pos h, if_pos (by omega)]
      have : (u == (n : Int)) = false := by rw [beq_eq_false_iff_ne]; omega
      rw [this]; cases S n <;> simp [ind]
    · by_cases h2 : u = (n : Int)
      · subst h2
        rw [if_neg h, if_pos (by omega)]
        simp [ind]
      · rw [if_neg h, if_neg (by omega)]
        have : (u == (n : Int)) = false := by rw [beq_eq_false_iff_ne]; exact h2
        rw [this]; cases S n <;> simp [ind]
theorem sumN_neg (n : Nat) (S : Int → Bool) (g : Int → Int) : sumN n S (fun v => - g v) = - sumN n S g := by
  induction n with
  | zero => rfl
  | succ n ih => simp only [sumN, ih]; cases S n <;> simp [ind] <;> omega
theorem sumN_congr (n : Nat) (S : Int → Bool) (g h : Int → Int) (e : ∀ v, g v = h v) : sumN n S g = sumN n S h := by
  rw [show g = h from funext e]
theorem sum_exc (n : Nat) (S : Int → Bool) : ∀ (A : List Arc) (f : List Int), inN n A → sumN n S (exc A f) = cross A f S
  | [], f, _ => by simp only [cross]; rw [← sumN_zero n S]; exact sumN_congr _ _ _ _ fun v => by simp [exc]
  | a :: A, [], _ => by simp only [cross]; rw [← sumN_zero n S]; exact sumN_congr _ _ _ _ fun v => by simp [exc]
  | a :: A, x :: f, h => by
    obtain ⟨h1, h2, h3, h4⟩ := h a List.mem_cons_self
    have ih := sum_exc n S A f (fun b hb => h b (List.mem_cons_of_mem _ hb))
    have e : ∀ v, exc (a :: A) (x :: f) v = (ind (a.1 == v) x + -(ind (a.2.1 == v) x)) + exc A f v := fun v => by simp only [exc]; omega
    rw [sumN_congr n S _ _ e, sumN_add n S (fun v => ind (a.1 == v) x + -(ind (a.2.1 == v) x)), sumN_add n S (fun v => ind (a.1 == v) x), sumN_neg n S (fun v => ind (a.2.1 == v) x), sumN_one n S _ _ h1, sumN_one n S _ _ h3, if_pos h2, if_pos h4, ih]
    simp only [cross]
    cases S a.1 <;> cases S a.2.1 <;> simp [ind] <;> omega

theorem sumN_single (n : Nat) (S : Int → Bool) (g : Int → Int) (s : Int) (h0 : 0 ≤ s) (h1 : s < n) (hS : S s = true) (hz : ∀ v, S v = true → v ≠ s → g v = 0) : sumN n S g = g s := by
  induction n with
  | zero => omega
  | succ n ih =>
    simp only [sumN]
    by_cases h : s < (n : Int)
    · rw [ih h]
      cases hn : S n with
      | false => simp [ind]
      | true => rw [hz n hn (by omega)]; simp [ind]
    · obtain rfl : s = (n : Int) := by omega
      have : sumN n S g = 0 := by
        clear ih h1
        have key : ∀ k : Nat, (k : Int) ≤ n → sumN k S g = 0 := by
          intro k
          induction k with
          | zero => intro _; rfl
          | succ k ih =>
            intro hk
            simp only [sumN]
            rw [ih (by omega)]
            cases hk' : S k with
            | false => simp [ind]
            | true => rw [hz k hk' (by omega)]; simp [ind]
        exact key n (by omega)
      rw [this, hS]; simp [ind]

/-- What leaves the source crosses each cut. -/
theorem value_cross {n : Nat} {A : List Arc} {f : List Int} {s t : Int} {S : Int → Bool} (hA : inN n A) (hs0 : 0 ≤ s) (hs1 : s < n) (hk : keeps A f s t) (hs : S s = true) (ht : S t = false) : exc A f s = cross A f S := by
  rw [← sum_exc n S A f hA]
  exact (sumN_single n S _ s hs0 hs1 hs fun v hv hne => hk v hne (fun e => by rw [e, ht] at hv; cases hv)).symm
theorem cross_le_cut {S : Int → Bool} : ∀ {A : List Arc} {f : List Int}, feas A f → cross A f S ≤ cut A S
  | [], [], _ => by simp [cross, cut]
  | a :: A, x :: f, h => by
    obtain ⟨h0, h1, h2⟩ := h
    have ih := cross_le_cut (S := S) h2
    simp only [cross, cut]
    cases S a.1 <;> cases S a.2.1 <;> simp [ind] <;> omega
/-- A set that nothing leads out of beside the flow. -/
def closed : List Arc → List Int → (Int → Bool) → Prop
  | a :: A, x :: f, S => (S a.1 = true → x < a.2.2 → S a.2.1 = true) ∧ (S a.2.1 = true → 0 < x → S a.1 = true) ∧ closed A f S
  | _, _, _ => True
theorem closed_cut {S : Int → Bool} : ∀ {A : List Arc} {f : List Int}, feas A f → closed A f S → cross A f S = cut A S
  | [], [], _, _ => by simp [cross, cut]
  | a :: A, x :: f, h, c => by
    obtain ⟨h0, h1, h2⟩ := h
    obtain ⟨c1, c2, c3⟩ := c
    have ih := closed_cut (S := S) h2 c3
    simp only [cross, cut]
    cases e1 : S a.1 <;> cases e2 : S a.2.1 <;> simp_all [ind] <;> omega
theorem cut_closed {S : Int → Bool} : ∀ {A : List Arc} {f : List Int}, feas A f → cross A f S = cut A S → closed A f S
  | [], [], _, _ => trivial
  | a :: A, x :: f, h, c => by
    obtain ⟨h0, h1, h2⟩ := h
    have le := cross_le_cut (S := S) h2
    simp only [cross, cut] at c
    refine ⟨fun e1 e2 => ?_, fun e1 e2 => ?_, cut_closed h2 ?_⟩
    · cases e3 : S a.2.1 with
      | true => rfl
      | false => exfalso; rw [e1, e3] at c; simp [ind] at c; omega
    · cases e3 : S a.1 with
      | true => rfl
      | false => exfalso; rw [e1, e3] at c; simp [ind] at c; omega
    · cases e1 : S a.1 <;> cases e2 : S a.2.1 <;> rw [e1, e2] at c <;> simp [ind] at c <;> omega

/-- A maximum flow f, its value v, and the set R that is reached beside it: the least closed one that holds s. -/
structure MaxOf (n : Nat) (A : List Arc) (s t : Int) (f : List Int) (v : Int) (R : Int → Bool) : Prop where
  feas : feas A f
  keeps : keeps A f s t
  value : exc A f s = v
  src : R s = true
  snk : R t = false
  closed : closed A f R
  least : ∀ S : Int → Bool, S s = true → FM.closed A f S → ∀ u, R u = true → S u = true
theorem MaxOf.cut {n : Nat} {A : List Arc} {s t : Int} {f : List Int} {v : Int} {R : Int → Bool} (hA : inN n A) (hs0 : 0 ≤ s) (hs1 : s < n) (h : MaxOf n A s t f v R) : cut A R = v := by
  rw [← closed_cut h.feas h.closed, ← value_cross hA hs0 hs1 h.keeps h.src h.snk, h.value]
theorem MaxOf.le_cut {n : Nat} {A : List Arc} {s t : Int} {f : List Int} {v : Int} {R : Int → Bool} (hA : inN n A) (hs0 : 0 ≤ s) (hs1 : s < n) (h : MaxOf n A s t f v R) {S : Int → Bool} (hs : S s = true) (ht : S t = false) : v ≤ FM.cut A S := by
  rw [← h.value, value_cross hA hs0 hs1 h.keeps hs ht]; exact cross_le_cut h.feas
theorem MaxOf.nearest {n : Nat} {A : List Arc} {s t : Int} {f : List Int} {v : Int} {R : Int → Bool} (hA : inN n A) (hs0 : 0 ≤ s) (hs1 : s < n) (h : MaxOf n A s t f v R) {S : Int → Bool} (hs : S s = true) (ht : S t = false) (e : FM.cut A S = v) : ∀ u, R u = true → S u = true :=
  h.least S hs (cut_closed h.feas (by rw [← value_cross hA hs0 hs1 h.keeps hs ht, h.value, e]))
theorem MaxOf.flow_le {n : Nat} {A : List Arc} {s t : Int} {f : List Int} {v : Int} {R : Int → Bool} (hA : inN n A) (hs0 : 0 ≤ s) (hs1 : s < n) (h : MaxOf n A s t f v R) {g : List Int} (hg : FM.feas A g) (kg : FM.keeps A g s t) : exc A g s ≤ v := by
  rw [← h.cut hA hs0 hs1, value_cross hA hs0 hs1 kg h.src h.snk]; exact cross_le_cut hg
theorem MaxOf.same {n : Nat} {A : List Arc} {s t : Int} {f g : List Int} {v u : Int} {R Q : Int → Bool} (hA : inN n A) (hs0 : 0 ≤ s) (hs1 : s < n) (h : MaxOf n A s t f v R) (k : MaxOf n A s t g u Q) : v = u ∧ R = Q := by
  have e : v = u := by
    have a := h.flow_le hA hs0 hs1 k.feas k.keeps
    have b := k.flow_le hA hs0 hs1 h.feas h.keeps
    rw [k.value] at a; rw [h.value] at b; omega
  subst e
  refine ⟨rfl, funext fun w => ?_⟩
  have a := h.nearest hA hs0 hs1 k.src k.snk (k.cut hA hs0 hs1) w
  have b := k.nearest hA hs0 hs1 h.src h.snk (h.cut hA hs0 hs1) w
  cases e1 : R w <;> cases e2 : Q w <;> simp_all
end Go.Proofs.Ytphebdmdbnpokaa.FM
