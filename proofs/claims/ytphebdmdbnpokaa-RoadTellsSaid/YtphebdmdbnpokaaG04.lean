/- Joined of: FMath FMath2 FMath3 FMath4 FMath5. -/

/- Plain laws of flows and cuts: the value of a flow is at most the capacity of a cut; a flow beside which the sink is not reached is a maximum one, and what is reached is the least minimum cut. -/
set_option linter.unusedSimpArgs false
set_option linter.unusedVariables false
namespace Go.Proofs.Ytphebdmdbnpokaa.FM

/-- An arc: from, to, capacity. -/
abbrev Arc := Int × Int × Int
def ind (b : Bool) (x : Int) : Int := if b then x else 0
/-- What leaves a node less what comes to it. -/
def exc : List Arc → List Int → Int → Int
  | a :: A, x :: f, v => ind (a.1 == v) x - ind (a.2.1 == v) x + exc A f v
  | _, _, _ => 0
/-- What crosses from a set of nodes to its complement, less what crosses back. -/
def cross : List Arc → List Int → (Int → Bool) → Int
  | a :: A, x :: f, S => ind (S a.1 && !S a.2.1) x - ind (!S a.1 && S a.2.1) x + cross A f S
  | _, _, _ => 0
def cut : List Arc → (Int → Bool) → Int
  | a :: A, S => ind (S a.1 && !S a.2.1) a.2.2 + cut A S
  | [], _ => 0
def feas : List Arc → List Int → Prop
  | a :: A, x :: f => 0 ≤ x ∧ x ≤ a.2.2 ∧ feas A f
  | [], [] => True
  | _, _ => False
def inN (n : Nat) (A : List Arc) : Prop := ∀ a ∈ A, 0 ≤ a.1 ∧ a.1 < n ∧ 0 ≤ a.2.1 ∧ a.2.1 < n
def keeps (A : List Arc) (f : List Int) (s t : Int) : Prop := ∀ v, v ≠ s → v ≠ t → exc A f v = 0
/-- The sum over the nodes below n that are in S. -/
def sumN : Nat → (Int → Bool) → (Int → Int) → Int
  | 0, _, _ => 0
  | n + 1, S, g => sumN n S g + ind (S n) (g n)

theorem ind_nonneg {b : Bool} {x : Int} (h : 0 ≤ x) : 0 ≤ ind b x := by unfold ind; split <;> omega
theorem ind_true (x : Int) : ind true x = x := rfl
theorem ind_false (x : Int) : ind false x = 0 := rfl
theorem sumN_add (n : Nat) (S : Int → Bool) (g h : Int → Int) : sumN n S (fun v => g v + h v) = sumN n S g + sumN n S h := by
  induction n with
  | zero => rfl
  | succ n ih => simp only [sumN, ih]; cases S n <;> simp [ind] <;> omega
theorem sumN_zero (n : Nat) (S : Int → Bool) : sumN n S (fun _ => 0) = 0 := by
  induction n with
  | zero => rfl
  | succ n ih => simp only [sumN, ih]; cases S n <;> simp [ind]
theorem sumN_one (n : Nat) (S : Int → Bool) (u x : Int) (h0 : 0 ≤ u) : sumN n S (fun v => ind (u == v) x) = if u < n then ind (S u) x else 0 := by
  induction n with
  | zero => rw [if_neg (by omega)]; rfl
  | succ n ih =>
    simp only [sumN, ih]
    by_cases h : u < (n : Int)
    · rw [if_pos h, if_pos (by omega)]
      have : (u == (n : Int)) = false := by rw [beq_eq_false_iff_ne]; omega
      rw [this]; cases S n <;> simp [ind]
    · by_cases h2 : u = (n : Int)
      · subst h2
        rw [if_neg h, if_pos (by omega)]
        simp [ind]
      · rw [if_neg h, if_neg (by omega)]
        have : (u == (n : Int)) = false := by rw [beq_eq_false_iff_ne]; exact h2
        rw [this]; cases S n <;> simp [ind]
theorem sumN_neg (n : Nat) (S : Int → Bool) (g : Int → Int) : sumN n S (fun v => - g v) = - sumN n S g := by
  induction n with
  | zero => rfl
  | succ n ih => simp only [sumN, ih]; cases S n <;> simp [ind] <;> omega
theorem sumN_congr (n : Nat) (S : Int → Bool) (g h : Int → Int) (e : ∀ v, g v = h v) : sumN n S g = sumN n S h := by
  rw [show g = h from funext e]
theorem sum_exc (n : Nat) (S : Int → Bool) : ∀ (A : List Arc) (f : List Int), inN n A → sumN n S (exc A f) = cross A f S
  | [], f, _ => by simp only [cross]; rw [← sumN_zero n S]; exact sumN_congr _ _ _ _ fun v => by simp [exc]
  | a :: A, [], _ => by simp only [cross]; rw [← sumN_zero n S]; exact sumN_congr _ _ _ _ fun v => by simp [exc]
  | a :: A, x :: f, h => by
    obtain ⟨h1, h2, h3, h4⟩ := h a List.mem_cons_self
    have ih := sum_exc n S A f (fun b hb => h b (List.mem_cons_of_mem _ hb))
    have e : ∀ v, exc (a :: A) (x :: f) v = (ind (a.1 == v) x + -(ind (a.2.1 == v) x)) + exc A f v := fun v => by simp only [exc]; omega
    rw [sumN_congr n S _ _ e, sumN_add n S (fun v => ind (a.1 == v) x + -(ind (a.2.1 == v) x)), sumN_add n S (fun v => ind (a.1 == v) x), sumN_neg n S (fun v => ind (a.2.1 == v) x), sumN_one n S _ _ h1, sumN_one n S _ _ h3, if_pos h2, if_pos h4, ih]
    simp only [cross]
    cases S a.1 <;> cases S a.2.1 <;> simp [ind] <;> omega

theorem sumN_single (n : Nat) (S : Int → Bool) (g : Int → Int) (s : Int) (h0 : 0 ≤ s) (h1 : s < n) (hS : S s = true) (hz : ∀ v, S v = true → v ≠ s → g v = 0) : sumN n S g = g s := by
  induction n with
  | zero => omega
  | succ n ih =>
    simp only [sumN]
    by_cases h : s < (n : Int)
    · rw [ih h]
      cases hn : S n with
      | false => simp [ind]
      | true => rw [hz n hn (by omega)]; simp [ind]
    · obtain rfl : s = (n : Int) := by omega
      have : sumN n S g = 0 := by
        clear ih h1
        have key : ∀ k : Nat, (k : Int) ≤ n → sumN k S g = 0 := by
          intro k
          induction k with
          | zero => intro _; rfl
          | succ k ih =>
            intro hk
            simp only [sumN]
            rw [ih (by omega)]
            cases hk' : S k with
            | false => simp [ind]
            | true => rw [hz k hk' (by omega)]; simp [ind]
        exact key n (by omega)
      rw [this, hS]; simp [ind]

/-- What leaves the source crosses each cut. -/
theorem value_cross {n : Nat} {A : List Arc} {f : List Int} {s t : Int} {S : Int → Bool} (hA : inN n A) (hs0 : 0 ≤ s) (hs1 : s < n) (hk : keeps A f s t) (hs : S s = true) (ht : S t = false) : exc A f s = cross A f S := by
  rw [← sum_exc n S A f hA]
  exact (sumN_single n S _ s hs0 hs1 hs fun v hv hne => hk v hne (fun e => by rw [e, ht] at hv; cases hv)).symm
theorem cross_le_cut {S : Int → Bool} : ∀ {A : List Arc} {f : List Int}, feas A f → cross A f S ≤ cut A S
  | [], [], _ => by simp [cross, cut]
  | a :: A, x :: f, h => by
    obtain ⟨h0, h1, h2⟩ := h
    have ih := cross_le_cut (S := S) h2
    simp only [cross, cut]
    cases S a.1 <;> cases S a.2.1 <;> simp [ind] <;> omega
/-- A set that nothing leads out of beside the flow. -/
def closed : List Arc → List Int → (Int → Bool) → Prop
  | a :: A, x :: f, S => (S a.1 = true → x < a.2.2 → S a.2.1 = true) ∧ (S a.2.1 = true → 0 < x → S a.1 = true) ∧ closed A f S
  | _, _, _ => True
theorem closed_cut {S : Int → Bool} : ∀ {A : List Arc} {f : List Int}, feas A f → closed A f S → cross A f S = cut A S
  | [], [], _, _ => by simp [cross, cut]
  | a :: A, x :: f, h, c => by
    obtain ⟨h0, h1, h2⟩ := h
    obtain ⟨c1, c2, c3⟩ := c
    have ih := closed_cut (S := S) h2 c3
    simp only [cross, cut]
    cases e1 : S a.1 <;> cases e2 : S a.2.1 <;> simp_all [ind] <;> omega
theorem cut_closed {S : Int → Bool} : ∀ {A : List Arc} {f : List Int}, feas A f → cross A f S = cut A S → closed A f S
  | [], [], _, _ => trivial
  | a :: A, x :: f, h, c => by
    obtain ⟨h0, h1, h2⟩ := h
    have le := cross_le_cut (S := S) h2
    simp only [cross, cut] at c
    refine ⟨fun e1 e2 => ?_, fun e1 e2 => ?_, cut_closed h2 ?_⟩
    · cases e3 : S a.2.1 with
      | true => rfl
      | false => exfalso; rw [e1, e3] at c; simp [ind] at c; omega
    · cases e3 : S a.1 with
      | true => rfl
      | false => exfalso; rw [e1, e3] at c; simp [ind] at c; omega
    · cases e1 : S a.1 <;> cases e2 : S a.2.1 <;> rw [e1, e2] at c <;> simp [ind] at c <;> omega

/-- A maximum flow f, its value v, and the set R that is reached beside it: the least closed one that holds s. -/
structure MaxOf (n : Nat) (A : List Arc) (s t : Int) (f : List Int) (v : Int) (R : Int → Bool) : Prop where
  feas : feas A f
  keeps : keeps A f s t
  value : exc A f s = v
  src : R s = true
  snk : R t = false
  closed : closed A f R
  least : ∀ S : Int → Bool, S s = true → FM.closed A f S → ∀ u, R u = true → S u = true
theorem MaxOf.cut {n : Nat} {A : List Arc} {s t : Int} {f : List Int} {v : Int} {R : Int → Bool} (hA : inN n A) (hs0 : 0 ≤ s) (hs1 : s < n) (h : MaxOf n A s t f v R) : cut A R = v := by
  rw [← closed_cut h.feas h.closed, ← value_cross hA hs0 hs1 h.keeps h.src h.snk, h.value]
theorem MaxOf.le_cut {n : Nat} {A : List Arc} {s t : Int} {f : List Int} {v : Int} {R : Int → Bool} (hA : inN n A) (hs0 : 0 ≤ s) (hs1 : s < n) (h : MaxOf n A s t f v R) {S : Int → Bool} (hs : S s = true) (ht : S t = false) : v ≤ FM.cut A S := by
  rw [← h.value, value_cross hA hs0 hs1 h.keeps hs ht]; exact cross_le_cut h.feas
theorem MaxOf.nearest {n : Nat} {A : List Arc} {s t : Int} {f : List Int} {v : Int} {R : Int → Bool} (hA : inN n A) (hs0 : 0 ≤ s) (hs1 : s < n) (h : MaxOf n A s t f v R) {S : Int → Bool} (hs : S s = true) (ht : S t = false) (e : FM.cut A S = v) : ∀ u, R u = true → S u = true :=
  h.least S hs (cut_closed h.feas (by rw [← value_cross hA hs0 hs1 h.keeps hs ht, h.value, e]))
theorem MaxOf.flow_le {n : Nat} {A : List Arc} {s t : Int} {f : List Int} {v : Int} {R : Int → Bool} (hA : inN n A) (hs0 : 0 ≤ s) (hs1 : s < n) (h : MaxOf n A s t f v R) {g : List Int} (hg : FM.feas A g) (kg : FM.keeps A g s t) : exc A g s ≤ v := by
  rw [← h.cut hA hs0 hs1, value_cross hA hs0 hs1 kg h.src h.snk]; exact cross_le_cut hg
theorem MaxOf.same {n : Nat} {A : List Arc} {s t : Int} {f g : List Int} {v u : Int} {R Q : Int → Bool} (hA : inN n A) (hs0 : 0 ≤ s) (hs1 : s < n) (h : MaxOf n A s t f v R) (k : MaxOf n A s t g u Q) : v = u ∧ R = Q := by
  have e : v = u := by
    have a := h.flow_le hA hs0 hs1 k.feas k.keeps
    have b := k.flow_le hA hs0 hs1 h.feas h.keeps
    rw [k.value] at a; rw [h.value] at b; omega
  subst e
  refine ⟨rfl, funext fun w => ?_⟩
  have a := h.nearest hA hs0 hs1 k.src k.snk (k.cut hA hs0 hs1) w
  have b := k.nearest hA hs0 hs1 h.src h.snk (h.cut hA hs0 hs1) w
  cases e1 : R w <;> cases e2 : Q w <;> simp_all
end Go.Proofs.Ytphebdmdbnpokaa.FM

/- Plain laws of changed networks: an arc with a greater capacity, the reversed network, an arc in two parts; and of what the check of a flow and a side gives. -/
namespace Go.Proofs.Ytphebdmdbnpokaa.FM

theorem feas_len : ∀ {A : List Arc} {f : List Int}, feas A f → f.length = A.length
  | [], [], _ => rfl
  | _ :: _, _ :: _, h => by simp [feas_len h.2.2]
theorem feas_app : ∀ {A B : List Arc} {f g : List Int}, feas A f → feas B g → feas (A ++ B) (f ++ g)
  | [], _, [], _, _, h => h
  | _ :: _, _, _ :: _, _, h, k => ⟨h.1, h.2.1, feas_app h.2.2 k⟩
theorem exc_app : ∀ {A B : List Arc} {f g : List Int} (v : Int), f.length = A.length → exc (A ++ B) (f ++ g) v = exc A f v + exc B g v
  | [], _, [], _, v, _ => by simp [exc]
  | a :: A, B, x :: f, g, v, h => by
    have := exc_app (A := A) (B := B) (f := f) (g := g) v (by simpa using h)
    simp only [List.cons_append, exc, this]; omega
theorem closed_app : ∀ {A B : List Arc} {f g : List Int} {S : Int → Bool}, f.length = A.length → (closed (A ++ B) (f ++ g) S ↔ closed A f S ∧ closed B g S)
  | [], _, [], _, _, _ => by simp [closed]
  | a :: A, B, x :: f, g, S, h => by
    have := closed_app (A := A) (B := B) (f := f) (g := g) (S := S) (by simpa using h)
    simp only [List.cons_append, closed, this]
    constructor
    · rintro ⟨h1, h2, h3, h4⟩; exact ⟨⟨h1, h2, h3⟩, h4⟩
    · rintro ⟨⟨h1, h2, h3⟩, h4⟩; exact ⟨h1, h2, h3, h4⟩
/-- A list of arcs with the flow on each. -/
abbrev AF := List (Arc × Int)
def arcs (l : AF) : List Arc := l.map (·.1)
def flow (l : AF) : List Int := l.map (·.2)
theorem af_of {A : List Arc} {f : List Int} (h : f.length = A.length) : arcs (A.zip f) = A ∧ flow (A.zip f) = f := by
  constructor
  · exact List.map_fst_zip (show A.length ≤ f.length by omega)
  · exact List.map_snd_zip (show f.length ≤ A.length by omega)
def feas1 (p : Arc × Int) : Prop := 0 ≤ p.2 ∧ p.2 ≤ p.1.2.2
theorem feas_iff : ∀ (l : AF), feas (arcs l) (flow l) ↔ ∀ p ∈ l, feas1 p
  | [] => by simp [feas, arcs, flow]
  | p :: l => by
    have := feas_iff l
    simp only [arcs, flow, List.map_cons, feas] at *
    rw [this]
    simp only [List.mem_cons, forall_eq_or_imp, feas1, and_assoc]
def exc1 (p : Arc × Int) (v : Int) : Int := ind (p.1.1 == v) p.2 - ind (p.1.2.1 == v) p.2
theorem exc_sum : ∀ (l : AF) (v : Int), exc (arcs l) (flow l) v = (l.map fun p => exc1 p v).sum
  | [], v => by simp [exc, arcs, flow]
  | p :: l, v => by
    have := exc_sum l v
    simp only [arcs, flow, List.map_cons, exc, List.sum_cons] at *
    rw [this]; rfl
def closed1 (S : Int → Bool) (p : Arc × Int) : Prop := (S p.1.1 = true → p.2 < p.1.2.2 → S p.1.2.1 = true) ∧ (S p.1.2.1 = true → 0 < p.2 → S p.1.1 = true)
theorem closed_iff (S : Int → Bool) : ∀ (l : AF), closed (arcs l) (flow l) S ↔ ∀ p ∈ l, closed1 S p
  | [] => by simp [closed, arcs, flow]
  | p :: l => by
    have := closed_iff S l
    simp only [arcs, flow, List.map_cons, closed] at *
    rw [this]
    simp only [List.mem_cons, forall_eq_or_imp, closed1, and_assoc]
theorem cut_sum : ∀ (A : List Arc) (S : Int → Bool), cut A S = (A.map fun a => ind (S a.1 && !S a.2.1) a.2.2).sum
  | [], S => rfl
  | a :: A, S => by simp [cut, cut_sum A S]

theorem cross_not (S : Int → Bool) : ∀ (A : List Arc) (f : List Int), cross A f (fun v => !S v) = - cross A f S
  | [], _ => by simp [cross]
  | _ :: _, [] => by simp [cross]
  | a :: A, x :: f => by
    have := cross_not S A f
    simp only [cross, this]
    cases S a.1 <;> cases S a.2.1 <;> simp [ind] <;> omega
/-- The total of all excesses is 0. -/
theorem exc_ends {n : Nat} {A : List Arc} {f : List Int} {s t : Int} (hA : inN n A) (hs0 : 0 ≤ s) (hs1 : s < n) (ht0 : 0 ≤ t) (ht1 : t < n) (hst : s ≠ t) (hk : keeps A f s t) : exc A f t = - exc A f s := by
  have e1 : exc A f s = cross A f (fun v => !(v == t)) := value_cross hA hs0 hs1 hk (by simp; exact hst) (by simp)
  have e2 : exc A f t = cross A f (fun v => v == t) := value_cross (s := t) (t := s) hA ht0 ht1 (fun v h1 h2 => hk v h2 h1) (by simp) (by simp; exact hst)
  rw [e1, e2, cross_not]; omega

/-! The reversed network. -/
def flip (p : Arc × Int) : Arc × Int := ((p.1.2.1, p.1.1, p.1.2.2), p.2)
def backA (A : List Arc) : List Arc := (A.map fun a => (a.2.1, a.1, a.2.2)).reverse
theorem exc_flip (l : AF) (v : Int) : exc (arcs (l.map flip).reverse) (flow (l.map flip).reverse) v = - exc (arcs l) (flow l) v := by
  rw [exc_sum, exc_sum, List.map_reverse, List.sum_reverse]
  induction l with
  | nil => rfl
  | cons p l ih =>
    simp only [List.map_cons, List.sum_cons, ih]
    simp only [exc1, flip]; omega
theorem arcs_flip (l : AF) : arcs (l.map flip).reverse = backA (arcs l) := by
  simp only [arcs, backA, List.map_reverse, List.map_map]
  rfl
theorem backA_backA (A : List Arc) : backA (backA A) = A := by
  simp only [backA, List.map_reverse, List.reverse_reverse, List.map_map]
  exact (List.map_congr_left (g := id) (fun a _ => rfl)).trans (List.map_id _)
theorem inN_back {n : Nat} {A : List Arc} (h : inN n A) : inN n (backA A) := by
  intro a ha
  simp only [backA, List.mem_reverse, List.mem_map] at ha
  obtain ⟨b, hb, rfl⟩ := ha
  obtain ⟨h1, h2, h3, h4⟩ := h b hb
  exact ⟨h3, h4, h1, h2⟩
theorem back_flow {n : Nat} {A : List Arc} {f : List Int} {s t : Int} (hA : inN n A) (hs0 : 0 ≤ s) (hs1 : s < n) (ht0 : 0 ≤ t) (ht1 : t < n) (hst : s ≠ t) (hf : feas A f) (hk : keeps A f s t) :
    ∃ g, feas (backA A) g ∧ keeps (backA A) g t s ∧ exc (backA A) g t = exc A f s := by
  obtain ⟨e1, e2⟩ := af_of (feas_len hf)
  generalize A.zip f = l at e1 e2
  subst e1 e2
  refine ⟨flow (l.map flip).reverse, ?_, fun v h1 h2 => ?_, ?_⟩
  · rw [← arcs_flip]
    rw [feas_iff] at hf ⊢
    intro p hp
    simp only [List.mem_reverse, List.mem_map] at hp
    obtain ⟨q, hq, rfl⟩ := hp
    exact hf q hq
  · rw [← arcs_flip, exc_flip, hk v h2 h1]; rfl
  · rw [← arcs_flip, exc_flip, exc_ends hA hs0 hs1 ht0 ht1 hst hk]; omega
theorem turn_back {n : Nat} {A : List Arc} {s t : Int} {f g : List Int} {v w : Int} {R Q : Int → Bool} (hA : inN n A) (hs0 : 0 ≤ s) (hs1 : s < n) (ht0 : 0 ≤ t) (ht1 : t < n) (hst : s ≠ t)
    (h : MaxOf n A s t f v R) (k : MaxOf n (backA A) t s g w Q) : v = w := by
  obtain ⟨g1, a1, a2, a3⟩ := back_flow hA hs0 hs1 ht0 ht1 hst h.feas h.keeps
  have l1 := k.flow_le (inN_back hA) ht0 ht1 a1 a2
  obtain ⟨f1, b1, b2, b3⟩ := back_flow (inN_back hA) ht0 ht1 hs0 hs1 (fun e => hst e.symm) k.feas k.keeps
  rw [backA_backA] at b1 b2 b3
  have l2 := h.flow_le hA hs0 hs1 b1 b2
  rw [a3, h.value] at l1
  rw [b3, k.value] at l2
  omega

/-! An arc with a greater capacity. -/
theorem grows {n : Nat} {A B : List Arc} {a : Arc} {d : Int} {s t : Int} {f g : List Int} {v w : Int} {R Q : Int → Bool} (hA : inN n (A ++ a :: B)) (hs0 : 0 ≤ s) (hs1 : s < n) (hd : 0 ≤ d)
    (h : MaxOf n (A ++ a :: B) s t f v R) (k : MaxOf n (A ++ (a.1, a.2.1, a.2.2 + d) :: B) s t g w Q) : v ≤ w ∧ w ≤ v + d ∧ ((R a.1 && !R a.2.1) = false → w = v) := by
  have hA' : inN n (A ++ (a.1, a.2.1, a.2.2 + d) :: B) := by
    intro b hb
    rcases List.mem_append.1 hb with hb | hb
    · exact hA b (List.mem_append_left _ hb)
    · rcases List.mem_cons.1 hb with rfl | hb
      · exact hA a (List.mem_append_right _ List.mem_cons_self)
      · exact hA b (List.mem_append_right _ (List.mem_cons_of_mem _ hb))
  have ge : v ≤ w := by
    have fe : feas (A ++ (a.1, a.2.1, a.2.2 + d) :: B) f := by
      have hf := h.feas
      clear h k hA hA'
      induction A generalizing f with
      | nil => cases f with
        | nil => exact hf
        | cons x f => exact ⟨hf.1, by have := hf.2.1; show x ≤ a.2.2 + d; omega, hf.2.2⟩
      | cons b A ih => cases f with
        | nil => exact hf
        | cons x f => exact ⟨hf.1, hf.2.1, ih hf.2.2⟩
    have ex : ∀ u, exc (A ++ (a.1, a.2.1, a.2.2 + d) :: B) f u = exc (A ++ a :: B) f u := by
      intro u
      clear h k hA hA' fe
      induction A generalizing f with
      | nil => cases f <;> rfl
      | cons b A ih => cases f with
        | nil => rfl
        | cons x f => simp only [List.cons_append, exc, ih]
    have := k.flow_le hA' hs0 hs1 fe (fun u h1 h2 => by rw [ex]; exact h.keeps u h1 h2)
    rw [ex, h.value] at this
    exact this
  have cuts : cut (A ++ (a.1, a.2.1, a.2.2 + d) :: B) R = cut (A ++ a :: B) R + ind (R a.1 && !R a.2.1) d := by
    rw [cut_sum, cut_sum]
    simp only [List.map_append, List.map_cons, List.sum_append, List.sum_cons]
    cases R a.1 <;> cases R a.2.1 <;> simp [ind] <;> omega
  have le := k.le_cut hA' hs0 hs1 h.src h.snk
  rw [cuts, h.cut hA hs0 hs1] at le
  refine ⟨ge, ?_, fun e => ?_⟩
  · cases (R a.1 && !R a.2.1) <;> simp [ind] at le <;> omega
  · rw [e] at le; simp [ind] at le; omega

/-! An arc in two parts, and the list of arcs the other way round. -/
theorem sum_perm_rev (l : List Int) : l.reverse.sum = l.sum := List.sum_reverse l
def splitA (A B : List Arc) (a : Arc) (p : Int) : List Arc := B.reverse ++ (a.1, a.2.1, p) :: (a.1, a.2.1, a.2.2 - p) :: A.reverse
theorem maxOf_split {n : Nat} {A B : List Arc} {a : Arc} {p : Int} {s t : Int} {f : List Int} {v : Int} {R : Int → Bool} (hp0 : 0 ≤ p) (hp1 : p ≤ a.2.2) (h : MaxOf n (A ++ a :: B) s t f v R) :
    ∃ g, MaxOf n (splitA A B a p) s t g v R := by
  obtain ⟨e1, e2⟩ := af_of (feas_len h.feas)
  have hl := feas_len h.feas
  obtain ⟨la, y, lb, hla, hlb⟩ : ∃ (la : AF) (y : Int) (lb : AF), (A ++ a :: B).zip f = la ++ (a, y) :: lb ∧ arcs la = A ∧ arcs lb = B := by
    clear h e1 e2
    induction A generalizing f with
    | nil => cases f with
      | nil => simp at hl
      | cons y f =>
        refine ⟨[], y, B.zip f, rfl, rfl, ?_⟩
        simp only [arcs, List.map_fst_zip (show B.length ≤ f.length by simp at hl; omega)]
    | cons b A ih => cases f with
      | nil => simp at hl
      | cons y f =>
        obtain ⟨la, z, lb, h1, h2, h3⟩ := ih (f := f) (by simpa using hl)
        exact ⟨(b, y) :: la, z, lb, by simp [h1], by simp [arcs] at h2 ⊢; exact h2, h3⟩
  obtain ⟨hlb, hlc⟩ := hlb
  rw [hla] at e1 e2
  have hA : A ++ a :: B = arcs (la ++ (a, y) :: lb) := e1.symm
  have hf : f = flow (la ++ (a, y) :: lb) := e2.symm
  rw [hA, hf] at h
  let lg : AF := lb.reverse ++ ((a.1, a.2.1, p), min y p) :: ((a.1, a.2.1, a.2.2 - p), y - min y p) :: la.reverse
  have hg : arcs lg = splitA A B a p := by
    simp only [lg, arcs, splitA, List.map_append, List.map_cons, List.map_reverse, ← hlb, ← hlc]
  have fe := (feas_iff _).1 h.feas
  have fy : feas1 (a, y) := fe (a, y) (by simp)
  have fy0 : 0 ≤ y := fy.1
  have fy1 : y ≤ a.2.2 := fy.2
  have ex : ∀ u, exc (arcs lg) (flow lg) u = exc (arcs (la ++ (a, y) :: lb)) (flow (la ++ (a, y) :: lb)) u := by
    intro u
    rw [exc_sum, exc_sum]
    simp only [lg, List.map_append, List.map_cons, List.map_reverse, List.sum_append, List.sum_cons, List.sum_reverse]
    have : exc1 ((a.1, a.2.1, p), min y p) u + exc1 ((a.1, a.2.1, a.2.2 - p), y - min y p) u = exc1 (a, y) u := by
      simp only [exc1]
      cases (a.1 == u) <;> cases (a.2.1 == u) <;> simp [ind] <;> omega
    omega
  have cl : ∀ S, closed (arcs lg) (flow lg) S ↔ closed (arcs (la ++ (a, y) :: lb)) (flow (la ++ (a, y) :: lb)) S := by
    intro S
    rw [closed_iff, closed_iff]
    simp only [lg, List.mem_append, List.mem_reverse, List.mem_cons]
    constructor
    · intro hc q hq
      rcases hq with hq | rfl | hq
      · exact hc q (.inr (.inr (.inr hq)))
      · have c1 := hc _ (.inr (.inl rfl))
        have c2 := hc _ (.inr (.inr (.inl rfl)))
        simp only [closed1] at c1 c2 ⊢
        refine ⟨fun h1 h2 => ?_, fun h1 h2 => ?_⟩
        · by_cases g : min y p < p
          · exact c1.1 h1 g
          · exact c2.1 h1 (by omega)
        · by_cases g : 0 < min y p
          · exact c1.2 h1 g
          · exact c2.2 h1 (by omega)
      · exact hc q (.inl hq)
    · intro hc q hq
      rcases hq with hq | rfl | rfl | hq
      · exact hc q (.inr (.inr hq))
      · have c := hc _ (.inr (.inl rfl))
        simp only [closed1] at c ⊢
        exact ⟨fun h1 h2 => c.1 h1 (by omega), fun h1 h2 => c.2 h1 (by omega)⟩
      · have c := hc _ (.inr (.inl rfl))
        simp only [closed1] at c ⊢
        exact ⟨fun h1 h2 => c.1 h1 (by omega), fun h1 h2 => c.2 h1 (by omega)⟩
      · exact hc q (.inl hq)
  refine ⟨flow lg, ?_⟩
  rw [← hg]
  refine ⟨?_, fun u h1 h2 => by rw [ex]; exact h.keeps u h1 h2, by rw [ex]; exact h.value, h.src, h.snk, (cl _).2 h.closed, fun S h1 h2 => h.least S h1 ((cl _).1 h2)⟩
  rw [feas_iff]
  intro q hq
  simp only [lg, List.mem_append, List.mem_reverse, List.mem_cons] at hq
  rcases hq with hq | rfl | rfl | hq
  · exact fe q (by simp [hq])
  · simp only [feas1]; omega
  · simp only [feas1]; omega
  · exact fe q (by simp [hq])
theorem maxOf_rev {n : Nat} {A : List Arc} {s t : Int} {f : List Int} {v : Int} {R : Int → Bool} (h : MaxOf n A s t f v R) : ∃ g, MaxOf n A.reverse s t g v R := by
  obtain ⟨e1, e2⟩ := af_of (feas_len h.feas)
  generalize A.zip f = l at e1 e2
  subst e1 e2
  have hr : arcs l.reverse = (arcs l).reverse := by simp [arcs]
  have ex : ∀ u, exc (arcs l.reverse) (flow l.reverse) u = exc (arcs l) (flow l) u := by
    intro u
    rw [exc_sum, exc_sum, List.map_reverse, List.sum_reverse]
  have cl : ∀ S, closed (arcs l.reverse) (flow l.reverse) S ↔ closed (arcs l) (flow l) S := by
    intro S
    rw [closed_iff, closed_iff]; simp
  refine ⟨flow l.reverse, ?_⟩
  rw [← hr]
  refine ⟨?_, fun u h1 h2 => by rw [ex]; exact h.keeps u h1 h2, by rw [ex]; exact h.value, h.src, h.snk, (cl _).2 h.closed, fun S h1 h2 => h.least S h1 ((cl _).1 h2)⟩
  have fe := (feas_iff _).1 h.feas
  rw [feas_iff]
  intro q hq
  exact fe q (by simpa using hq)

/-- What the check of a flow and a side gives: both are extreme. -/
theorem check_extreme {n : Nat} {A : List Arc} {s t : Int} {f g : List Int} {v : Int} {R S : Int → Bool} (hA : inN n A) (hs0 : 0 ≤ s) (hs1 : s < n) (h : MaxOf n A s t f v R)
    (hg : feas A g) (kg : keeps A g s t) (hs : S s = true) (ht : S t = false) (e : exc A g s = cut A S) : exc A g s = v ∧ cut A S = v := by
  have a := h.flow_le hA hs0 hs1 hg kg
  have b := h.le_cut hA hs0 hs1 hs ht
  omega
end Go.Proofs.Ytphebdmdbnpokaa.FM

/- Plain laws of what is left of a network beside a flow: an edge and its reverse for each arc; pushing along an edge; levels. -/
namespace Go.Proofs.Ytphebdmdbnpokaa.FM

def dA : Arc := (0, 0, 0)
/-- Where the edge e comes from and leads to: the edges 2 i and 2 i + 1 are the arc i and its reverse. -/
def fr (A : List Arc) (e : Nat) : Int := if e % 2 = 0 then (A.getD (e / 2) dA).1 else (A.getD (e / 2) dA).2.1
def to (A : List Arc) (e : Nat) : Int := if e % 2 = 0 then (A.getD (e / 2) dA).2.1 else (A.getD (e / 2) dA).1
def mate (e : Nat) : Nat := if e % 2 = 0 then e + 1 else e - 1
/-- Each arc's two rests are together its capacity. -/
def Res : List Arc → List Int → Prop
  | a :: A, x :: y :: L => 0 ≤ x ∧ 0 ≤ y ∧ x + y = a.2.2 ∧ Res A L
  | [], [] => True
  | _, _ => False
def flowOf : List Arc → List Int → List Int
  | a :: A, x :: _ :: L => (a.2.2 - x) :: flowOf A L
  | _, _ => []
def push1 (L : List Int) (e : Nat) (g : Int) : List Int := (L.set e (L.getD e 0 - g)).set (mate e) (L.getD (mate e) 0 + g)

theorem Res.len : ∀ {A : List Arc} {L : List Int}, Res A L → L.length = 2 * A.length
  | [], [], _ => rfl
  | _ :: _, _ :: _ :: _, h => by simp [Res.len h.2.2.2]; omega
theorem Res.feas : ∀ {A : List Arc} {L : List Int}, Res A L → feas A (flowOf A L)
  | [], [], _ => trivial
  | a :: A, x :: y :: L, h => by
    obtain ⟨h0, h1, h2, h3⟩ := h
    exact ⟨by omega, by omega, h3.feas⟩
theorem fr_zero (a : Arc) (A : List Arc) : fr (a :: A) 0 = a.1 ∧ fr (a :: A) 1 = a.2.1 ∧ to (a :: A) 0 = a.2.1 ∧ to (a :: A) 1 = a.1 := by simp [fr, to]
theorem fr_succ (a : Arc) (A : List Arc) (e : Nat) : fr (a :: A) (e + 2) = fr A e ∧ to (a :: A) (e + 2) = to A e := by
  have h1 : (e + 2) % 2 = e % 2 := by omega
  have h2 : (e + 2) / 2 = e / 2 + 1 := by omega
  simp [fr, to, h1, h2]
theorem mate_succ (e : Nat) : mate (e + 2) = mate e + 2 := by
  have h1 : (e + 2) % 2 = e % 2 := by omega
  unfold mate; rw [h1]; split <;> omega
theorem mate_lt {e m : Nat} (h : e < 2 * m) : mate e < 2 * m := by unfold mate; split <;> omega
theorem mate_mate (e : Nat) : mate (mate e) = e := by unfold mate; split <;> split <;> omega
theorem mate_ne (e : Nat) : mate e ≠ e := by unfold mate; split <;> omega
theorem fr_mate (A : List Arc) (e : Nat) : fr A (mate e) = to A e ∧ to A (mate e) = fr A e := by
  unfold mate
  by_cases h : e % 2 = 0
  · rw [if_pos h]
    have h1 : (e + 1) % 2 ≠ 0 := by omega
    have h2 : (e + 1) / 2 = e / 2 := by omega
    simp [fr, to, h, h1, h2]
  · rw [if_neg h]
    have h1 : (e - 1) % 2 = 0 := by omega
    have h2 : (e - 1) / 2 = e / 2 := by omega
    simp [fr, to, h, h1, h2]
theorem push1_succ (x y : Int) (L : List Int) (e : Nat) (g : Int) : push1 (x :: y :: L) (e + 2) g = x :: y :: push1 L e g := by
  unfold push1
  rw [mate_succ]
  rfl
theorem push1_len (L : List Int) (e : Nat) (g : Int) : (push1 L e g).length = L.length := by simp [push1]
theorem push1_other (L : List Int) (e : Nat) (g : Int) (k : Nat) (h1 : k ≠ e) (h2 : k ≠ mate e) : (push1 L e g).getD k 0 = L.getD k 0 := by
  unfold push1
  simp only [List.getD_eq_getElem?_getD, List.getElem?_set_ne (fun h => h2 h.symm), List.getElem?_set_ne (fun h => h1 h.symm)]
theorem res_push : ∀ {A : List Arc} {L : List Int} {e : Nat} {g : Int}, Res A L → e < 2 * A.length → 0 ≤ g → g ≤ L.getD e 0 →
    Res A (push1 L e g) ∧ ∀ v, exc A (flowOf A (push1 L e g)) v = exc A (flowOf A L) v + ind (fr A e == v) g - ind (to A e == v) g
  | [], [], e, g, _, h, _, _ => by simp at h
  | a :: A, x :: y :: L, 0, g, h, _, h0, h1 => by
    obtain ⟨p0, p1, p2, p3⟩ := h
    have h1 : g ≤ x := h1
    obtain ⟨f1, f2, f3, f4⟩ := fr_zero a A
    refine ⟨⟨by show 0 ≤ x - g; omega, by show 0 ≤ y + g; omega, by show (x - g) + (y + g) = _; omega, p3⟩, fun v => ?_⟩
    rw [f1, f3]
    show ind (a.1 == v) (a.2.2 - (x - g)) - ind (a.2.1 == v) (a.2.2 - (x - g)) + exc A (flowOf A L) v = ind (a.1 == v) (a.2.2 - x) - ind (a.2.1 == v) (a.2.2 - x) + exc A (flowOf A L) v + _ - _
    cases (a.1 == v) <;> cases (a.2.1 == v) <;> simp [ind] <;> omega
  | a :: A, x :: y :: L, 1, g, h, _, h0, h1 => by
    obtain ⟨p0, p1, p2, p3⟩ := h
    have h1 : g ≤ y := h1
    obtain ⟨f1, f2, f3, f4⟩ := fr_zero a A
    refine ⟨⟨by show 0 ≤ x + g; omega, by show 0 ≤ y - g; omega, by show (x + g) + (y - g) = _; omega, p3⟩, fun v => ?_⟩
    rw [f2, f4]
    show ind (a.1 == v) (a.2.2 - (x + g)) - ind (a.2.1 == v) (a.2.2 - (x + g)) + exc A (flowOf A L) v = ind (a.1 == v) (a.2.2 - x) - ind (a.2.1 == v) (a.2.2 - x) + exc A (flowOf A L) v + _ - _
    cases (a.1 == v) <;> cases (a.2.1 == v) <;> simp [ind] <;> omega
  | a :: A, x :: y :: L, e + 2, g, h, hl, h0, h1 => by
    obtain ⟨p0, p1, p2, p3⟩ := h
    obtain ⟨r1, r2⟩ := res_push (e := e) p3 (by simp at hl; omega) h0 h1
    rw [push1_succ]
    refine ⟨⟨p0, p1, p2, r1⟩, fun v => ?_⟩
    rw [(fr_succ a A e).1, (fr_succ a A e).2]
    show ind (a.1 == v) (a.2.2 - x) - ind (a.2.1 == v) (a.2.2 - x) + exc A (flowOf A (push1 L e g)) v = ind (a.1 == v) (a.2.2 - x) - ind (a.2.1 == v) (a.2.2 - x) + exc A (flowOf A L) v + _ - _
    rw [r2 v]; omega
theorem Res.nonneg : ∀ {A : List Arc} {L : List Int}, Res A L → ∀ e, 0 ≤ L.getD e 0
  | [], [], _, e => by simp
  | a :: A, x :: y :: L, h, 0 => h.1
  | a :: A, x :: y :: L, h, 1 => h.2.1
  | a :: A, x :: y :: L, h, e + 2 => h.2.2.2.nonneg e
theorem closed_res (S : Int → Bool) : ∀ {A : List Arc} {L : List Int}, Res A L → (closed A (flowOf A L) S ↔ ∀ e, e < 2 * A.length → S (fr A e) = true → 0 < L.getD e 0 → S (to A e) = true)
  | [], [], _ => by simp [closed]
  | a :: A, x :: y :: L, h => by
    obtain ⟨p0, p1, p2, p3⟩ := h
    have ih := closed_res S p3
    obtain ⟨f1, f2, f3, f4⟩ := fr_zero a A
    simp only [flowOf, closed, ih]
    constructor
    · rintro ⟨h1, h2, h3⟩ e he hs hx
      match e, he, hs, hx with
      | 0, _, hs, hx =>
        rw [f1] at hs; rw [f3]
        have hx : 0 < x := hx
        exact h1 hs (by omega)
      | 1, _, hs, hx =>
        rw [f2] at hs; rw [f4]
        have hx : 0 < y := hx
        exact h2 hs (by omega)
      | e + 2, he, hs, hx =>
        rw [(fr_succ a A e).1] at hs; rw [(fr_succ a A e).2]
        exact h3 e (by simp at he; omega) hs hx
    · intro hc
      refine ⟨fun h1 h2 => ?_, fun h1 h2 => ?_, fun e he hs hx => ?_⟩
      · have := hc 0 (by simp) (by rw [f1]; exact h1) (by show 0 < x; omega)
        rw [f3] at this; exact this
      · have := hc 1 (by simp; omega) (by rw [f2]; exact h1) (by show 0 < y; omega)
        rw [f4] at this; exact this
      · have := hc (e + 2) (by simp; omega) (by rw [(fr_succ a A e).1]; exact hs) hx
        rw [(fr_succ a A e).2] at this; exact this
theorem inN_ends {n : Nat} {A : List Arc} (h : inN n A) (e : Nat) (he : e < 2 * A.length) : 0 ≤ fr A e ∧ fr A e < n ∧ 0 ≤ to A e ∧ to A e < n := by
  have hi : e / 2 < A.length := by omega
  have hm := h A[e / 2] (List.getElem_mem hi)
  have e1 : A.getD (e / 2) dA = A[e / 2] := by simp [List.getD, hi]
  unfold fr to
  rw [e1]
  obtain ⟨h1, h2, h3, h4⟩ := hm
  split <;> exact ⟨by assumption, by assumption, by assumption, by assumption⟩

/-- The distances from s over edges that can take more. -/
structure Dist (n : Nat) (A : List Arc) (L : List Int) (s : Int) (D : Int → Int) : Prop where
  src : D s = 0
  zero : ∀ v : Int, 0 ≤ v → v < n → D v = 0 → v = s
  lo : ∀ v : Int, 0 ≤ v → v < n → -1 ≤ D v
  hi : ∀ v : Int, 0 ≤ v → v < n → D v < n
  step : ∀ e, e < 2 * A.length → 0 ≤ D (fr A e) → 0 < L.getD e 0 → 0 ≤ D (to A e) ∧ D (to A e) ≤ D (fr A e) + 1
  par : ∀ v : Int, 0 ≤ v → v < n → 0 < D v → ∃ e, e < 2 * A.length ∧ 0 < L.getD e 0 ∧ to A e = v ∧ D (fr A e) = D v - 1
theorem max_of_dist {n : Nat} {A : List Arc} {L : List Int} {s t : Int} {D : Int → Int} {v : Int} (hA : inN n A) (hr : Res A L) (hk : keeps A (flowOf A L) s t) (hv : exc A (flowOf A L) s = v)
    (hs0 : 0 ≤ s) (hs1 : s < n) (h : Dist n A L s D) (ht : D t < 0) : MaxOf n A s t (flowOf A L) v (fun u => decide (0 ≤ u ∧ u < n ∧ 0 ≤ D u)) := by
  refine ⟨hr.feas, hk, hv, by simp [h.src, hs0, hs1], by simp; omega, ?_, fun S hS hc u hu => ?_⟩
  · rw [closed_res _ hr]
    intro e he hs hx
    obtain ⟨i1, i2, i3, i4⟩ := inN_ends hA e he
    have hs := of_decide_eq_true hs
    exact decide_eq_true ⟨i3, i4, (h.step e he hs.2.2 hx).1⟩
  · rw [closed_res _ hr] at hc
    replace hu := of_decide_eq_true hu
    obtain ⟨u0, u1, ud⟩ := hu
    obtain ⟨k, hk⟩ := Int.eq_ofNat_of_zero_le ud
    induction k generalizing u with
    | zero => rw [h.zero u u0 u1 hk]; exact hS
    | succ k ih =>
      obtain ⟨e, he, hx, rfl, hd⟩ := h.par u u0 u1 (by omega)
      obtain ⟨i1, i2, i3, i4⟩ := inN_ends hA e he
      exact hc e he (ih (fr A e) i1 i2 (by omega) (by omega)) hx

/-- The edges from a node, in order. -/
def outs (A : List Arc) (v : Int) : List Nat := (List.range (2 * A.length)).filter fun e => fr A e == v
theorem mem_outs {A : List Arc} {v : Int} {e : Nat} : e ∈ outs A v ↔ e < 2 * A.length ∧ fr A e = v := by simp [outs]
/-- The edges before the counter of a node lead no further. -/
def Tried (A : List Arc) (L : List Int) (t : Int) (D : Int → Int) (tr : Int → Nat) : Prop :=
  ∀ (v : Int) (j : Nat) (e : Nat), j < tr v → (outs A v)[j]? = some e → L.getD e 0 = 0 ∨ D (to A e) ≠ D v + 1 ∨ (to A e ≠ t ∧ tr (to A e) = (outs A (to A e)).length)
theorem tried_alive {n : Nat} {A : List Arc} {L : List Int} {s t : Int} {D : Int → Int} {tr : Int → Nat} (hA : inN n A) (h : Dist n A L s D) (hT : Tried A L t D tr) (ht0 : 0 ≤ t) (ht1 : t < n) (ht : 0 ≤ D t) (hst : s ≠ t)
    (hs : tr s = (outs A s).length) : False := by
  have key : ∀ (k : Nat) (u : Int), 0 ≤ u → u < n → D u = k → (u = t ∨ tr u ≠ (outs A u).length) → False := by
    intro k
    induction k with
    | zero =>
      intro u u0 u1 hd hu
      obtain rfl := h.zero u u0 u1 hd
      rcases hu with hu | hu
      · exact hst hu
      · exact hu hs
    | succ k ih =>
      intro u u0 u1 hd hu
      obtain ⟨e, he, hx, rfl, hp⟩ := h.par u u0 u1 (by omega)
      obtain ⟨i1, i2, i3, i4⟩ := inN_ends hA e he
      refine ih (fr A e) i1 i2 (by omega) (.inr fun hdead => ?_)
      have hm : e ∈ outs A (fr A e) := mem_outs.2 ⟨he, rfl⟩
      obtain ⟨j, hj, hje⟩ := List.getElem_of_mem hm
      rcases hT (fr A e) j e (by omega) (by rw [List.getElem?_eq_getElem hj, hje]) with g | g | ⟨g1, g2⟩
      · omega
      · omega
      · rcases hu with hu | hu
        · exact g1 hu
        · exact hu g2
  obtain ⟨k, hk⟩ := Int.eq_ofNat_of_zero_le ht
  exact key k t ht0 ht1 hk (.inl rfl)
end Go.Proofs.Ytphebdmdbnpokaa.FM

/- Plain laws of one search for a way along which the flow can be increased. -/
namespace Go.Proofs.Ytphebdmdbnpokaa.FM

def upd (tr : Int → Nat) (v : Int) (x : Nat) : Int → Nat := fun u => if u = v then x else tr u
theorem upd_same (tr : Int → Nat) (v : Int) (x : Nat) : upd tr v x v = x := by simp [upd]
theorem upd_other (tr : Int → Nat) (v : Int) (x : Nat) {u : Int} (h : u ≠ v) : upd tr v x u = tr u := by simp [upd, h]

/-- What a search from v with a limit does: got litres more flow from v to t. -/
structure Push (A : List Arc) (t : Int) (D : Int → Int) (v lim : Int) (L : List Int) (tr : Int → Nat) (got : Int) (L' : List Int) (tr' : Int → Nat) : Prop where
  res : Res A L'
  lo : 0 ≤ got
  hi : got ≤ lim
  exc : ∀ u, exc A (flowOf A L') u = FM.exc A (flowOf A L) u + ind (v == u) got - ind (t == u) got
  keep : ∀ e, e < 2 * A.length → D (fr A e) < D v → L'.getD e 0 = L.getD e 0
  trlo : ∀ u, tr u ≤ tr' u
  trhi : ∀ u, tr' u ≤ (outs A u).length
  trkeep : ∀ u, D u < D v → tr' u = tr u
  fail : got = 0 → L' = L ∧ (Tried A L t D tr → Tried A L t D tr' ∧ v ≠ t ∧ tr' v = (outs A v).length)
/-- The state of the search among the edges from v. -/
structure Seek (A : List Arc) (t : Int) (D : Int → Int) (v : Int) (L : List Int) (tr tc : Int → Nat) : Prop where
  trlo : ∀ u, tr u ≤ tc u
  trhi : ∀ u, tc u ≤ (outs A u).length
  trkeep : ∀ u, D u < D v → tc u = tr u
  tried : Tried A L t D tr → Tried A L t D tc

theorem Push.base {A : List Arc} {t lim : Int} {D : Int → Int} {L : List Int} {tr : Int → Nat} (hr : Res A L) (hl : 0 < lim) (ht : ∀ u, tr u ≤ (outs A u).length) : Push A t D t lim L tr lim L tr :=
  ⟨hr, by omega, by omega, fun u => by omega, fun _ _ _ => rfl, fun _ => Nat.le_refl _, ht, fun _ _ => rfl, fun h => by omega⟩
theorem Seek.begin {A : List Arc} {t : Int} {D : Int → Int} {v : Int} {L : List Int} {tr : Int → Nat} (ht : ∀ u, tr u ≤ (outs A u).length) : Seek A t D v L tr tr :=
  ⟨fun _ => Nat.le_refl _, ht, fun _ _ => rfl, id⟩
theorem tried_more {A : List Arc} {t : Int} {D : Int → Int} {v : Int} {L : List Int} {tc : Int → Nat} {e : Nat} (hv : tc v < (outs A v).length) (he : (outs A v)[tc v]? = some e)
    (hd : L.getD e 0 = 0 ∨ D (to A e) ≠ D v + 1 ∨ (to A e ≠ t ∧ tc (to A e) = (outs A (to A e)).length)) (h : Tried A L t D tc) : Tried A L t D (upd tc v (tc v + 1)) := by
  intro u j e' hj he'
  have third : ∀ w : Int, tc w = (outs A w).length → upd tc v (tc v + 1) w = (outs A w).length := by
    intro w hw
    by_cases hwv : w = v
    · subst hwv; omega
    · rw [upd_other _ _ _ hwv]; exact hw
  by_cases huv : u = v
  · subst huv
    rw [upd_same] at hj
    by_cases hj2 : j < tc u
    · rcases h u j e' hj2 he' with g | g | ⟨g1, g2⟩
      · exact .inl g
      · exact .inr (.inl g)
      · exact .inr (.inr ⟨g1, third _ g2⟩)
    · obtain rfl : j = tc u := by omega
      rw [he] at he'
      obtain rfl := Option.some.inj he'
      rcases hd with g | g | ⟨g1, g2⟩
      · exact .inl g
      · exact .inr (.inl g)
      · exact .inr (.inr ⟨g1, third _ g2⟩)
  · rw [upd_other _ _ _ huv] at hj
    rcases h u j e' hj he' with g | g | ⟨g1, g2⟩
    · exact .inl g
    · exact .inr (.inl g)
    · exact .inr (.inr ⟨g1, third _ g2⟩)
theorem Seek.more {A : List Arc} {t : Int} {D : Int → Int} {v : Int} {L : List Int} {tr tc : Int → Nat} {e : Nat} (h : Seek A t D v L tr tc) (hv : tc v < (outs A v).length) (he : (outs A v)[tc v]? = some e)
    (hd : Tried A L t D tr → L.getD e 0 = 0 ∨ D (to A e) ≠ D v + 1 ∨ (to A e ≠ t ∧ tc (to A e) = (outs A (to A e)).length)) : Seek A t D v L tr (upd tc v (tc v + 1)) := by
  refine ⟨fun u => ?_, fun u => ?_, fun u hu => ?_, fun hT => tried_more hv he (hd hT) (h.tried hT)⟩
  · by_cases g : u = v
    · subst g; rw [upd_same]; have := h.trlo u; omega
    · rw [upd_other _ _ _ g]; exact h.trlo u
  · by_cases g : u = v
    · subst g; rw [upd_same]; omega
    · rw [upd_other _ _ _ g]; exact h.trhi u
  · have g : u ≠ v := fun g => by subst g; omega
    rw [upd_other _ _ _ g]; exact h.trkeep u hu
/-- An edge that can't be used. -/
theorem Seek.skip {A : List Arc} {t : Int} {D : Int → Int} {v : Int} {L : List Int} {tr tc : Int → Nat} {e : Nat} (h : Seek A t D v L tr tc) (hv : tc v < (outs A v).length) (he : (outs A v)[tc v]? = some e)
    (hd : L.getD e 0 = 0 ∨ D (to A e) ≠ D v + 1) : Seek A t D v L tr (upd tc v (tc v + 1)) :=
  h.more hv he fun _ => by
    rcases hd with g | g
    · exact .inl g
    · exact .inr (.inl g)
/-- A search from the next node that fails. -/
theorem Seek.deep {A : List Arc} {t lim : Int} {D : Int → Int} {v : Int} {L L' : List Int} {tr tc tn : Int → Nat} {e : Nat} (h : Seek A t D v L tr tc) (hv : tc v < (outs A v).length) (he : (outs A v)[tc v]? = some e)
    (hw : D (to A e) = D v + 1) (hp : Push A t D (to A e) lim L tc 0 L' tn) : L' = L ∧ tn v = tc v ∧ Seek A t D v L tr (upd tn v (tn v + 1)) := by
  obtain ⟨hL, hf⟩ := hp.fail rfl
  have hk : tn v = tc v := hp.trkeep v (by omega)
  have hs : Seek A t D v L tr tn :=
    ⟨fun u => Nat.le_trans (h.trlo u) (hp.trlo u), hp.trhi, fun u hu => (hp.trkeep u (by omega)).trans (h.trkeep u hu), fun hT => (hf (h.tried hT)).1⟩
  refine ⟨hL, hk, hs.more (by omega) (by rw [hk]; exact he) fun hT => ?_⟩
  obtain ⟨_, f2, f3⟩ := hf (h.tried hT)
  exact .inr (.inr ⟨f2, f3⟩)
/-- All edges are tried. -/
theorem Seek.done {A : List Arc} {t lim : Int} {D : Int → Int} {v : Int} {L : List Int} {tr tc : Int → Nat} (h : Seek A t D v L tr tc) (hr : Res A L) (hl : 0 < lim) (hvt : v ≠ t) (hv : tc v = (outs A v).length) : Push A t D v lim L tr 0 L tc :=
  ⟨hr, by omega, by omega, fun u => by simp [ind], fun _ _ _ => rfl, h.trlo, h.trhi, h.trkeep, fun _ => ⟨rfl, fun hT => ⟨h.tried hT, hvt, hv⟩⟩⟩
/-- A search from the next node that succeeds. -/
theorem Seek.hit {A : List Arc} {t lim : Int} {D : Int → Int} {v got : Int} {L L' : List Int} {tr tc tn : Int → Nat} {e : Nat} (h : Seek A t D v L tr tc) (he : (outs A v)[tc v]? = some e)
    (hw : D (to A e) = D v + 1) (hg : 0 < got) (hp : Push A t D (to A e) (min lim (L.getD e 0)) L tc got L' tn) :
    L'.getD e 0 = L.getD e 0 ∧ Push A t D v lim L tr got (push1 L' e got) tn := by
  have hm := mem_outs.1 (List.mem_of_getElem? he)
  obtain ⟨h1, rfl⟩ := hm
  have hk : L'.getD e 0 = L.getD e 0 := hp.keep e h1 (by omega)
  have hle := hp.hi
  obtain ⟨r1, r2⟩ := res_push hp.res h1 (by omega) (show got ≤ L'.getD e 0 by rw [hk]; omega)
  refine ⟨hk, r1, by omega, by omega, fun u => ?_, fun k hk1 hk2 => ?_, fun u => Nat.le_trans (h.trlo u) (hp.trlo u), hp.trhi, fun u hu => (hp.trkeep u (by omega)).trans (h.trkeep u hu), fun h0 => by omega⟩
  · rw [r2 u, hp.exc u]; omega
  · have n1 : k ≠ e := fun g => by subst g; omega
    have n2 : k ≠ mate e := fun g => by
      subst g; rw [(fr_mate A e).1] at hk2; omega
    rw [push1_other _ _ _ _ n1 n2]
    exact hp.keep k hk1 (by omega)
end Go.Proofs.Ytphebdmdbnpokaa.FM

/- Plain laws of the search by levels: what holds of the distances and the queue after each step. -/
namespace Go.Proofs.Ytphebdmdbnpokaa.FM

def updI (D : Int → Int) (v x : Int) : Int → Int := fun u => if u = v then x else D u
theorem updI_same (D : Int → Int) (v x : Int) : updI D v x v = x := by simp [updI]
theorem updI_other (D : Int → Int) (v x : Int) {u : Int} (h : u ≠ v) : updI D v x u = D u := by simp [updI, h]
/-- How many nodes are reached. -/
def cnt (n : Nat) (D : Int → Int) : Int := sumN n (fun v => decide (0 ≤ D v)) (fun _ => 1)
theorem cnt_le (n : Nat) (D : Int → Int) : 0 ≤ cnt n D ∧ cnt n D ≤ n := by
  unfold cnt
  induction n with
  | zero => simp [sumN]
  | succ n ih =>
    simp only [sumN]
    have : 0 ≤ ind (decide (0 ≤ D n)) 1 ∧ ind (decide (0 ≤ D n)) 1 ≤ 1 := by unfold ind; split <;> omega
    omega
theorem cnt_upd (n : Nat) (D : Int → Int) (w x : Int) (h0 : 0 ≤ w) (h1 : w < n) (hD : D w < 0) (hx : 0 ≤ x) : cnt n (updI D w x) = cnt n D + 1 := by
  have key : ∀ k : Nat, sumN k (fun v => decide (0 ≤ updI D w x v)) (fun _ => 1) = sumN k (fun v => decide (0 ≤ D v)) (fun _ => 1) + (if w < k then 1 else 0) := by
    intro k
    induction k with
    | zero => rw [if_neg (by omega)]; rfl
    | succ k ih =>
      simp only [sumN, ih]
      by_cases g : w = k
      · subst g
        rw [updI_same, if_neg (by omega), if_pos (by omega), decide_eq_true hx, decide_eq_false (by omega : ¬ 0 ≤ D k)]
        simp [ind]
      · rw [updI_other _ _ _ (fun e => g e.symm)]
        by_cases g2 : w < (k : Int)
        · rw [if_pos g2, if_pos (by omega)]; omega
        · rw [if_neg g2, if_neg (by omega)]; omega
  have := key n
  rw [if_pos h1] at this
  exact this

theorem cnt_none (n : Nat) : cnt n (fun _ => -1) = 0 := by
  unfold cnt
  induction n with
  | zero => rfl
  | succ n ih => simp only [sumN, ih]; simp [ind]

/-- What holds of the distances all the time. -/
structure Lev (n : Nat) (A : List Arc) (L : List Int) (s : Int) (D : Int → Int) : Prop where
  src : D s = 0
  zero : ∀ v, D v = 0 → v = s
  lo : ∀ v, -1 ≤ D v
  rng : ∀ v, 0 ≤ D v → 0 ≤ v ∧ v < n
  hi : ∀ v, D v < cnt n D
  par : ∀ v, 0 < D v → ∃ e, e < 2 * A.length ∧ 0 < L.getD e 0 ∧ to A e = v ∧ D (fr A e) = D v - 1
/-- Between two nodes of the queue. -/
structure BfsO (n : Nat) (A : List Arc) (L : List Int) (s : Int) (D : Int → Int) (Q : List Int) : Prop where
  lev : Lev n A L s D
  q : ∀ u ∈ Q, 0 ≤ D u
  nd : Q.Nodup
  sorted : Q.Pairwise (fun a b => D a ≤ D b)
  span : ∀ v r, Q = v :: r → ∀ u, D u ≤ D v + 1
  proc : ∀ u, 0 ≤ D u → u ∉ Q → ∀ e, e < 2 * A.length → fr A e = u → 0 < L.getD e 0 → 0 ≤ D (to A e) ∧ D (to A e) ≤ D u + 1
/-- While the edges from v are looked at: k of them have been. -/
structure BfsI (n : Nat) (A : List Arc) (L : List Int) (s : Int) (D : Int → Int) (v : Int) (Q : List Int) (k : Nat) : Prop where
  lev : Lev n A L s D
  cur : 0 ≤ D v
  q : ∀ u ∈ Q, 0 ≤ D u ∧ D v ≤ D u
  nd : (v :: Q).Nodup
  sorted : Q.Pairwise (fun a b => D a ≤ D b)
  span : ∀ u, D u ≤ D v + 1
  proc : ∀ u, 0 ≤ D u → u ≠ v → u ∉ Q → ∀ e, e < 2 * A.length → fr A e = u → 0 < L.getD e 0 → 0 ≤ D (to A e) ∧ D (to A e) ≤ D u + 1
  seen : ∀ j e, j < k → (outs A v)[j]? = some e → 0 < L.getD e 0 → 0 ≤ D (to A e) ∧ D (to A e) ≤ D v + 1

theorem BfsO.begin {n : Nat} {A : List Arc} {L : List Int} {s : Int} (h0 : 0 ≤ s) (h1 : s < n) : BfsO n A L s (updI (fun _ => -1) s 0) [s] := by
  have hc : cnt n (updI (fun _ => -1) s 0) = 1 := by
    rw [cnt_upd n _ s 0 h0 h1 (by omega) (by omega)]
    have := cnt_none n
    omega
  have hd : ∀ u, u ≠ s → updI (fun _ => -1) s 0 u = -1 := fun u hu => updI_other _ _ _ hu
  have hs := updI_same (fun _ => -1) s 0
  refine ⟨⟨hs, fun v hv => ?_, fun v => ?_, fun v hv => ?_, fun v => ?_, fun v hv => ?_⟩, fun u hu => ?_, by simp, by simp, fun v r e u => ?_, fun u hu hn => ?_⟩
  · by_cases g : v = s
    · exact g
    · rw [hd v g] at hv; omega
  · by_cases g : v = s
    · rw [g, hs]; omega
    · rw [hd v g]; omega
  · by_cases g : v = s
    · subst g; exact ⟨h0, h1⟩
    · rw [hd v g] at hv; omega
  · rw [hc]
    by_cases g : v = s
    · rw [g, hs]; omega
    · rw [hd v g]; omega
  · by_cases g : v = s
    · rw [g, hs] at hv; omega
    · rw [hd v g] at hv; omega
  · obtain rfl : u = s := by simpa using hu
    rw [hs]; omega
  · obtain ⟨rfl, _⟩ : s = v ∧ [] = r := by simpa using e
    rw [hs]
    by_cases g : u = s
    · rw [g, hs]; omega
    · rw [hd u g]; omega
  · by_cases g : u = s
    · subst g; simp at hn
    · rw [hd u g] at hu; omega
theorem BfsO.pop {n : Nat} {A : List Arc} {L : List Int} {s : Int} {D : Int → Int} {v : Int} {Q : List Int} (h : BfsO n A L s D (v :: Q)) : BfsI n A L s D v Q 0 := by
  have hp := List.pairwise_cons.1 h.sorted
  refine ⟨h.lev, h.q v List.mem_cons_self, fun u hu => ⟨h.q u (List.mem_cons_of_mem _ hu), hp.1 u hu⟩, h.nd, hp.2, h.span v Q rfl, fun u hu hv hn => h.proc u hu (by simp [hv, hn]), fun j e hj => by omega⟩
theorem BfsI.pass {n : Nat} {A : List Arc} {L : List Int} {s : Int} {D : Int → Int} {v : Int} {Q : List Int} {k e : Nat} (h : BfsI n A L s D v Q k) (he : (outs A v)[k]? = some e) (hd : L.getD e 0 ≤ 0 ∨ 0 ≤ D (to A e)) : BfsI n A L s D v Q (k + 1) := by
  refine ⟨h.lev, h.cur, h.q, h.nd, h.sorted, h.span, h.proc, fun j e' hj hj' hx => ?_⟩
  by_cases g : j < k
  · exact h.seen j e' g hj' hx
  · obtain rfl : j = k := by omega
    rw [he] at hj'
    obtain rfl := Option.some.inj hj'
    rcases hd with g | g
    · omega
    · exact ⟨g, h.span _⟩
theorem BfsI.visit {n : Nat} {A : List Arc} {L : List Int} {s : Int} {D : Int → Int} {v : Int} {Q : List Int} {k e : Nat} (hA : inN n A) (h : BfsI n A L s D v Q k) (he : (outs A v)[k]? = some e) (hx : 0 < L.getD e 0) (hd : D (to A e) < 0) :
    BfsI n A L s (updI D (to A e) (D v + 1)) v (Q ++ [to A e]) (k + 1) := by
  obtain ⟨he1, he2⟩ := mem_outs.1 (List.mem_of_getElem? he)
  obtain ⟨i1, i2, i3, i4⟩ := inN_ends hA e he1
  have hcur := h.cur
  have hsame := updI_same D (to A e) (D v + 1)
  have hoth : ∀ u, u ≠ to A e → updI D (to A e) (D v + 1) u = D u := fun u hu => updI_other _ _ _ hu
  have hne : ∀ u, 0 ≤ D u → u ≠ to A e := fun u hu g => by subst g; omega
  have hv := hoth v (hne v hcur)
  have hge : ∀ u, D u ≤ updI D (to A e) (D v + 1) u := by
    intro u
    by_cases g : u = to A e
    · rw [g, hsame]; omega
    · rw [hoth u g]; omega
  have hc := cnt_upd n D (to A e) (D v + 1) i3 i4 hd (by omega)
  have hsp : ∀ u, updI D (to A e) (D v + 1) u ≤ D v + 1 := by
    intro u
    by_cases g : u = to A e
    · rw [g, hsame]; omega
    · rw [hoth u g]; exact h.span u
  refine ⟨⟨?_, fun u hu => ?_, fun u => ?_, fun u hu => ?_, fun u => ?_, fun u hu => ?_⟩, by rw [hv]; exact hcur, fun u hu => ?_, ?_, ?_, fun u => by rw [hv]; exact hsp u, fun u hu h1 h2 e' he' hf hx' => ?_, fun j e' hj hj' hx' => ?_⟩
  · rw [hoth s (hne s (by have := h.lev.src; omega))]; exact h.lev.src
  · by_cases g : u = to A e
    · rw [g, hsame] at hu; omega
    · rw [hoth u g] at hu; exact h.lev.zero u hu
  · have := h.lev.lo u; have := hge u; omega
  · by_cases g : u = to A e
    · subst g; exact ⟨i3, i4⟩
    · rw [hoth u g] at hu; exact h.lev.rng u hu
  · rw [hc]
    by_cases g : u = to A e
    · rw [g, hsame]; have := h.lev.hi v; omega
    · rw [hoth u g]; have := h.lev.hi u; omega
  · by_cases g : u = to A e
    · subst g
      refine ⟨e, he1, hx, rfl, ?_⟩
      rw [hsame, he2, hv]; omega
    · rw [hoth u g] at hu ⊢
      obtain ⟨e', k1, k2, k3, k4⟩ := h.lev.par u hu
      exact ⟨e', k1, k2, k3, by rw [hoth _ (hne _ (by omega))]; exact k4⟩
  · rcases List.mem_append.1 hu with g | g
    · have := h.q u g; rw [hoth u (hne u this.1), hv]; exact this
    · obtain rfl : u = to A e := by simpa using g
      rw [hsame, hv]; omega
  · have nd := h.nd
    rw [List.nodup_cons] at nd ⊢
    refine ⟨?_, ?_⟩
    · simp only [List.mem_append, List.mem_singleton, not_or]
      exact ⟨nd.1, hne v hcur⟩
    · rw [List.nodup_append]
      refine ⟨nd.2, by simp, fun a ha b hb => ?_⟩
      obtain rfl : b = to A e := by simpa using hb
      exact hne a (h.q a ha).1
  · rw [List.pairwise_append]
    refine ⟨?_, by simp, fun a ha b hb => ?_⟩
    · refine h.sorted.imp_of_mem fun {a b} ha hb hab => ?_
      rw [hoth a (hne a (h.q a ha).1), hoth b (hne b (h.q b hb).1)]; exact hab
    · obtain rfl : b = to A e := by simpa using hb
      rw [hsame]; exact hsp a
  · have hnq : u ∉ Q := fun g => h2 (List.mem_append_left _ g)
    have hnw : u ≠ to A e := fun g => h2 (by simp [g])
    rw [hoth u hnw] at hu ⊢
    obtain ⟨a, b⟩ := h.proc u hu h1 hnq e' he' hf hx'
    rw [hoth _ (hne _ a)]; exact ⟨a, b⟩
  · rw [hv]
    by_cases g : j < k
    · obtain ⟨a, b⟩ := h.seen j e' g hj' hx'
      rw [hoth _ (hne _ a)]; exact ⟨a, b⟩
    · obtain rfl : j = k := by omega
      rw [he] at hj'
      obtain rfl := Option.some.inj hj'
      rw [hsame]; omega
theorem BfsI.finish {n : Nat} {A : List Arc} {L : List Int} {s : Int} {D : Int → Int} {v : Int} {Q : List Int} {k : Nat} (h : BfsI n A L s D v Q k) (hk : (outs A v).length ≤ k) : BfsO n A L s D Q := by
  refine ⟨h.lev, fun u hu => (h.q u hu).1, (List.nodup_cons.1 h.nd).2, h.sorted, fun w r e u => ?_, fun u hu hn e he hf hx => ?_⟩
  · have := h.span u
    have := (h.q w (by rw [e]; exact List.mem_cons_self)).2
    omega
  · by_cases g : u = v
    · subst g
      have hm : e ∈ outs A u := mem_outs.2 ⟨he, hf⟩
      obtain ⟨j, hj, hje⟩ := List.getElem_of_mem hm
      exact h.seen j e (by omega) (by rw [List.getElem?_eq_getElem hj, hje]) hx
    · exact h.proc u hu g hn e he hf hx
theorem BfsO.dist {n : Nat} {A : List Arc} {L : List Int} {s : Int} {D : Int → Int} (h : BfsO n A L s D []) : Dist n A L s D := by
  have hc := (cnt_le n D).2
  refine ⟨h.lev.src, fun v _ _ hv => h.lev.zero v hv, fun v _ _ => h.lev.lo v, fun v _ _ => by have := h.lev.hi v; omega, fun e he hd hx => h.proc _ hd (by simp) e he rfl hx, fun v _ _ hv => h.lev.par v hv⟩
end Go.Proofs.Ytphebdmdbnpokaa.FM

