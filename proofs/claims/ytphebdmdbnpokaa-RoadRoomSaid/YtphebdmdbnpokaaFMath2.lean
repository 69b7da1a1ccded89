/- Plain laws of changed networks: an arc with a greater capacity, the reversed network, an arc in two parts; and of what the check of a flow and a side gives. -/
import Derived.Test.YtphebdmdbnpokaaFMath
set_option linter.unusedSimpArgs false
set_option linter.unusedVariables false
namespace Go.Proofs.Ytphebdmdbnpokaa.FM

theorem feas_len : ∀ {A : List Arc} {f : List Int}, feas A f → f.length = A.length
  | [], [], _ => rfl
  | _ :: _, _ :: _, h => by simp [feas_len h.2.2]
theorem feas_app : ∀ {A B : List Arc} {f g : List Int}, feas A f → feas B g → feas (A ++ B) (f ++ g)
  | [], _, [], _, _, h => h
  | _ :: _, _, _ :: _, _, h, k => ⟨h.1, h.2.1, feas_app h.2.2 k⟩
theorem exc_app : ∀ {A B : List Arc} {f g : List Int} (v : Int), f.length = A.length → exc (A ++ B) (f ++ g) v = exc A f v + exc B g v
  | [], _, [], _, v, _ => by simp [exc]
  | a :: A, B, x :: f, g, v, h => by
    have := exc_app (A := A) (B := B) (f := f) (g := g) v (by simpa using h)
    simp only [List.cons_append, exc, this]; omega
theorem closed_app : ∀ {A B : List Arc} {f g : List Int} {S : Int → Bool}, f.length = A.length → (closed (A ++ B) (f ++ g) S ↔ closed A f S ∧ closed B g S)
  | [], _, [], _, _, _ => by simp [closed]
  | a :: A, B, x :: f, g, S, h => by
    have := closed_app (A := A) (B := B) (f := f) (g := g) (S := S) (by simpa using h)
    simp only [List.cons_append, closed, this]
    constructor
    · rintro ⟨h1, h2, h3, h4⟩; exact ⟨⟨h1, h2, h3⟩, h4⟩
    · rintro ⟨⟨h1, h2, h3⟩, h4⟩; exact ⟨h1, h2, h3, h4⟩
/-- A list of arcs with the flow on each. -/
abbrev AF := List (Arc × Int)
def arcs (l : AF) : List Arc := l.map (·.1)
def flow (l : AF) : List Int := l.map (·.2)
theorem af_of {A : List Arc} {f : List Int} (h : f.length = A.length) : arcs (A.zip f) = A ∧ flow (A.zip f) = f := by
  constructor
  · exact List.map_fst_zip (show A.length ≤ f.length by omega)
  · exact List.map_snd_zip (show f.length ≤ A.length by omega)
def feas1 (p : Arc × Int) : Prop := 0 ≤ p.2 ∧ p.2 ≤ p.1.2.2
theorem feas_iff : ∀ (l : AF), feas (arcs l) (flow l) ↔ ∀ p ∈ l, feas1 p
  | [] => by simp [feas, arcs, flow]
  | p :: l => by
    have := feas_iff l
    simp only [arcs, flow, List.map_cons, feas] at *
    rw [this]
    simp only [List.mem_cons, forall_eq_or_imp, feas1, and_assoc]
def exc1 (p : Arc × Int) (v : Int) : Int := ind (p.1.1 == v) p.2 - ind (p.1.2.1 == v) p.2
theorem exc_sum : ∀ (l : AF) (v : Int), exc (arcs l) (flow l) v = (l.map fun p => exc1 p v).sum
  | [], v => by simp [exc, arcs, flow]
  | p :: l, v => by
    have := exc_sum l v
    simp only [arcs, flow, List.map_cons, exc, List.sum_cons] at *
    rw [this]; rfl
def closed1 (S : Int → Bool) (p : Arc × Int) : Prop := (S p.1.1 = true → p.2 < p.1.2.2 → S p.1.2.1 = true) ∧ (S p.1.2.1 = true → 0 < p.2 → S p.1.1 = true)
theorem closed_iff (S : Int → Bool) : ∀ (l : AF), closed (arcs l) (flow l) S ↔ ∀ p ∈ l, closed1 S p
  | [] => by simp [closed, arcs, flow]
  | p :: l => by
    have := closed_iff S l
    simp only [arcs, flow, List.map_cons, closed] at *
    rw [this]
    simp only [List.mem_cons, forall_eq_or_imp, closed1, and_assoc]
theorem cut_sum : ∀ (A : List Arc) (S : Int → Bool), cut A S = (A.map fun a => ind (S a.1 && !S a.2.1) a.2.2).sum
  | [], S => rfl
  | a :: A, S => by simp [cut, cut_sum A S]

theorem cross_not (S : Int → Bool) : ∀ (A : List Arc) (f : List Int), cross A f (fun v => !S v) = - cross A f S
  | [], _ => by simp [cross]
  | _ :: _, [] => by simp [cross]
  | a :: A, x :: f => by
    have := cross_not S A f
    simp only [cross, this]
    cases S a.1 <;> cases S a.2.1 <;> simp [ind] <;> omega
/-- The total of all excesses is 0. -/
theorem exc_ends {n : Nat} {A : List Arc} {f : List Int} {s t : Int} (hA : inN n A) (hs0 : 0 ≤ s) (hs1 : s < n) (ht0 : 0 ≤ t) (ht1 : t < n) (hst : s ≠ t) (hk : keeps A f s t) : exc A f t = - exc A f s := by
  have e1 : exc A f s = cross A f (fun v => !(v == t)) := value_cross hA hs0 hs1 hk (by simp; exact hst) (by simp)
  have e2 : exc A f t = cross A f (fun v => v == t) := value_cross (s := t) (t := s) hA ht0 ht1 (fun v h1 h2 => hk v h2 h1) (by simp) (by simp; exact hst)
  rw [e1, e2, cross_not]; omega

/-! The reversed network. -/
def flip (p : Arc × Int) : Arc × Int := ((p.1.2.1, p.1.1, p.1.2.2), p.2)
def backA (A : List Arc) : List Arc := (A.map fun a => (a.2.1, a.1, a.2.2)).reverse
theorem exc_flip (l : AF) (v : Int) : exc (arcs (l.map flip).reverse) (flow (l.map flip).reverse) v = - exc (arcs l) (flow l) v := by
  rw [exc_sum, exc_sum, List.map_reverse, List.sum_reverse]
  induction l with
  | nil => rfl
  | cons p l ih =>
    simp only [List.map_cons, List.sum_cons, ih]
    simp only [exc1, flip]; omega
theorem arcs_flip (l : AF) : arcs (l.map flip).reverse = backA (arcs l) := by
  simp only [arcs, backA, List.map_reverse, List.map_map]
  rfl
theorem backA_backA (A : List Arc) : backA (backA A) = A := by
  simp only [backA, List.map_reverse, List.reverse_reverse, List.map_map]
  exact (List.map_congr_left (g := id) (fun a _ => rfl)).trans (List.map_id _)
theorem inN_back {n : Nat} {A : List Arc} (h : inN n A) : inN n (backA A) := by
  intro a ha
  simp only [backA, List.mem_reverse, List.mem_map] at ha
  obtain ⟨b, hb, rfl⟩ := ha
  obtain ⟨h1, h2, h3, h4⟩ := h b hb
  exact ⟨h3, h4, h1, h2⟩
theorem back_flow {n : Nat} {A : List Arc} {f : List Int} {s t : Int} (hA : inN n A) (hs0 : 0 ≤ s) (hs1 : s < n) (ht0 : 0 ≤ t) (ht1 : t < n) (hst : s ≠ t) (hf : feas A f) (hk : keeps A f s t) :
    ∃ g, feas (backA A) g ∧ keeps (backA A) g t s ∧ exc (backA A) g t = exc A f s := by
  obtain ⟨e1, e2⟩ := af_of (feas_len hf)
  generalize A.zip f = l at e1 e2
  subst e1 e2
  refine ⟨flow (l.map flip).reverse, ?_, fun v h1 h2 => ?_, ?_⟩
  · rw [← arcs_flip]
    rw [feas_iff] at hf ⊢
    intro p hp
    simp only [List.mem_reverse, List.mem_map] at hp
    obtain ⟨q, hq, rfl⟩ := hp
    exact hf q hq
  · rw [← arcs_flip, exc_flip, hk v h2 h1]; rfl
  · rw [← arcs_flip, exc_flip, exc_ends hA hs0 hs1 ht0 ht1 hst hk]; omega
theorem turn_back {n : Nat} {A : List Arc} {s t : Int} {f g : List Int} {v w : Int} {R Q : Int → Bool} (hA : inN n A) (hs0 : 0 ≤ s) (hs1 : s < n) (ht0 : 0 ≤ t) (ht1 : t < n) (hst : s ≠ t)
    (h : MaxOf n A s t f v R) (k : MaxOf n (backA A) t s g w Q) : v = w := by
  obtain ⟨g1, a1, a2, a3⟩ := back_flow hA hs0 hs1 ht0 ht1 hst h.feas h.keeps
  have l1 := k.flow_le (inN_back hA) ht0 ht1 a1 a2
  obtain ⟨f1, b1, b2, b3⟩ := back_flow (inN_back hA) ht0 ht1 hs0 hs1 (fun e => hst e.symm) k.feas k.keeps
  rw [backA_backA] at b1 b2 b3
  have l2 := h.flow_le hA hs0 hs1 b1 b2
  rw [a3, h.value] at l1
  rw [b3, k.value] at l2
  omega

/-! An arc with a greater capacity. -/
theorem grows {n : Nat} {A B : List Arc} {a : Arc} {d : Int} {s t : Int} {f g : List Int} {v w : Int} {R Q : Int → Bool} (hA : inN n (A ++ a :: B)) (hs0 : 0 ≤ s) (hs1 : s < n) (hd : 0 ≤ d)
    (h : MaxOf n (A ++ a :: B) s t f v R) (k : MaxOf n (A ++ (a.1, a.2.1, a.2.2 + d) :: B) s t g w Q) : v ≤ w ∧ w ≤ v + d ∧ ((R a.1 && !R a.2.1) = false → w = v) := by
  have hA' : inN n (A ++ (a.1, a.2.1, a.2.2 + d) :: B) := by
    intro b hb
    rcases List.mem_append.1 hb with hb | hb
    · exact hA b (List.mem_append_left _ hb)
    · rcases List.mem_cons.1 hb with rfl | hb
      · exact hA a (List.mem_append_right _ List.mem_cons_self)
      · exact hA b (List.mem_append_right _ (List.mem_cons_of_mem _ hb))
  have ge : v ≤ w := by
    have fe : feas (A ++ (a.1, a.2.1, a.2.2 + d) :: B) f := by
      have hf := h.feas
      clear h k hA hA'
      induction A generalizing f with
      | nil => cases f with
        | nil => exact hf
        | cons x f => exact ⟨hf.1, by have := hf.2.1; show x ≤ a.2.2 + d; omega, hf.2.2⟩
      | cons b A ih => cases f with
        | nil => exact hf
        | cons x f => exact ⟨hf.1, hf.2.1, ih hf.2.2⟩
    have ex : ∀ u, exc (A ++ (a.1, a.2.1, a.2.2 + d) :: B) f u = exc (A ++ a :: B) f u := by
      intro u
      clear h k hA hA' fe
      induction A generalizing f with
      | nil => cases f <;> rfl
      | cons b A ih => cases f with
        | nil => rfl
        | cons x f => simp only [List.cons_append, exc, ih]
    have := k.flow_le hA' hs0 hs1 fe (fun u h1 h2 => by rw [ex]; exact h.keeps u h1 h2)
    rw [ex, h.value] at this
    exact this
  have cuts : cut (A ++ (a.1, a.2.1, a.2.2 + d) :: B) R = cut (A ++ a :: B) R + ind (R a.1 && !R a.2.1) d := by
    rw [cut_sum, cut_sum]
    simp only [List.map_append, List.map_cons, List.sum_append, List.sum_cons]
    cases R a.1 <;> cases R a.2.1 <;> simp [ind] <;> omega
  have le := k.le_cut hA' hs0 hs1 h.src h.snk
  rw [cuts, h.cut hA hs0 hs1] at le
  refine ⟨ge, ?_, fun e => ?_⟩
  · cases (R a.1 && !R a.2.1) <;> simp [ind] at le <;> omega
  · rw [e] at le; simp [ind] at le; omega

/-! An arc in two parts, and the list of arcs the other way round. -/
theorem sum_perm_rev (l : List Int) : l.reverse.sum = l.sum := List.sum_reverse l
def splitA (A B : List Arc) (a : Arc) (p : Int) : List Arc := B.reverse ++ (a.1, a.2.1, p) :: (a.1, a.2.1, a.2.2 - p) :: A.reverse
theorem maxOf_split {n : Nat} {A B : List Arc} {a : Arc} {p : Int} {s t : Int} {f : List Int} {v : Int} {R : Int → Bool} (hp0 : 0 ≤ p) (hp1 : p ≤ a.2.2) (h : MaxOf n (A ++ a :: B) s t f v R) :
    ∃ g, MaxOf n (splitA A B a p) s t g v R := by
  obtain ⟨e1, e2⟩ := af_of (feas_len h.feas)
  have hl := feas_len h.feas
  obtain ⟨la, y, lb, hla, hlb⟩ : ∃ (la : AF) (y : Int) (lb : AF), (A ++ a :: B).zip f = la ++ (a, y) :: lb ∧ arcs la = A ∧ arcs lb = B := by
    clear h e1 e2
    induction A generalizing f with
    | nil => cases f with
      | nil => simp at hl
      | cons y f =>
        refine ⟨[], y, B.zip f, rfl, rfl, ?_⟩
        simp only [arcs, List.map_fst_zip (show B.length ≤ f.length by simp at hl; omega)]
    | cons b A ih => cases f with
      | nil => simp at hl
      | cons y f =>
        obtain ⟨la, z, lb, h1, h2, h3⟩ := ih (f := f) (by simpa using hl)
        exact ⟨(b, y) :: la, z, lb, by simp [h1], by simp [arcs] at h2 ⊢; exact h2, h3⟩
  obtain ⟨hlb, hlc⟩ := hlb
  rw [hla] at e1 e2
  have hA : A ++ a :: B = arcs (la ++ (a, y) :: lb) := e1.symm
  have hf : f = flow (la ++ (a, y) :: lb) := e2.symm
  rw [hA, hf] at h
  let lg : AF := lb.reverse ++ ((a.1, a.2.1, p), min y p) :: ((a.1, a.2.1, a.2.2 - p), y - min y p) :: la.reverse
  have hg : arcs lg = splitA A B a p := by
    simp only [lg, arcs, splitA, List.map_append, List.map_cons, List.map_reverse, ← hlb, ← hlc]
  have fe := (feas_iff _).1 h.feas
  have fy : feas1 (a, y) := fe (a, y) (by simp)
  have fy0 : 0 ≤ y := fy.1
  have fy1 : y ≤ a.2.2 := fy.2
  have ex : ∀ u, exc (arcs lg) (flow lg) u = exc (arcs (la ++ (a, y) :: lb)) (flow (la ++ (a, y) :: lb)) u := by
    intro u
    rw [exc_sum, exc_sum]
    simp only [lg, List.map_append, List.map_cons, List.map_reverse, List.sum_append, List.sum_cons, List.sum_reverse]
    have : exc1 ((a.1, a.2.1, p), min y p) u + exc1 ((a.1, a.2.1, a.2.2 - p), y - min y p) u = exc1 (a, y) u := by
      simp only [exc1]
      cases (a.1 == u) <;> cases (a.2.1 == u) <;> simp [ind] <;> omega
    omega
  have cl : ∀ S, closed (arcs lg) (flow lg) S ↔ closed (arcs (la ++ (a, y) :: lb)) (flow (la ++ (a, y) :: lb)) S := by
    intro S
    rw [closed_iff, closed_iff]
    simp only [lg, List.mem_append, List.mem_reverse, List.mem_cons]
    constructor
    · intro hc q hq
      rcases hq with hq | rfl | hq
      · exact hc q (.inr (.inr (.inr hq)))
      · have c1 := hc _ (.inr (.inl rfl))
        have c2 := hc _ (.inr (.inr (.inl rfl)))
        simp only [closed1] at c1 c2 ⊢
        refine ⟨fun h1 h2 => ?_, fun h1 h2 => ?_⟩
        · by_cases g : min y p < p
          · exact c1.1 h1 g
          · exact c2.1 h1 (by omega)
        · by_cases g : 0 < min y p
          · exact c1.2 h1 g
          · exact c2.2 h1 (by omega)
      · exact hc q (.inl hq)
    · intro hc q hq
      rcases hq with hq | rfl | rfl | hq
      · exact hc q (.inr (.inr hq))
      · have c := hc _ (.inr (.inl rfl))
        simp only [closed1] at c ⊢
        exact ⟨fun h1 h2 => c.1 h1 (by omega), fun h1 h2 => c.2 h1 (by omega)⟩
      · have c := hc _ (.inr (.inl rfl))
        simp only [closed1] at c ⊢
        exact ⟨fun h1 h2 => c.1 h1 (by omega), fun h1 h2 => c.2 h1 (by omega)⟩
      · exact hc q (.inl hq)
  refine ⟨flow lg, ?_⟩
  rw [← hg]
  refine ⟨?_, fun u h1 h2 => by rw [ex]; exact h.keeps u h1 h2, by rw [ex]; exact h.value, h.src, h.snk, (cl _).2 h.closed, fun S h1 h2 => h.least S h1 ((cl _).1 h2)⟩
  rw [feas_iff]
  intro q hq
  simp only [lg, List.mem_append, List.mem_reverse, List.mem_cons] at hq
  rcases hq with hq | rfl | rfl | hq
  · exact fe q (by simp [hq])
  · simp only [feas1]; omega
  · simp only [feas1]; omega
  · exact fe q (by simp [hq])
theorem maxOf_rev {n : Nat} {A : List Arc} {s t : Int} {f : List Int} {v : Int} {R : Int → Bool} (h : MaxOf n A s t f v R) : ∃ g, MaxOf n A.reverse s t g v R := by
  obtain ⟨e1, e2⟩ := af_of (feas_len h.feas)
  generalize A.zip f = l at e1 e2
  subst e1 e2
  have hr : arcs l.reverse = (arcs l).reverse := by simp [arcs]
  have ex : ∀ u, exc (arcs l.reverse) (flow l.reverse) u = exc (arcs l) (flow l) u := by
    intro u
    rw [exc_sum, exc_sum, List.map_reverse, List.sum_reverse]
  have cl : ∀ S, closed (arcs l.reverse) (flow l.reverse) S ↔ closed (arcs l) (flow l) S := by
    intro S
    rw [closed_iff, closed_iff]; simp
  refine ⟨flow l.reverse, ?_⟩
  rw [← hr]
  refine ⟨?_, fun u h1 h2 => by rw [ex]; exact h.keeps u h1 h2, by rw [ex]; exact h.value, h.src, h.snk, (cl _).2 h.closed, fun S h1 h2 => h.least S h1 ((cl _).1 h2)⟩
  have fe := (feas_iff _).1 h.feas
  rw [feas_iff]
  intro q hq
  exact fe q (by simpa using hq)

/-- What the check of a flow and a side gives: both are extreme. -/
theorem check_extreme {n : Nat} {A : List Arc} {s t : Int} {f g : List Int} {v : Int} {R S : Int → Bool} (hA : inN n A) (hs0 : 0 ≤ s) (hs1 : s < n) (h : MaxOf n A s t f v R)
    (hg : feas A g) (kg : keeps A g s t) (hs : S s = true) (ht : S t = false) (e : exc A g s = cut A S) : exc A g s = v ∧ cut A S = v := by
  have a := h.flow_le hA hs0 hs1 hg kg
  have b := h.le_cut hA hs0 hs1 hs ht
  omega
end Go.Proofs.Ytphebdmdbnpokaa.FM
