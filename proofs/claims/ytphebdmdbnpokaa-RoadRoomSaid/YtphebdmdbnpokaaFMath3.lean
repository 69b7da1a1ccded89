/- Plain laws of what is left of a network beside a flow: an edge and its reverse for each arc; pushing along an edge; levels. -/
import Derived.Test.YtphebdmdbnpokaaFMath2
set_option linter.unusedSimpArgs false
set_option linter.unusedVariables false
namespace Go.Proofs.Ytphebdmdbnpokaa.FM

def dA : Arc := (0, 0, 0)
/-- Where the edge e comes from and leads to: the edges 2 i and 2 i + 1 are the arc i and its reverse. -/
def fr (A : List Arc) (e : Nat) : Int := if e % 2 = 0 then (A.getD (e / 2) dA).1 else (A.getD (e / 2) dA).2.1
def to (A : List Arc) (e : Nat) : Int := if e % 2 = 0 then (A.getD (e / 2) dA).2.1 else (A.getD (e / 2) dA).1
def mate (e : Nat) : Nat := if e % 2 = 0 then e + 1 else e - 1
/-- Each arc's two rests are together its capacity. -/
def Res : List Arc → List Int → Prop
  | a :: A, x :: y :: L => 0 ≤ x ∧ 0 ≤ y ∧ x + y = a.2.2 ∧ Res A L
  | [], [] => True
  | _, _ => False
def flowOf : List Arc → List Int → List Int
  | a :: A, x :: _ :: L => (a.2.2 - x) :: flowOf A L
  | _, _ => []
def push1 (L : List Int) (e : Nat) (g : Int) : List Int := (L.set e (L.getD e 0 - g)).set (mate e) (L.getD (mate e) 0 + g)

theorem Res.len : ∀ {A : List Arc} {L : List Int}, Res A L → L.length = 2 * A.length
  | [], [], _ => rfl
  | _ :: _, _ :: _ :: _, h => by simp [Res.len h.2.2.2]; omega
theorem Res.feas : ∀ {A : List Arc} {L : List Int}, Res A L → feas A (flowOf A L)
  | [], [], _ => trivial
  | a :: A, x :: y :: L, h => by
    obtain ⟨h0, h1, h2, h3⟩ := h
    exact ⟨by omega, by omega, h3.feas⟩
theorem fr_zero (a : Arc) (A : List Arc) : fr (a :: A) 0 = a.1 ∧ fr (a :: A) 1 = a.2.1 ∧ to (a :: A) 0 = a.2.1 ∧ to (a :: A) 1 = a.1 := by simp [fr, to]
theorem fr_succ (a : Arc) (A : List Arc) (e : Nat) : fr (a :: A) (e + 2) = fr A e ∧ to (a :: A) (e + 2) = to A e := by
  have h1 : (e + 2) % 2 = e % 2 := by omega
  have h2 : (e + 2) / 2 = e / 2 + 1 := by omega
  simp [fr, to, h1, h2]
theorem mate_succ (e : Nat) : mate (e + 2) = mate e + 2 := by
  have h1 : (e + 2) % 2 = e % 2 := by omega
  unfold mate; rw [h1]; split <;> omega
theorem mate_lt {e m : Nat} (h : e < 2 * m) : mate e < 2 * m := by unfold mate; split <;> omega
theorem mate_mate (e : Nat) : mate (mate e) = e := by unfold mate; split <;> split <;> omega
theorem mate_ne (e : Nat) : mate e ≠ e := by unfold mate; split <;> omega
theorem fr_mate (A : List Arc) (e : Nat) : fr A (mate e) = to A e ∧ to A (mate e) = fr A e := by
  unfold mate
  by_cases h : e % 2 = 0
  · rw [if_pos h]
    have h1 : (e + 1) % 2 ≠ 0 := by omega
    have h2 : (e + 1) / 2 = e / 2 := by omega
    simp [fr, to, h, h1, h2]
  · rw [if_neg h]
    have h1 : (e - 1) % 2 = 0 := by omega
    have h2 : (e - 1) / 2 = e / 2 := by omega
    simp [fr, to, h, h1, h2]
theorem push1_succ (x y : Int) (L : List Int) (e : Nat) (g : Int) : push1 (x :: y :: L) (e + 2) g = x :: y :: push1 L e g := by
  unfold push1
  rw [mate_succ]
  rfl
theorem push1_len (L : List Int) (e : Nat) (g : Int) : (push1 L e g).length = L.length := by simp [push1]
theorem push1_other (L : List Int) (e : Nat) (g : Int) (k : Nat) (h1 : k ≠ e) (h2 : k ≠ mate e) : (push1 L e g).getD k 0 = L.getD k 0 := by
  unfold push1
  simp only [List.getD_eq_getElem?_getD, List.getElem?_set_ne (fun h => h2 h.symm), List.getElem?_set_ne (fun h => h1 h.symm)]
theorem res_push : ∀ {A : List Arc} {L : List Int} {e : Nat} {g : Int}, Res A L → e < 2 * A.length → 0 ≤ g → g ≤ L.getD e 0 →
    Res A (push1 L e g) ∧ ∀ v, exc A (flowOf A (push1 L e g)) v = exc A (flowOf A L) v + ind (fr A e == v) g - ind (to A e == v) g
  | [], [], e, g, _, h, _, _ => by simp at h
  | a :: A, x :: y :: L, 0, g, h, _, h0, h1 => by
    obtain ⟨p0, p1, p2, p3⟩ := h
    have h1 : g ≤ x := h1
    obtain ⟨f1, f2, f3, f4⟩ := fr_zero a A
    refine ⟨⟨by show 0 ≤ x - g; omega, by show 0 ≤ y + g; omega, by show (x - g) + (y + g) = _; omega, p3⟩, fun v => ?_⟩
    rw [f1, f3]
    show ind (a.1 == v) (a.2.2 - (x - g)) - ind (a.2.1 == v) (a.2.2 - (x - g)) + exc A (flowOf A L) v = ind (a.1 == v) (a.2.2 - x) - ind (a.2.1 == v) (a.2.2 - x) + exc A (flowOf A L) v + _ - _
    cases (a.1 == v) <;> cases (a.2.1 == v) <;> simp [ind] <;> omega
  | a :: A, x :: y :: L, 1, g, h, _, h0, h1 => by
    obtain ⟨p0, p1, p2, p3⟩ := h
    have h1 : g ≤ y := h1
    obtain ⟨f1, f2, f3, f4⟩ := fr_zero a A
    refine ⟨⟨by show 0 ≤ x + g; omega, by show 0 ≤ y - g; omega, by show (x + g) + (y - g) = _; omega, p3⟩, fun v => ?_⟩
    rw [f2, f4]
    show ind (a.1 == v) (a.2.2 - (x + g)) - ind (a.2.1 == v) (a.2.2 - (x + g)) + exc A (flowOf A L) v = ind (a.1 == v) (a.2.2 - x) - ind (a.2.1 == v) (a.2.2 - x) + exc A (flowOf A L) v + _ - _
    cases (a.1 == v) <;> cases (a.2.1 == v) <;> simp [ind] <;> omega
  | a :: A, x :: y :: L, e + 2, g, h, hl, h0, h1 => by
    obtain ⟨p0, p1, p2, p3⟩ := h
    obtain ⟨r1, r2⟩ := res_push (e := e) p3 (by simp at hl; omega) h0 h1
    rw [push1_succ]
    refine ⟨⟨p0, p1, p2, r1⟩, fun v => ?_⟩
    rw [(fr_succ a A e).1, (fr_succ a A e).2]
    show ind (a.1 == v) (a.2.2 - x) - ind (a.2.1 == v) (a.2.2 - x) + exc A (flowOf A (push1 L e g)) v = ind (a.1 == v) (a.2.2 - x) - ind (a.2.1 == v) (a.2.2 - x) + exc A (flowOf A L) v + _ - _
    rw [r2 v]; omega
theorem Res.nonneg : ∀ {A : List Arc} {L : List Int}, Res A L → ∀ e, 0 ≤ L.getD e 0
  | [], [], _, e => by simp
  | a :: A, x :: y :: L, h, 0 => h.1
  | a :: A, x :: y :: L, h, 1 => h.2.1
  | a :: A, x :: y :: L, h, e + 2 => h.2.2.2.nonneg e
theorem closed_res (S : Int → Bool) : ∀ {A : List Arc} {L : List Int}, Res A L → (closed A (flowOf A L) S ↔ ∀ e, e < 2 * A.length → S (fr A e) = true → 0 < L.getD e 0 → S (to A e) = true)
  | [], [], _ => by simp [closed]
  | a :: A, x :: y :: L, h => by
    obtain ⟨p0, p1, p2, p3⟩ := h
    have ih := closed_res S p3
    obtain ⟨f1, f2, f3, f4⟩ := fr_zero a A
    simp only [flowOf, closed, ih]
    constructor
    · rintro ⟨h1, h2, h3⟩ e he hs hx
      match e, he, hs, hx with
      | 0, _, hs, hx =>
        rw [f1] at hs; rw [f3]
        have hx : 0 < x := hx
        exact h1 hs (by omega)
      | 1, _, hs, hx =>
        rw [f2] at hs; rw [f4]
        have hx : 0 < y := hx
        exact h2 hs (by omega)
      | e + 2, he, hs, hx =>
        rw [(fr_succ a A e).1] at hs; rw [(fr_succ a A e).2]
        exact h3 e (by simp at he; omega) hs hx
    · intro hc
      refine ⟨fun h1 h2 => ?_, fun h1 h2 => ?_, fun e he hs hx => ?_⟩
      · have := hc 0 (by simp) (by rw [f1]; exact h1) (by show 0 < x; omega)
        rw [f3] at this; exact this
      · have := hc 1 (by simp; omega) (by rw [f2]; exact h1) (by show 0 < y; omega)
        rw [f4] at this; exact this
      · have := hc (e + 2) (by simp; omega) (by rw [(fr_succ a A e).1]; exact hs) hx
        rw [(fr_succ a A e).2] at this; exact this
theorem inN_ends {n : Nat} {A : List Arc} (h : inN n A) (e : Nat) (he : e < 2 * A.length) : 0 ≤ fr A e ∧ fr A e < n ∧ 0 ≤ to A e ∧ to A e < n := by
  have hi : e / 2 < A.length := by omega
  have hm := h A[e / 2] (List.getElem_mem hi)
  have e1 : A.getD (e / 2) dA = A[e / 2] := by simp [List.getD, hi]
  unfold fr to
  rw [e1]
  obtain ⟨h1, h2, h3, h4⟩ := hm
  split <;> exact ⟨by assumption, by assumption, by assumption, by assumption⟩

/-- The distances from s over edges that can take more. -/
structure Dist (n : Nat) (A : List Arc) (L : List Int) (s : Int) (D : Int → Int) : Prop where
  src : D s = 0
  zero : ∀ v : Int, 0 ≤ v → v < n → D v = 0 → v = s
  lo : ∀ v : Int, 0 ≤ v → v < n → -1 ≤ D v
  hi : ∀ v : Int, 0 ≤ v → v < n → D v < n
  step : ∀ e, e < 2 * A.length → 0 ≤ D (fr A e) → 0 < L.getD e 0 → 0 ≤ D (to A e) ∧ D (to A e) ≤ D (fr A e) + 1
  par : ∀ v : Int, 0 ≤ v → v < n → 0 < D v → ∃ e, e < 2 * A.length ∧ 0 < L.getD e 0 ∧ to A e = v ∧ D (fr A e) = D v - 1
theorem max_of_dist {n : Nat} {A : List Arc} {L : List Int} {s t : Int} {D : Int → Int} {v : Int} (hA : inN n A) (hr : Res A L) (hk : keeps A (flowOf A L) s t) (hv : exc A (flowOf A L) s = v)
    (hs0 : 0 ≤ s) (hs1 : s < n) (h : Dist n A L s D) (ht : D t < 0) : MaxOf n A s t (flowOf A L) v (fun u => decide (0 ≤ u ∧ u < n ∧ 0 ≤ D u)) := by
  refine ⟨hr.feas, hk, hv, by simp [h.src, hs0, hs1], by simp; omega, ?_, fun S hS hc u hu => ?_⟩
  · rw [closed_res _ hr]
    intro e he hs hx
    obtain ⟨i1, i2, i3, i4⟩ := inN_ends hA e he
    have hs := of_decide_eq_true hs
    exact decide_eq_true ⟨i3, i4, (h.step e he hs.2.2 hx).1⟩
  · rw [closed_res _ hr] at hc
    replace hu := of_decide_eq_true hu
    obtain ⟨u0, u1, ud⟩ := hu
    obtain ⟨k, hk⟩ := Int.eq_ofNat_of_zero_le ud
    induction k generalizing u with
    | zero => rw [h.zero u u0 u1 hk]; exact hS
    | succ k ih =>
      obtain ⟨e, he, hx, rfl, hd⟩ := h.par u u0 u1 (by omega)
      obtain ⟨i1, i2, i3, i4⟩ := inN_ends hA e he
      exact hc e he (ih (fr A e) i1 i2 (by omega) (by omega)) hx

/-- The edges from a node, in order. -/
def outs (A : List Arc) (v : Int) : List Nat := (List.range (2 * A.length)).filter fun e => fr A e == v
theorem mem_outs {A : List Arc} {v : Int} {e : Nat} : e ∈ outs A v ↔ e < 2 * A.length ∧ fr A e = v := by simp [outs]
/-- The edges before the counter of a node lead no further. -/
def Tried (A : List Arc) (L : List Int) (t : Int) (D : Int → Int) (tr : Int → Nat) : Prop :=
  ∀ (v : Int) (j : Nat) (e : Nat), j < tr v → (outs A v)[j]? = some e → L.getD e 0 = 0 ∨ D (to A e) ≠ D v + 1 ∨ (to A e ≠ t ∧ tr (to A e) = (outs A (to A e)).length)
theorem tried_alive {n : Nat} {A : List Arc} {L : List Int} {s t : Int} {D : Int → Int} {tr : Int → Nat} (hA : inN n A) (h : Dist n A L s D) (hT : Tried A L t D tr) (ht0 : 0 ≤ t) (ht1 : t < n) (ht : 0 ≤ D t) (hst : s ≠ t)
    (hs : tr s = (outs A s).length) : False := by
  have key : ∀ (k : Nat) (u : Int), 0 ≤ u → u < n → D u = k → (u = t ∨ tr u ≠ (outs A u).length) → False := by
    intro k
    induction k with
    | zero =>
      intro u u0 u1 hd hu
      obtain rfl := h.zero u u0 u1 hd
      rcases hu with hu | hu
      · exact hst hu
      · exact hu hs
    | succ k ih =>
      intro u u0 u1 hd hu
      obtain ⟨e, he, hx, rfl, hp⟩ := h.par u u0 u1 (by omega)
      obtain ⟨i1, i2, i3, i4⟩ := inN_ends hA e he
      refine ih (fr A e) i1 i2 (by omega) (.inr fun hdead => ?_)
      have hm : e ∈ outs A (fr A e) := mem_outs.2 ⟨he, rfl⟩
      obtain ⟨j, hj, hje⟩ := List.getElem_of_mem hm
      rcases hT (fr A e) j e (by omega) (by rw [List.getElem?_eq_getElem hj, hje]) with g | g | ⟨g1, g2⟩
      · omega
      · omega
      · rcases hu with hu | hu
        · exact g1 hu
        · exact hu g2
  obtain ⟨k, hk⟩ := Int.eq_ofNat_of_zero_le ht
  exact key k t ht0 ht1 hk (.inl rfl)
end Go.Proofs.Ytphebdmdbnpokaa.FM
