/- Joined of: BF. -/
import Derived.Test.YtphebdmdbnpokaaG12
/- The reference's search: improve as long as possible; what stands at the end is the arrivals. -/
set_option linter.unusedSimpArgs false
set_option linter.unusedVariables false
namespace Go.Proofs.Ytphebdmdbnpokaa
namespace RD
def asg (D : List Int) : Nat := (D.map fun x => if x < 0 then 0 else 1).sum
def pot (K : Nat) (D : List Int) : Nat := (D.map fun x => if x < 0 then K else x.toNat).sum
theorem asg_set : ∀ (D : List Int) (i : Nat) (x : Int), i < D.length → 0 ≤ x → (D.getD i (-1) < 0 → asg (D.set i x) = asg D + 1) ∧ (0 ≤ D.getD i (-1) → asg (D.set i x) = asg D)
  | [], i, x, h, _ => by simp at h
  | y :: D, 0, x, _, h0 => by
    simp only [List.set_cons_zero, asg, List.map_cons, List.sum_cons, List.getD_cons_zero]
    rw [if_neg (show ¬ x < 0 by omega)]
    refine ⟨fun h => by rw [if_pos h]; omega, fun h => by rw [if_neg (by omega)]⟩
  | y :: D, i + 1, x, h, h0 => by
    have ih := asg_set D i x (by simpa using h) h0
    simp only [List.set_cons_succ, List.getD_cons_succ]
    have e : ∀ E : List Int, asg (y :: E) = (if y < 0 then 0 else 1) + asg E := fun E => by simp [asg]
    rw [e, e]
    exact ⟨fun g => by rw [ih.1 g]; omega, fun g => by rw [ih.2 g]⟩
theorem asg_le : ∀ (D : List Int), asg D ≤ D.length
  | [] => by simp [asg]
  | y :: D => by
    have ih := asg_le D
    have e : asg (y :: D) = (if y < 0 then 0 else 1) + asg D := by simp [asg]
    rw [e, List.length_cons]; split <;> omega
theorem pot_set (K : Nat) : ∀ (D : List Int) (i : Nat) (x : Int), i < D.length → 0 ≤ x → (D.getD i (-1) < 0 ∧ x.toNat < K ∨ x < D.getD i (-1)) → pot K (D.set i x) < pot K D
  | [], i, x, h, _, _ => by simp at h
  | y :: D, 0, x, _, h0, h => by
    have e : ∀ z (E : List Int), pot K (z :: E) = (if z < 0 then K else z.toNat) + pot K E := fun z E => by simp [pot]
    simp only [List.set_cons_zero, List.getD_cons_zero] at h ⊢
    rw [e, e, if_neg (show ¬ x < 0 by omega)]
    split <;> omega
  | y :: D, i + 1, x, h, h0, hx => by
    have ih := pot_set K D i x (by simpa using h) h0 (by simpa using hx)
    have e : ∀ z (E : List Int), pot K (z :: E) = (if z < 0 then K else z.toNat) + pot K E := fun z E => by simp [pot]
    simp only [List.set_cons_succ]
    rw [e, e]; omega
section
variable (N P : Nat) (VS : Vs) (R : List Rd) (town : Nat)
structure BF (D : List Int) : Prop where
  len : D.length = N
  sound : ∀ v, v < N → D.getD v (-1) = -1 ∨ ∃ h : Nat, D.getD v (-1) = h ∧ At N P VS R town v h
  town : D.getD town (-1) = 0
  bound : ∀ v, v < N → D.getD v (-1) ≤ ((VS.length + 24 * asg D : Nat) : Int)
/-- A road that improves nothing. -/
def Fine (D : List Int) (r : Rd) : Prop := usableB N P r = true → ∀ b t : Nat, D.getD r.frm.toNat (-1) = b → IsLeave VS r b t → 0 ≤ D.getD r.to_.toNat (-1) ∧ D.getD r.to_.toNat (-1) ≤ ((t + r.hours.toNat : Nat) : Int)
end
section
variable {N P : Nat} {VS : Vs} {R : List Rd} {town : Nat} {D : List Int}
theorem bf_set {D : List Int} {i : Nat} {x : Int} (h : i < D.length) (v : Nat) : (D.set i x).getD v (-1) = if v = i then x else D.getD v (-1) := by
  rw [List.getD_eq_getElem?_getD, List.getElem?_set, List.getD_eq_getElem?_getD]
  by_cases e : i = v
  · subst e; rw [if_pos rfl, if_pos h, if_pos rfl]; rfl
  · rw [if_neg e, if_neg (fun q => e q.symm)]
theorem BF.le_of_at (h : BF N P VS R town D) (all : ∀ r ∈ R, Fine N P VS D r) {v k : Nat} (a : At N P VS R town v k) : 0 ≤ D.getD v (-1) ∧ D.getD v (-1) ≤ k := by
  induction a with
  | start => rw [h.town]; omega
  | @go r a t h1 h2 _ h4 h5 ih =>
    obtain ⟨b, hb⟩ := Int.eq_ofNat_of_zero_le ih.1
    obtain ⟨u, hu, hut⟩ := leave_of (a := b) (by have := ih.2; omega) h5
    have := all r h1 h2 b u hb hu
    omega
theorem BF.done (h : BF N P VS R town D) (all : ∀ r ∈ R, Fine N P VS D r) {v : Nat} (hv : v < N) : D.getD v (-1) = arr N P VS R town v := by
  rcases h.sound v hv with e | ⟨k, e, a⟩
  · rw [e, arr_none]
    intro k hk
    have := (h.le_of_at all hk).1
    omega
  · rw [e, arr_is ⟨a, fun m hm => by have := (h.le_of_at all hm).2; omega⟩]
theorem BF.step (h : BF N P VS R town D) {r : Rd} (hr : r ∈ R) (hu : usableB N P r = true) {b t : Nat} (hb : D.getD r.frm.toNat (-1) = b) (ht : IsLeave VS r b t) (hx : D.getD r.to_.toNat (-1) < 0 ∨ ((t + r.hours.toNat : Nat) : Int) < D.getD r.to_.toNat (-1)) (hT : town < N) :
    BF N P VS R town (D.set r.to_.toNat ((t + r.hours.toNat : Nat) : Int)) ∧ pot (VS.length + 24 * N + 1) (D.set r.to_.toNat ((t + r.hours.toNat : Nat) : Int)) < pot (VS.length + 24 * N + 1) D ∧ t + r.hours.toNat ≤ VS.length + 24 * N := by
  have hu' := usable_iff.1 hu
  obtain ⟨i, hi⟩ : ∃ i, r.to_.toNat = i := ⟨_, rfl⟩
  obtain ⟨x, hxx⟩ : ∃ x, t + r.hours.toNat = x := ⟨_, rfl⟩
  rw [hi, hxx] at hx ⊢
  have hiN : i < N := by omega
  have hil : i < D.length := by rw [h.len]; exact hiN
  have hx1 : 1 ≤ x := by omega
  have hbd := h.bound r.frm.toNat (by omega)
  have htb := ht.bound
  have hal := asg_le D
  have has := asg_set D i x hil (by omega)
  have hatx : At N P VS R town i x := by
    rcases h.sound r.frm.toNat (by omega) with e | ⟨k, e, a⟩
    · omega
    · have := At.go hr hu a (t := t) (by have := ht.1; omega) ht.2.1
      rw [hi, hxx] at this; exact this
  have hit : i ≠ town := by
    rintro rfl
    have := h.town; omega
  have hxb : (x : Int) ≤ ((VS.length + 24 * asg (D.set i (x : Int)) : Nat) : Int) ∧ (∀ v, v < N → D.getD v (-1) ≤ ((VS.length + 24 * asg (D.set i (x : Int)) : Nat) : Int)) := by
    rcases hx with hx | hx
    · rw [has.1 hx]
      exact ⟨by omega, fun v hv => by have := h.bound v hv; omega⟩
    · rw [has.2 (by omega)]
      have := h.bound i hiN
      exact ⟨by omega, fun v hv => h.bound v hv⟩
  have hsl := asg_le (D.set i (x : Int))
  rw [List.length_set, h.len] at hsl
  refine ⟨⟨by rw [List.length_set]; exact h.len, fun v hv => ?_, ?_, fun v hv => ?_⟩, pot_set _ D i x hil (by omega) ?_, by have := hxb.1; omega⟩
  · rw [bf_set hil]
    by_cases e : v = i
    · rw [if_pos e, e]; exact .inr ⟨x, rfl, hatx⟩
    · rw [if_neg e]; exact h.sound v hv
  · rw [bf_set hil, if_neg (fun q => hit q.symm)]; exact h.town
  · rw [bf_set hil]
    by_cases e : v = i
    · rw [if_pos e]; exact hxb.1
    · rw [if_neg e]; exact hxb.2 v hv
  · rcases hx with hx | hx
    · exact .inl ⟨hx, by have := hxb.1; omega⟩
    · exact .inr hx
theorem BF.begin (hT : town < N) : BF N P VS R town ((List.replicate N (-1)).set town 0) := by
  have e : ∀ v, (List.replicate N (-1 : Int)).getD v (-1) = -1 := fun v => by
    rw [List.getD_eq_getElem?_getD, List.getElem?_replicate]; split <;> rfl
  have hl : town < (List.replicate N (-1 : Int)).length := by simpa using hT
  refine ⟨by simp, fun v hv => ?_, by rw [bf_set hl, if_pos rfl], fun v hv => ?_⟩
  · rw [bf_set hl]
    by_cases q : v = town
    · rw [if_pos q, q]; exact .inr ⟨0, rfl, .start⟩
    · rw [if_neg q, e]; exact .inl rfl
  · rw [bf_set hl]
    split
    · omega
    · rw [e]; omega
theorem BF.val_le (h : BF N P VS R town D) {v : Nat} (hv : v < N) : D.getD v (-1) ≤ ((VS.length + 24 * N : Nat) : Int) := by
  have := h.bound v hv
  have := asg_le D
  rw [h.len] at this
  omega
end
end RD
end Go.Proofs.Ytphebdmdbnpokaa

