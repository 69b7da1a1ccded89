/- Joined of: RF. -/
import Derived.Test.YtphebdmdbnpokaaG04
import Derived.Test.YtphebdmdbnpokaaRM
/- Plain laws of the network of Room: its arcs, its value between naught and what people and shelters allow, and that it grows with roads and hours. -/
set_option linter.unusedSimpArgs false
set_option linter.unusedVariables false
namespace Go.Proofs.Ytphebdmdbnpokaa
open FM RD
/-- A number of people. -/
def lim (n : Int) : Int := min (max n 0) 1073741824
theorem lim_bd (n : Int) : 0 ≤ lim n ∧ lim n ≤ 1073741824 := by unfold lim; omega
def limH (n : Int) : Int := min (max n 0) 24
theorem limH_bd (n : Int) : 0 ≤ limH n ∧ limH n ≤ 24 := by unfold limH; omega
namespace RD
def townA (N : Nat) : Nat → List Tn → List Arc
  | _, [] => []
  | i, t :: l => ((N : Int), (i : Int), lim t.people) :: townA N (i + 1) l
def shA (N : Nat) : Nat → List Sh → List Arc
  | _, [] => []
  | i, t :: l => ((i : Int), (N : Int) + 1, lim t.room) :: shA N (i + 1) l
def roadA (op : Rd → Bool) (h : Int) (R : List Rd) : List Arc := (R.filter op).map fun r => (r.frm, r.to_, lim r.flow * h)
def net (N : Nat) (T : List Tn) (R : List Rd) (S : List Sh) (op : Rd → Bool) (h : Int) : List Arc := townA N 0 T ++ (roadA op h R ++ shA N T.length S)
def people (T : List Tn) : Int := (T.map fun t => lim t.people).sum
def rooms (S : List Sh) : Int := (S.map fun t => lim t.room).sum
theorem townA_len (N : Nat) : ∀ (i : Nat) (T : List Tn), (townA N i T).length = T.length
  | _, [] => rfl
  | i, t :: l => by simp [townA, townA_len N (i + 1) l]
theorem shA_len (N : Nat) : ∀ (i : Nat) (T : List Sh), (shA N i T).length = T.length
  | _, [] => rfl
  | i, t :: l => by simp [shA, shA_len N (i + 1) l]
theorem roadA_len (op : Rd → Bool) (h : Int) (R : List Rd) : (roadA op h R).length ≤ R.length := by unfold roadA; rw [List.length_map]; exact List.length_filter_le _ _
theorem townA_snoc (N : Nat) : ∀ (i : Nat) (T : List Tn) (k : Nat) (t : Tn), T[k]? = some t → townA N i (T.take (k + 1)) = townA N i (T.take k) ++ [((N : Int), ((i + k : Nat) : Int), lim t.people)]
  | _, [], k, t, h => by simp at h
  | i, x :: l, 0, t, h => by obtain rfl : x = t := (by simpa using h); rfl
  | i, x :: l, k + 1, t, h => by
    have ih := townA_snoc N (i + 1) l k t (by simpa using h)
    rw [List.take_succ_cons, List.take_succ_cons]
    simp only [townA, ih, List.cons_append]
    rw [show i + 1 + k = i + (k + 1) by omega]
theorem shA_snoc (N : Nat) : ∀ (i : Nat) (T : List Sh) (k : Nat) (t : Sh), T[k]? = some t → shA N i (T.take (k + 1)) = shA N i (T.take k) ++ [(((i + k : Nat) : Int), (N : Int) + 1, lim t.room)]
  | _, [], k, t, h => by simp at h
  | i, x :: l, 0, t, h => by obtain rfl : x = t := (by simpa using h); rfl
  | i, x :: l, k + 1, t, h => by
    have ih := shA_snoc N (i + 1) l k t (by simpa using h)
    rw [List.take_succ_cons, List.take_succ_cons]
    simp only [shA, ih, List.cons_append]
    rw [show i + 1 + k = i + (k + 1) by omega]
theorem roadA_snoc (op : Rd → Bool) (h : Int) (R : List Rd) (r : Rd) : roadA op h (R ++ [r]) = if op r = true then roadA op h R ++ [(r.frm, r.to_, lim r.flow * h)] else roadA op h R := by
  unfold roadA
  rw [List.filter_append]
  by_cases e : op r = true
  · rw [if_pos e]; simp [e]
  · rw [if_neg e]; simp [e]
theorem townA_mem (N : Nat) : ∀ (i : Nat) (T : List Tn) (a : Arc), a ∈ townA N i T → a.1 = N ∧ (i : Int) ≤ a.2.1 ∧ a.2.1 < i + T.length ∧ 0 ≤ a.2.2 ∧ a.2.2 ≤ 1073741824
  | _, [], a, h => by cases h
  | i, t :: l, a, h => by
    rcases List.mem_cons.1 h with rfl | h
    · have := lim_bd t.people
      simp; omega
    · have := townA_mem N (i + 1) l a h
      simp; omega
theorem shA_mem (N : Nat) : ∀ (i : Nat) (T : List Sh) (a : Arc), a ∈ shA N i T → a.2.1 = (N : Int) + 1 ∧ (i : Int) ≤ a.1 ∧ a.1 < i + T.length ∧ 0 ≤ a.2.2 ∧ a.2.2 ≤ 1073741824
  | _, [], a, h => by cases h
  | i, t :: l, a, h => by
    rcases List.mem_cons.1 h with rfl | h
    · have := lim_bd t.room
      simp; omega
    · have := shA_mem N (i + 1) l a h
      simp; omega
theorem cap_road {f h : Int} (h0 : 0 ≤ h) (h1 : h ≤ 24) : 0 ≤ lim f * h ∧ lim f * h ≤ 25769803776 := by
  obtain ⟨a, b⟩ := lim_bd f
  refine ⟨Int.mul_nonneg a h0, ?_⟩
  have := Int.mul_le_mul b h1 h0 (by omega)
  omega
theorem roadA_mem {N P : Nat} {op : Rd → Bool} {h : Int} (hop : ∀ r, op r = true → usableB N P r = true) (h0 : 0 ≤ h) (h1 : h ≤ 24) {R : List Rd} {a : Arc} (ha : a ∈ roadA op h R) : 0 ≤ a.1 ∧ a.1 < N ∧ 0 ≤ a.2.1 ∧ a.2.1 < N ∧ 0 ≤ a.2.2 ∧ a.2.2 ≤ 25769803776 := by
  unfold roadA at ha
  obtain ⟨r, hr, rfl⟩ := List.mem_map.1 ha
  have hu := usable_iff.1 (hop r (List.mem_filter.1 hr).2)
  have := cap_road (f := r.flow) h0 h1
  exact ⟨hu.1, hu.2.1, hu.2.2.1, hu.2.2.2.1, this.1, this.2⟩
section
variable {N P : Nat} {T : List Tn} {R : List Rd} {S : List Sh} {op op' : Rd → Bool} {h h' : Int}
theorem net_mem (hN : N = T.length + S.length) (hop : ∀ r, op r = true → usableB N P r = true) (h0 : 0 ≤ h) (h1 : h ≤ 24) {a : Arc} (ha : a ∈ net N T R S op h) : 0 ≤ a.1 ∧ a.1 < (N + 2 : Nat) ∧ 0 ≤ a.2.1 ∧ a.2.1 < (N + 2 : Nat) ∧ 0 ≤ a.2.2 ∧ a.2.2 ≤ 1125899906842624 := by
  unfold net at ha
  rcases List.mem_append.1 ha with ha | ha
  · have := townA_mem N 0 T a ha; omega
  · rcases List.mem_append.1 ha with ha | ha
    · have := roadA_mem hop h0 h1 ha; omega
    · have := shA_mem N T.length S a ha; omega
theorem net_len : (net N T R S op h).length ≤ T.length + R.length + S.length := by
  unfold net
  rw [List.length_append, List.length_append, townA_len, shA_len]
  have := roadA_len op h R; omega
theorem cut_app (A B : List Arc) (Q : Int → Bool) : cut (A ++ B) Q = cut A Q + cut B Q := by
  rw [cut_sum, cut_sum, cut_sum, List.map_append, List.sum_append]
theorem cut_zero {A : List Arc} {Q : Int → Bool} (h : ∀ a ∈ A, (Q a.1 && !Q a.2.1) = false) : cut A Q = 0 := by
  induction A with
  | nil => rfl
  | cons a A ih =>
    rw [cut_sum, List.map_cons, List.sum_cons, h a List.mem_cons_self, ← cut_sum, ih fun b hb => h b (List.mem_cons_of_mem _ hb)]
    rfl
theorem cut_towns (N : Nat) : ∀ (i : Nat) (T : List Tn), i + T.length ≤ N → cut (townA N i T) (fun v => v == (N : Int)) = people T
  | _, [], _ => rfl
  | i, t :: l, hi => by
    have ih := cut_towns N (i + 1) l (by simp at hi; omega)
    simp at hi
    have e : ((i : Int) == (N : Int)) = false := by rw [beq_eq_false_iff_ne]; omega
    simp only [townA, cut, people, List.map_cons, List.sum_cons, ih, e]
    simp [ind, people]
theorem cut_shs (N : Nat) : ∀ (i : Nat) (S : List Sh), i + S.length ≤ N → cut (shA N i S) (fun v => v != (N : Int) + 1) = rooms S
  | _, [], _ => rfl
  | i, t :: l, hi => by
    have ih := cut_shs N (i + 1) l (by simp at hi; omega)
    simp at hi
    have e : ((i : Int) != (N : Int) + 1) = true := by rw [bne_iff_ne]; omega
    simp only [shA, cut, rooms, List.map_cons, List.sum_cons, ih, e]
    simp [ind, rooms]
/-- The value is at most the number of all people, and at most the room of all shelters. -/
theorem net_bounds (hN : N = T.length + S.length) (hop : ∀ r, op r = true → usableB N P r = true) (h0 : 0 ≤ h) (h1 : h ≤ 24) {f : List Int} {v : Int} {Q : Int → Bool} (m : MaxOf (N + 2) (net N T R S op h) N ((N : Int) + 1) f v Q) : v ≤ people T ∧ v ≤ rooms S := by
  have hA : inN (N + 2) (net N T R S op h) := fun a ha => by have := net_mem hN hop h0 h1 ha; omega
  constructor
  · have := m.le_cut hA (by omega) (by omega) (S := fun v => v == (N : Int)) (by simp) (by rw [beq_eq_false_iff_ne]; omega)
    unfold net at this
    rw [cut_app, cut_app, cut_towns N 0 T (by omega), cut_zero (A := roadA op h R), cut_zero (A := shA N T.length S)] at this
    · omega
    · intro a ha
      have := shA_mem N T.length S a ha
      rw [show (a.1 == (N : Int)) = false by rw [beq_eq_false_iff_ne]; omega]; rfl
    · intro a ha
      have := roadA_mem hop h0 h1 ha
      rw [show (a.1 == (N : Int)) = false by rw [beq_eq_false_iff_ne]; omega]; rfl
  · have := m.le_cut hA (by omega) (by omega) (S := fun v => v != (N : Int) + 1) (by rw [bne_iff_ne]; omega) (by simp)
    unfold net at this
    rw [cut_app, cut_app, cut_shs N T.length S (by omega), cut_zero (A := roadA op h R), cut_zero (A := townA N 0 T)] at this
    · omega
    · intro a ha
      have := townA_mem N 0 T a ha
      rw [show (a.2.1 != (N : Int) + 1) = true by rw [bne_iff_ne]; omega]; simp
    · intro a ha
      have := roadA_mem hop h0 h1 ha
      rw [show (a.2.1 != (N : Int) + 1) = true by rw [bne_iff_ne]; omega]; simp
/-- A flow over some roads is one over more roads and hours. -/
theorem road_lift (hop : ∀ r, op r = true → op' r = true) (hh : h ≤ h') (h0 : 0 ≤ h) : ∀ (R : List Rd) (f : List Int), feas (roadA op h R) f → ∃ g, feas (roadA op' h' R) g ∧ ∀ v, exc (roadA op' h' R) g v = exc (roadA op h R) f v
  | [], f, hf => ⟨f, hf, fun _ => rfl⟩
  | r :: R, f, hf => by
    have le : lim r.flow * h ≤ lim r.flow * h' := Int.mul_le_mul_of_nonneg_left hh (lim_bd _).1
    have nn : 0 ≤ lim r.flow * h := Int.mul_nonneg (lim_bd _).1 h0
    by_cases e : op r = true
    · have e1 : roadA op h (r :: R) = (r.frm, r.to_, lim r.flow * h) :: roadA op h R := by simp [roadA, e]
      have e2 : roadA op' h' (r :: R) = (r.frm, r.to_, lim r.flow * h') :: roadA op' h' R := by simp [roadA, hop r e]
      rw [e1] at hf ⊢
      rw [e2]
      cases f with
      | nil => exact absurd hf (by simp [feas])
      | cons x f =>
        obtain ⟨g, g1, g2⟩ := road_lift hop hh h0 R f hf.2.2
        exact ⟨x :: g, ⟨hf.1, by have := hf.2.1; show x ≤ lim r.flow * h'; exact Int.le_trans this le, g1⟩, fun v => by simp only [exc, g2]⟩
    · have e1 : roadA op h (r :: R) = roadA op h R := by simp [roadA, e]
      rw [e1] at hf ⊢
      obtain ⟨g, g1, g2⟩ := road_lift hop hh h0 R f hf
      by_cases e' : op' r = true
      · have e2 : roadA op' h' (r :: R) = (r.frm, r.to_, lim r.flow * h') :: roadA op' h' R := by simp [roadA, e']
        rw [e2]
        exact ⟨0 :: g, ⟨Int.le_refl _, Int.le_trans nn le, g1⟩, fun v => by simp only [exc, g2]; unfold ind; split <;> split <;> omega⟩
      · have e2 : roadA op' h' (r :: R) = roadA op' h' R := by simp [roadA, e']
        rw [e2]
        exact ⟨g, g1, g2⟩
theorem feas_split : ∀ {A B : List Arc} {f : List Int}, feas (A ++ B) f → ∃ g k, f = g ++ k ∧ feas A g ∧ feas B k
  | [], B, f, h => ⟨[], f, rfl, trivial, h⟩
  | a :: A, B, [], h => absurd h (by simp [feas])
  | a :: A, B, x :: f, h => by
    obtain ⟨g, k, e, h1, h2⟩ := feas_split (A := A) (B := B) (f := f) h.2.2
    exact ⟨x :: g, k, by rw [e]; rfl, ⟨h.1, h.2.1, h1⟩, h2⟩
/-- More roads, more hours: the value is not less. -/
theorem net_mono (hN : N = T.length + S.length) (hop : ∀ r, op r = true → op' r = true) (hop' : ∀ r, op' r = true → usableB N P r = true) (h0 : 0 ≤ h) (hh : h ≤ h') (h1 : h' ≤ 24) {f f' : List Int} {v v' : Int} {Q Q' : Int → Bool}
    (m : MaxOf (N + 2) (net N T R S op h) N ((N : Int) + 1) f v Q) (m' : MaxOf (N + 2) (net N T R S op' h') N ((N : Int) + 1) f' v' Q') : v ≤ v' := by
  have hA : inN (N + 2) (net N T R S op' h') := fun a ha => by have := net_mem hN hop' (by omega) h1 ha; omega
  have hf := m.feas
  unfold net at hf
  obtain ⟨a, b, e1, ha, hb⟩ := feas_split hf
  obtain ⟨c, d, e2, hc, hd⟩ := feas_split hb
  obtain ⟨g, g1, g2⟩ := road_lift hop hh h0 R c hc
  have hex : ∀ u, exc (net N T R S op' h') (a ++ (g ++ d)) u = exc (net N T R S op h) f u := fun u => by
    unfold net
    rw [e1, e2, exc_app u (feas_len ha), exc_app u (feas_len ha), exc_app u (feas_len g1), exc_app u (feas_len hc), g2]
  have := m'.flow_le hA (by omega) (by omega) (g := a ++ (g ++ d)) (feas_app ha (feas_app g1 hd)) (fun u h1 h2 => by rw [hex]; exact m.keeps u h1 h2)
  rw [hex, m.value] at this
  exact this
end
end RD
end Go.Proofs.Ytphebdmdbnpokaa

