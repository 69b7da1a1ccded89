/- Plain laws for the statements: a side as a list, and what a check that accepts gives. -/
import Derived.Test.YtanhhdfffggdmaaX6
namespace Go.Proofs.Ytanhhdfffggdmaa
open FM

theorem mem_sideL {n : Nat} {R : Int → Bool} {v : Int} : v ∈ sideL n R ↔ 0 ≤ v ∧ v < n ∧ R v = true := by
  unfold sideL
  simp only [List.mem_map, List.mem_filter, List.mem_range]
  constructor
  · rintro ⟨u, ⟨h1, h2⟩, rfl⟩
    exact ⟨by omega, by omega, h2⟩
  · rintro ⟨h0, h1, h2⟩
    obtain ⟨u, rfl⟩ := Int.eq_ofNat_of_zero_le h0
    exact ⟨u, ⟨by omega, h2⟩, rfl⟩
theorem sorted_get {l : List Int} (h : l.Pairwise (· < ·)) {k : Nat} (hk : k < l.length) (h0 : 0 < k) : l.getD (k - 1) 0 < l.getD k 0 := by
  have := List.pairwise_iff_getElem.1 h (k - 1) k (by omega) hk (by omega)
  simpa [List.getD_eq_getElem?_getD, hk, show k - 1 < l.length by omega] using this
theorem sideL_sorted (n : Nat) (R : Int → Bool) : (sideL n R).Pairwise (· < ·) := by
  unfold sideL
  rw [List.pairwise_map]
  refine List.Pairwise.filter _ ?_
  exact (List.pairwise_lt_range (n := n)).imp (fun h => by omega)
theorem asc_sideL (n : Nat) (R : Int → Bool) : asc n (sideL n R) := fun k hk => by
  have hm : (sideL n R).getD k 0 ∈ sideL n R := by
    rw [List.getD_eq_getElem?_getD, List.getElem?_eq_getElem hk]; exact List.getElem_mem hk
  obtain ⟨h0, h1, h2⟩ := mem_sideL.1 hm
  exact ⟨h0, h1, fun h => sorted_get (sideL_sorted n R) hk h⟩
theorem memB_sideL {n : Nat} {R : Int → Bool} {v : Int} (h0 : 0 ≤ v) (h1 : v < n) : memB (sideL n R) v = R v := by
  unfold memB
  cases h : R v with
  | true => exact decide_eq_true (mem_sideL.2 ⟨h0, h1, h⟩)
  | false => exact decide_eq_false (fun g => by rw [(mem_sideL.1 g).2.2] at h; cases h)
theorem cut_congr {n : Nat} {S T : Int → Bool} : ∀ {A : List Arc}, inN n A → (∀ v : Int, 0 ≤ v → v < n → S v = T v) → cut A S = cut A T
  | [], _, _ => rfl
  | a :: A, hA, h => by
    obtain ⟨h0, h1, h2, h3⟩ := hA a List.mem_cons_self
    have ih := cut_congr (A := A) (fun b hb => hA b (List.mem_cons_of_mem _ hb)) h
    simp only [cut, ih, h _ h0 h1, h _ h2 h3]
theorem exc_out {n : Nat} {v : Int} (hv : ¬ (0 ≤ v ∧ v < n)) : ∀ {A : List Arc} {f : List Int}, inN n A → exc A f v = 0
  | [], f, _ => by simp [exc]
  | a :: A, [], _ => by simp [exc]
  | a :: A, x :: f, hA => by
    obtain ⟨h0, h1, h2, h3⟩ := hA a List.mem_cons_self
    have ih := exc_out hv (A := A) (f := f) (fun b hb => hA b (List.mem_cons_of_mem _ hb))
    have e1 : (a.1 == v) = false := by simp; omega
    have e2 : (a.2.1 == v) = false := by simp; omega
    simp [exc, ih, e1, e2, ind]
theorem keeps_of {n : Nat} {A : List Arc} {f : List Int} {s t : Int} (hA : inN n A) (h : ∀ v : Nat, (v : Int) < n → (v : Int) ≠ s → (v : Int) ≠ t → exc A f v = 0) : keeps A f s t := fun v h1 h2 => by
  by_cases hv : 0 ≤ v ∧ v < n
  · obtain ⟨u, rfl⟩ := Int.eq_ofNat_of_zero_le hv.1
    exact h u hv.2 h1 h2
  · exact exc_out hv hA
theorem max_check {n : Nat} {A : List Arc} {s t : Int} {f : List Int} {v : Int} {R : Int → Bool} (hV : Valid n A s t) (h : MaxOf n A s t f v R) : CheckOk n A s t f (sideL n R) ∧ cut A (memB (sideL n R)) = v := by
  obtain ⟨hA, hcap⟩ := valid_facts hV
  obtain ⟨v1, v2, v3, _, v4, v5, v6, v7, v8⟩ := id hV
  have hc : cut A (memB (sideL n R)) = v := by
    rw [cut_congr hA (fun u h0 h1 => memB_sideL h0 h1)]; exact h.cut hA v4 v5
  refine ⟨⟨hV, feas_len h.feas, ⟨asc_sideL n R, mem_sideL.2 ⟨v4, v5, h.src⟩, fun g => ?_⟩, h.feas, fun u _ h1 h2 => h.keeps u h1 h2, by rw [hc]; exact h.value⟩, hc⟩
  have := (mem_sideL.1 g).2.2
  rw [h.snk] at this; cases this
theorem ok_extreme {n : Nat} {A : List Arc} {s t : Int} {f g side : List Int} {v : Int} {R : Int → Bool} (h : MaxOf n A s t f v R) (k : CheckOk n A s t g side) : exc A g s = v ∧ cut A (memB side) = v := by
  obtain ⟨hV, k1, k2, k3, k4, k5⟩ := k
  obtain ⟨hA, hcap⟩ := valid_facts hV
  obtain ⟨v1, v2, v3, _, v4, v5, v6, v7, v8⟩ := hV
  have hk := keeps_of hA k4
  have h1 := h.flow_le hA v4 v5 k3 hk
  have h2 := h.le_cut hA v4 v5 (S := memB side) (by exact decide_eq_true k2.2.1) (by exact decide_eq_false k2.2.2)
  omega
end Go.Proofs.Ytanhhdfffggdmaa
