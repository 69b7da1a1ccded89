/- A list of strings among the arguments, opened: its cells, and each string's length. -/
import Derived.SliceStrings
import Derived.SizedLaws
import Derived.Test.YtmnimcdbfolhaaaOpen
set_option linter.unusedSimpArgs false
set_option linter.unusedVariables false
namespace Go.Proofs.Ytmnimcdbfolhaaa
open Go.ChangeShapes Go.WideShapes Go.ChangeAt Go.RowKit Go.Deep
section
variable {H : Type} {enc : TypeId × Value → H} {P : Program} {w : World} {base : Nat} {spare : Nat → Bool} {held : Bool} {r : Reach} {b0 : Nat}
theorem weightsAll_mem {e : TypeId} : ∀ {ds : List (DataW H)} {d : DataW H}, d ∈ ds → ∀ n ∈ d.weights P e, n ∈ DataW.weightsAll P e ds
  | d0 :: ds, d, hd, n, hn => by
    simp only [DataW.weightsAll, List.mem_append]
    rcases List.mem_cons.1 hd with rfl | hd
    · exact .inl hn
    · exact .inr (weightsAll_mem hd n hn)
theorem open_strs_at {t e : TypeId} {v : Value} {d : DataW H} {p : List MemPlace} (ht : P.underlying t = some (.slice e)) (he : P.underlying e = some .string) (hc : P.cellsOf e = 1) (hv : Value.okWide P w r b0 t v) (h : DataW.Trod enc P w base spare held t v d p)
    {ts : List TypeId} {ds : List (DataW H)} (hz : (DataW.weightsEach P ts ds).all (· ≤ reachBytes) = true) {j : Nat} (hj : ts[j]? = some t) (hd : ds[j]? = some d) :
    ∃ (C : Option Addr) (len cc : Nat) (ss : List ByteArray), v = .slice C len cc ∧ ss.length = len ∧ len ≤ 9223372036854775807 ∧ (∀ s ∈ ss, s.size ≤ 140737488355328) ∧
      (0 < len → ∃ b o, C = some ⟨b, o, none⟩ ∧ b < w.heap.size ∧ ∀ i, i < len → w.cell? ⟨b, o + i, none⟩ = some (.string (ss.getD i ByteArray.empty))) := by
  obtain ⟨a0, len, cap, rfl⟩ := okWide_slice ht hv
  obtain ⟨fuel, hf⟩ := h
  rcases open_strings ht he hc hf with ⟨hcs, _⟩ | ⟨a, len', cap', ss, hcs, _, hl, hm, hlen, hx, hcell, _⟩
  · simp [Value.cells] at hcs
    obtain ⟨rfl, rfl, rfl⟩ := hcs
    exact ⟨none, 0, 0, [], rfl, rfl, by omega, (fun s hs => by cases hs), fun h => absurd h (by omega)⟩
  · simp [Value.cells] at hcs
    obtain ⟨rfl, rfl, rfl⟩ := hcs
    have hsl : len ≤ ss.length := by split at hlen <;> omega
    have htl : (ss.take len).length = len := by simp; omega
    unfold maxLen at hm
    injection hx with hx1 hx2
    refine ⟨some a, len, cap, ss.take len, rfl, htl, by omega, fun s hs => ?_, fun hpos => ?_⟩
    · have h1 := DataW.weights_mem_each (P := P) hj hd s.data.toList.length (by
        rw [hx1]
        simp only [DataW.weights, ht, List.mem_cons, List.mem_append]
        right; left
        exact weightsAll_mem (d := .lit (.string s.data.toList)) (by unfold strs; exact List.mem_map.2 ⟨s, hs, rfl⟩) _ (by simp [DataW.weights]))
      have h2 := List.all_eq_true.1 hz _ h1
      have h3 := reachBytes_lt
      have h4 : s.data.toList.length = s.size := by simp
      simp only [decide_eq_true_eq] at h2
      omega
    · obtain ⟨b, o, rfl, hb⟩ := addr_at (by have := hcell 0 (by omega); rwa [Addr.add_zero'] at this)
      refine ⟨b, o, rfl, hb, fun i hi => ?_⟩
      have := hcell i (by omega)
      rw [Addr.add_lit] at this
      rw [this]
      simp [List.getD_eq_getElem?_getD, List.getElem?_take_of_lt hi]
end
end Go.Proofs.Ytmnimcdbfolhaaa
