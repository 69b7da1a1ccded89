/- A list of strings as an argument. -/
import Derived.Test.YtmnimcdbfolhaaaR0
import Derived.Test.YtmnimcdbfolhaaaOpenStrs
import Derived.Test.YtmnimcdbfolhaaaSM
set_option linter.unusedSimpArgs false
set_option linter.unusedVariables false
namespace Go.Proofs.Ytmnimcdbfolhaaa
open Go.ChangeShapes Go.WideShapes Go.ChangeAt Go.RowKit Go.Deep DK
theorem wf_le {a : Int} (h : (Lit.int .i64 a).wf = true) : a ≤ 9223372036854775807 := by
  simp only [Lit.wf, IntKind.min, IntKind.max, IntKind.signed, IntKind.bits, Bool.and_eq_true, decide_eq_true_eq, if_true] at h
  omega
theorem cellsStr : Try.prog.cellsOf 9 = 1 := by kernel_rfl
section
variable {H : Type} {enc : TypeId × Value → H} {w : World} {base : Nat} {spare : Nat → Bool} {held : Bool} {r : Reach} {b0 : Nat}
set_option maxRecDepth 100000 in
theorem open_strs {v : Value} {d : DataW H} {p : List MemPlace} (hv : Value.okWide Try.prog w r b0 22 v) (h : DataW.Trod enc Try.prog w base spare held 22 v d p)
    {ts : List TypeId} {ds : List (DataW H)} (hz : (DataW.weightsEach Try.prog ts ds).all (· ≤ reachBytes) = true) {j : Nat} (hj : ts[j]? = some 22) (hd : ds[j]? = some d) :
    ∃ (C : Option Addr) (cc : Nat) (l : List Bts), v = .slice C l.length cc ∧ l.length ≤ 9223372036854775807 ∧ Hid (∀ x ∈ l, x.length ≤ 140737488355328) ∧ StrsAt w w.heap.size C l := by
  obtain ⟨C, len, cc, ss, rfl, hs, hl, hb, hc⟩ := open_strs_at Try.underlying22 Try.underlying9 cellsStr hv h hz hj hd
  have hml : (ss.map fun s => s.data.toList).length = len := by rw [List.length_map, hs]
  refine ⟨C, cc, ss.map fun s => s.data.toList, by rw [hml], by rw [hml]; exact hl, fun x hx => ?_, fun hp => ?_⟩
  · obtain ⟨s, hs, rfl⟩ := List.mem_map.1 hx
    have := hb s hs
    have h4 : s.data.toList.length = s.size := by simp
    omega
  · rw [hml] at hp ⊢
    obtain ⟨b, o, e, hlt, hcell⟩ := hc hp
    refine ⟨b, o, e, hlt, fun j hj => ?_⟩
    rw [hcell j hj]
    have hjs : j < ss.length := by omega
    simp [strF, List.getD_eq_getElem?_getD, hjs, bs_of]
theorem cap_of {C : Option Addr} {n cc : Nat} {d : DataW H} {p : List MemPlace} (h : DataW.Trod enc Try.prog w base spare held 22 (.slice C n cc) d p) : n ≤ cc ∧ cc ≤ 9223372036854775807 := by
  obtain ⟨fuel, hf⟩ := h
  rcases open_slice Try.underlying22 hf with ⟨hcs, _⟩ | ⟨a, len', cap', m, k, D, Pl, hcs, hb, hl, hm, hmm, _, hel⟩
  · simp [Value.cells] at hcs
    obtain ⟨rfl, rfl, rfl⟩ := hcs
    exact ⟨by omega, by omega⟩
  · simp [Value.cells] at hcs
    obtain ⟨rfl, rfl, rfl⟩ := hcs
    unfold maxLen at hm
    exact ⟨hl, by omega⟩
end
end Go.Proofs.Ytmnimcdbfolhaaa
