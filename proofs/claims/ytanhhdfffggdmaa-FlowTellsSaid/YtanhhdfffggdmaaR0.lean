/- What the rows share: closed facts of the program, and the opened list of arcs. -/
import Derived.Test.YtanhhdfffggdmaaKit
import Derived.Test.YtanhhdfffggdmaaOpen
import Derived.Test.YtanhhdfffggdmaaF1
import Derived.Lib.SmallJoins
namespace Go.Proofs.Ytanhhdfffggdmaa
open Go.ChangeShapes Go.WideShapes Go.ChangeAt Go.RowKit Go.Deep FM

theorem own : ownKnob Try.prog.godebug = none := by kernel_rfl
theorem laidOut : laidOutB Try.prog = true := by kernel_rfl
theorem cells3 : Try.prog.cellsOf 3 = 1 := by kernel_rfl
theorem cells37 : Try.prog.cellsOf 37 = 3 := by kernel_rfl
theorem fields37 : ∃ fs, Try.prog.underlying 37 = some (.struct fs) ∧ oneCellFields Try.prog fs = true ∧ fs.size = 3 ∧ (fs.all fun f => f.type == 3) = true := ⟨_, Try.underlying37, by kernel_rfl, by kernel_rfl, by kernel_rfl⟩
section
variable {H : Type} {enc : TypeId × Value → H} {w : World} {base : Nat} {spare : Nat → Bool} {held : Bool} {r : Reach} {b0 : Nat}
theorem open_caps {v : Value} {d : DataW H} {p : List MemPlace} (hv : Value.okWide Try.prog w r b0 22 v) (h : DataW.Trod enc Try.prog w base spare held 22 v d p) :
    ∃ (C : Option Addr) (cc : Nat) (A : List Arc), v = .slice C A.length cc ∧ A.length ≤ 9223372036854775807 ∧ ArcsAt w w.heap.size C A := by
  obtain ⟨fs, he, hone, hsz, hall⟩ := fields37
  obtain ⟨C, len, cc, F, rfl, hl, hc⟩ := open_int_structs Try.underlying22 he hone (cells37.trans hsz.symm) (fun j f hj => by
    have := Array.all_eq_true_iff_forall_mem.1 hall f (Array.mem_of_getElem? hj)
    rw [beq_iff_eq] at this
    rw [this]; exact Try.underlying3) hv h
  have hA : ((List.range len).map fun i => (F (3 * i), F (3 * i + 1), F (3 * i + 2))).length = len := by simp
  refine ⟨C, cc, (List.range len).map fun i => (F (3 * i), F (3 * i + 1), F (3 * i + 2)), by rw [hA], by rw [hA]; exact hl, ?_⟩
  unfold ArcsAt
  rw [hA]
  intro hpos
  obtain ⟨b, off, e, hb, hcell⟩ := hc (by rw [hsz]; omega)
  refine ⟨b, off, e, hb, fun j hj => ?_⟩
  rw [hcell j (by rw [hsz]; omega)]
  have hq : j / 3 < len := by omega
  have key : ((List.range len).map fun i => (F (3 * i), F (3 * i + 1), F (3 * i + 2))).getD (j / 3) dA = (F (3 * (j / 3)), F (3 * (j / 3) + 1), F (3 * (j / 3) + 2)) := by
    simp [List.getD_eq_getElem?_getD, hq]
  unfold arcF
  rw [key]
  have hm : j % 3 = 0 ∨ j % 3 = 1 ∨ j % 3 = 2 := by omega
  rcases hm with g | g | g <;> rw [g]
  · rw [show j = 3 * (j / 3) by omega]; simp
  · rw [show 3 * (j / 3) + 1 = j by omega]; rfl
  · rw [show 3 * (j / 3) + 2 = j by omega]; rfl
end
end Go.Proofs.Ytanhhdfffggdmaa
