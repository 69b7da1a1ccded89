/- Memory words of a basin that is looked at: boxes; answers of which only their sort is told. -/
import Derived.Test.YthoigjkelinjhaaRowK
import Derived.Test.YthoigjkelinjhaaOT
import Derived.Test.YthoigjkelinjhaaRows
set_option linter.unusedSimpArgs false
set_option linter.unusedVariables false
namespace Go.Proofs.Ythoigjkelinjhaa.RT
open Go.RowKit
section
variable {w w' : World} {B : Nat}
/-- A block that holds these cells alone. -/
def Box (w : World) (b : Nat) (cs : Array Value) (t : TypeId) : Prop := w.heap[b]? = some (.cells cs t (0, 0))
theorem Box.lt {b : Nat} {cs : Array Value} {t : TypeId} (h : Box w b cs t) : b < w.heap.size := (Array.getElem?_eq_some_iff.1 h).1
theorem Box.cell {b : Nat} {cs : Array Value} {t : TypeId} (h : Box w b cs t) {j : Nat} {v : Value} (hj : cs[j]? = some v) : w.cell? ⟨b, j, none⟩ = some v := by
  unfold Box at h
  simp [World.cell?, h, hj]
theorem Box.free {b : Nat} {cs : Array Value} {t : TypeId} (h : Box w b cs t) (j : Nat) : w.frozen? ⟨b, j, none⟩ = false := by
  unfold Box at h
  simp [World.frozen?, h]
theorem Box.keep {b : Nat} {cs : Array Value} {t : TypeId} (h : Box w b cs t) (hk : w'.heap[b]? = w.heap[b]?) : Box w' b cs t := hk.trans h
theorem Box.below {b : Nat} {cs : Array Value} {t : TypeId} (h : Box w b cs t) (hb : Below B w w') (hB : b < B) : Box w' b cs t := h.keep (hb.block b hB)
theorem Box.new (w : World) (cs : Array Value) (t : TypeId) : Box (w.alloc (.cells cs t)) w.heap.size cs t := by
  show (w.heap.push (.cells cs t (0, 0)))[w.heap.size]? = _; simp
end
/-- Some truth value, nothing of the memory turned. -/
def SomeB (w : World) (e : Ending) (w' : World) : Prop := ∃ b : Bool, e = .returned (.bool b) ∧ Below w.heap.size w w'
/-- Some truth value, the memory as it was. -/
def PureB (w : World) (e : Ending) (w' : World) : Prop := ∃ b : Bool, e = .returned (.bool b) ∧ w' = w
def SomeI (w : World) (e : Ending) (w' : World) : Prop := ∃ n : Int, e = .returned (.int .i64 n) ∧ Below w.heap.size w w'
def PureI (w : World) (e : Ending) (w' : World) : Prop := ∃ n : Int, e = .returned (.int .i64 n) ∧ w' = w
theorem PureB.some {w : World} {e : Ending} {w' : World} (h : PureB w e w') : SomeB w e w' := by
  obtain ⟨b, rfl, rfl⟩ := h
  exact ⟨b, rfl, Below.refl _ _⟩
end Go.Proofs.Ythoigjkelinjhaa.RT
