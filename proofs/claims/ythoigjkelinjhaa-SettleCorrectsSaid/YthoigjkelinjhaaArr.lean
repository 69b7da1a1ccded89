/- An array of one-cell elements that a call has made, and writes into. -/
import Derived.Test.YthoigjkelinjhaaMake
set_option linter.unusedSimpArgs false
set_option linter.unusedVariables false
namespace Go.Proofs.Ythoigjkelinjhaa
open Go.RowKit

def Arr (w : World) (g n : Nat) (F : Nat → Value) : Prop := ∀ j, j < n → w.cell? ⟨g, j, none⟩ = some (F j) ∧ w.frozen? ⟨g, j, none⟩ = false
def updF (f : Nat → Value) (u : Nat) (x : Value) : Nat → Value := fun v => if v = u then x else f v
section
variable {w w' : World} {g n : Nat} {F : Nat → Value}
theorem Arr.made (w : World) (z : Value) (n : Nat) (t : TypeId) : Arr (w.alloc (.cells (zeros z n) t)) w.heap.size n (fun _ => z) := fun _ hj => ⟨zeros_cell w z n t hj, zeros_free w z n t _⟩
theorem Arr.keep (h : Arr w g n F) (hk : w'.heap[g]? = w.heap[g]?) : Arr w' g n F := fun j hj =>
  ⟨(World.cell?_of_block (a := ⟨g, j, none⟩) hk).trans (h j hj).1, (World.frozen?_of_block (a := ⟨g, j, none⟩) hk).trans (h j hj).2⟩
theorem Arr.alloc (h : Arr w g n F) (hg : g < w.heap.size) (o : Obj) : Arr (w.alloc o) g n F := h.keep (Below.heap_alloc w o g hg)
theorem Arr.drew (h : Arr w g n F) : Arr w.drew g n F := h
theorem Arr.drewN (h : Arr w g n F) (k : Nat) : Arr (w.drewN k) g n F := h
theorem Arr.far (h : Arr w g n F) {p : Addr} (hp : g ≠ p.block) (u : Value) : Arr (w.setCell p u) g n F := h.keep (Below.heap_setCell w p u g hp)
theorem Arr.below {B : Nat} (h : Arr w g n F) (hb : Below B w w') (hg : g < B) : Arr w' g n F := h.keep (hb.block g hg)
theorem Arr.set (h : Arr w g n F) {i : Nat} (hi : i < n) (x : Value) : Arr (w.setCell ⟨g, i, none⟩ x) g n (updF F i x) := fun j hj => by
  refine ⟨?_, (World.frozen?_setCell _ _ _ _).trans (h j hj).2⟩
  by_cases e : j = i
  · subst e
    simp only [updF, if_pos]
    exact World.cell?_setCell_same _ _ _ (h j hj).1
  · simp only [updF, if_neg e]
    exact (World.cell?_setCell_other _ _ _ _ (fun q => e (by injection q with q1 q2; exact q2.symm))).trans (h j hj).1
theorem Arr.congr {G : Nat → Value} (h : Arr w g n F) (e : ∀ j, j < n → F j = G j) : Arr w g n G := fun j hj => ⟨by rw [← e j hj]; exact (h j hj).1, (h j hj).2⟩
end
end Go.Proofs.Ythoigjkelinjhaa
