/- make of an empty row with room, whatever the element's size: the new cells under a name. -/
import Derived.Test.YthoigjkelinjhaaMem
import Derived.Laws.MakeOwn
set_option linter.unusedSimpArgs false
set_option linter.unusedVariables false
namespace Go.Proofs.Ythoigjkelinjhaa
open Go.RowKit

theorem make_row0 {P : Program} (t e : TypeId) (i : TypeInfo) (z : Value) (size : Nat) (ht : P.underlying t = some (.slice e)) (hi : P.info? e = some i) (hz : i.zero = some z) (hsize : i.size = size) (n : Nat) (hb : i.bytes * n ≤ 281474976710656) (hn : n ≤ maxLen) :
    ∃ M : Array Value, M.size = n * size ∧ ∀ wx : World, (Instr.makeSlice t (.int .i64 0) (.int .i64 (n : Int))).run P wx = .ok (.slice (some ⟨wx.heap.size, 0, none⟩) 0 n) (wx.alloc (.cells M e)) := by
  subst hsize
  refine ⟨madeCells z.cells (n * i.size), size_madeCells _ _, fun wx => ?_⟩
  have hb' : (i.bytes : Int) * (n : Int) ≤ 281474976710656 := by
    have h : ((i.bytes * n : Nat) : Int) ≤ 281474976710656 := by omega
    rwa [Int.natCast_mul] at h
  have hr := run_make (P := P) wx t e i z ht hi hz .i64 .i64 0 n (Int.le_refl _) (by omega) hb' (by unfold maxLen at hn; omega)
  simp only [Int.toNat_zero, Int.toNat_natCast] at hr
  exact hr
end Go.Proofs.Ythoigjkelinjhaa
