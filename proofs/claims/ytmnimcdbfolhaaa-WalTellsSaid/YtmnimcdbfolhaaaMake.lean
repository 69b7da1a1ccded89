/- make of a slice whose elements are one cell: the run's equation, with the new cells under a name. -/
import Derived.Test.YtmnimcdbfolhaaaMem
import Derived.Laws.MakeOwn
import Derived.Laws.NewBlocks
set_option linter.unusedSimpArgs false
set_option linter.unusedVariables false
namespace Go.Proofs.Ytmnimcdbfolhaaa
open Go.RowKit

def zeros (z : Value) (n : Nat) : Array Value := Array.replicate n z
theorem zeros_size (z : Value) (n : Nat) : (zeros z n).size = n := by simp [zeros]
theorem zeros_get (z : Value) {n i : Nat} (h : i < n) : (zeros z n)[i]? = some z := by simp [zeros, h]
theorem made_zeros (z : Value) (n : Nat) : madeCells #[z] (n * 1) = zeros z n := by
  apply Array.ext
  · simp [madeCells, zeros]
  · intro i h1 h2
    simp [madeCells, zeros, Nat.mod_one]
theorem run_make1 {P : Program} (t e : TypeId) (i : TypeInfo) (z : Value) (ht : P.underlying t = some (.slice e)) (hi : P.info? e = some i) (hz : i.zero = some z) (hs : i.size = 1) (hc : z.cells = #[z]) (l n : Nat) (hl : l ≤ n) (hb : i.bytes * n ≤ 281474976710656)
    (hn : n ≤ 9223372036854775807) (wx : World) : (Instr.makeSlice t (.int .i64 l) (.int .i64 n)).run P wx = .ok (.slice (some ⟨wx.heap.size, 0, none⟩) l n) (wx.alloc (.cells (zeros z n) e)) := by
  have hb' : (i.bytes : Int) * (n : Int) ≤ 281474976710656 := by
    have h : ((i.bytes * n : Nat) : Int) ≤ 281474976710656 := by omega
    rwa [Int.natCast_mul] at h
  have hr := run_make (P := P) wx t e i z ht hi hz .i64 .i64 l n (by omega) (by omega) hb' (by omega)
  simp only [Int.toNat_natCast, hs, hc] at hr
  rw [hr, made_zeros]
theorem zeros_cell (w : World) (z : Value) (n : Nat) (t : TypeId) {i : Nat} (h : i < n) : (w.alloc (.cells (zeros z n) t)).cell? ⟨w.heap.size, i, none⟩ = some z := by
  rw [World.cell?_alloc_at _ _ _ _ rfl, zeros_get z h]
theorem zeros_free (w : World) (z : Value) (n : Nat) (t : TypeId) (i : Nat) : (w.alloc (.cells (zeros z n) t)).frozen? ⟨w.heap.size, i, none⟩ = false := World.frozen?_alloc_at _ _ _ _ rfl
end Go.Proofs.Ytmnimcdbfolhaaa
