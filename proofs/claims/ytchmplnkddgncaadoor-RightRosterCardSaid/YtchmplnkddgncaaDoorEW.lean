/- Memory words: a slice of deals; rows of rights and of deals that the call made of them. -/
import Derived.Test.YtchmplnkddgncaaDoorPMem
import Derived.Test.YtchmplnkddgncaaDoorRE
import Derived.Test.YtchmplnkddgncaaDoorRows
import Derived.Test.YtchmplnkddgncaaDoorAppAny
import Derived.Test.YtchmplnkddgncaaDoorArr
import Derived.Test.YtchmplnkddgncaaDoorRowK
import Derived.Deep.AppendLies
set_option linter.unusedSimpArgs false
set_option linter.unusedVariables false
namespace Go.Proofs.YtchmplnkddgncaaDoor
open Go.RowKit CM RG

theorem Tryd.infoRight : (Tryd.prog.info? 33).map (fun i => (i.zero, i.size, i.bytes)) = some (some (.agg #[.int .i64 0, .int .i64 0, .int .i64 0, .int .i64 0, .int .i64 0, .int .i64 0, .int .i64 0, .int .i64 0, .int .i64 0]), 9, 72) := by kernel_rfl
def BoolIs (b : Bool) (w : World) (e : Ending) (w' : World) : Prop := e = .returned (.bool b) ∧ Below w.heap.size w w'
def IntBe (n : Int) (w : World) (e : Ending) (w' : World) : Prop := e = .returned (.int .i64 n) ∧ Below w.heap.size w w'
theorem rt_len (r : Rt) : r.cells.length = 9 := rfl
theorem rt_one (r : Rt) : ∀ v ∈ r.cells, v.oneCell' = true := fun u h => by
  simp only [CM.Rt.cells, List.mem_cons, List.not_mem_nil, or_false] at h
  rcases h with rfl | rfl | rfl | rfl | rfl | rfl | rfl | rfl | rfl <;> rfl
/-- A deal's cells. -/
def Dl.cells (d : Dl) : List Value := [.int .i64 d.kind, .int .i64 d.known, .int .i64 d.right.id, .int .i64 d.right.owner, .int .i64 d.right.date, .int .i64 d.right.place, .int .i64 d.right.rate, .int .i64 d.right.from1, .int .i64 d.right.until1, .int .i64 d.right.back, .int .i64 d.right.backTo, .int .i64 d.from1, .int .i64 d.until1]
theorem dl_len (d : Dl) : d.cells.length = 13 := rfl
theorem dl_one (d : Dl) : ∀ v ∈ d.cells, v.oneCell' = true := fun u h => by
  simp only [Dl.cells, List.mem_cons, List.not_mem_nil, or_false] at h
  rcases h with rfl | rfl | rfl | rfl | rfl | rfl | rfl | rfl | rfl | rfl | rfl | rfl | rfl <;> rfl
def DealsAt (w : World) (B : Nat) (C : Option Addr) (A : List Dl) : Prop := RowAt Dl.cells 13 w B C A
def rowR (A : List Rt) : List Value := A.flatMap CM.Rt.cells
def rowD (A : List Dl) : List Value := A.flatMap Dl.cells
theorem DealsAt.below {w w' : World} {B : Nat} {C : Option Addr} {A : List Dl} (h : DealsAt w B C A) (hb : Below B w w') : DealsAt w' B C A := RowAt.below h hb
theorem DealsAt.more {w : World} {B B' : Nat} {C : Option Addr} {A : List Dl} (h : DealsAt w B C A) (hB : B ≤ B') : DealsAt w B' C A := RowAt.more h hB
theorem DealsAt.at_ {w : World} {B : Nat} {C : Option Addr} {A : List Dl} (h : DealsAt w B C A) {k : Nat} {d : Dl} (hk : A[k]? = some d) : ∃ b off, C = some ⟨b, off, none⟩ ∧ b < B ∧
    w.cell? ⟨b, off + k * 13, none⟩ = some (.int .i64 d.kind) ∧ w.cell? ⟨b, off + k * 13 + 1, none⟩ = some (.int .i64 d.known) ∧
    w.cell? ⟨b, off + k * 13 + 2, none⟩ = some (.int .i64 d.right.id) ∧ w.cell? ⟨b, off + k * 13 + 3, none⟩ = some (.int .i64 d.right.owner) ∧ w.cell? ⟨b, off + k * 13 + 4, none⟩ = some (.int .i64 d.right.date) ∧
    w.cell? ⟨b, off + k * 13 + 5, none⟩ = some (.int .i64 d.right.place) ∧ w.cell? ⟨b, off + k * 13 + 6, none⟩ = some (.int .i64 d.right.rate) ∧ w.cell? ⟨b, off + k * 13 + 7, none⟩ = some (.int .i64 d.right.from1) ∧
    w.cell? ⟨b, off + k * 13 + 8, none⟩ = some (.int .i64 d.right.until1) ∧ w.cell? ⟨b, off + k * 13 + 9, none⟩ = some (.int .i64 d.right.back) ∧ w.cell? ⟨b, off + k * 13 + 10, none⟩ = some (.int .i64 d.right.backTo) ∧
    w.cell? ⟨b, off + k * 13 + 11, none⟩ = some (.int .i64 d.from1) ∧ w.cell? ⟨b, off + k * 13 + 12, none⟩ = some (.int .i64 d.until1) := by
  have hlt := (List.getElem?_eq_some_iff.1 hk).1
  obtain ⟨b, off, e, hb, hc⟩ := h (by omega)
  have g := hc k d hk
  exact ⟨b, off, e, hb, g 0 _ rfl, g 1 _ rfl, g 2 _ rfl, g 3 _ rfl, g 4 _ rfl, g 5 _ rfl, g 6 _ rfl, g 7 _ rfl, g 8 _ rfl, g 9 _ rfl, g 10 _ rfl, g 11 _ rfl, g 12 _ rfl⟩
theorem rights_row {w : World} {B : Nat} {C : Option Addr} {A : List Rt} : RightsAt w B C A ↔ RowAt CM.Rt.cells 9 w B C A := Iff.rfl
theorem RightsAt.nil (w : World) (B : Nat) (C : Option Addr) : RightsAt w B C [] := fun h => absurd h (by simp)
end Go.Proofs.YtchmplnkddgncaaDoor
