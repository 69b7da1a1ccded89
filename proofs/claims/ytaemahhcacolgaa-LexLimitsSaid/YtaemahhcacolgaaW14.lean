/- Slices of tokens in memory: three cells each. -/
import Derived.Test.YtaemahhcacolgaaW13
namespace Go.Proofs.Ytaemahhcacolgaa
open Go.RowKit LX

/-- A token in memory: kind, text, offset. -/
abbrev MTok := Int × List UInt8 × Int
def dT : MTok := (0, [], 0)
def mt (t : Tok) : MTok := (t.kind, t.text, (t.pos : Int))
def tokF (A : List MTok) (j : Nat) : Value := match j % 3 with | 0 => .int .i64 (A.getD (j / 3) dT).1 | 1 => .string (bs (A.getD (j / 3) dT).2.1) | _ => .int .i64 (A.getD (j / 3) dT).2.2
def ToksAt (w : World) (B : Nat) (C : Option Addr) (A : List MTok) : Prop := CellsAt w B C (3 * A.length) (tokF A)
theorem ToksAt.at_ {w : World} {B : Nat} {C : Option Addr} {A : List MTok} (h : ToksAt w B C A) {k : Nat} (hk : k < A.length) : ∃ b off x y z, C = some ⟨b, off, none⟩ ∧ b < B ∧ Hid (A[k]? = some (x, y, z)) ∧
    w.cell? ⟨b, off + k * 3, none⟩ = some (.int .i64 x) ∧ w.cell? ⟨b, off + k * 3 + 1, none⟩ = some (.string (bs y)) ∧ w.cell? ⟨b, off + k * 3 + 2, none⟩ = some (.int .i64 z) := by
  obtain ⟨b, off, e, hb, hc⟩ := h (by omega)
  have c0 := hc (k * 3) (by omega)
  have c1 := hc (k * 3 + 1) (by omega)
  have c2 := hc (k * 3 + 2) (by omega)
  have m0 : (k * 3) % 3 = 0 := by omega
  have m1 : (k * 3 + 1) % 3 = 1 := by omega
  have m2 : (k * 3 + 2) % 3 = 2 := by omega
  have d0 : (k * 3) / 3 = k := by omega
  have d1 : (k * 3 + 1) / 3 = k := by omega
  have d2 : (k * 3 + 2) / 3 = k := by omega
  simp only [tokF, m0, m1, m2, d0, d1, d2] at c0 c1 c2
  refine ⟨b, off, (A.getD k dT).1, (A.getD k dT).2.1, (A.getD k dT).2.2, e, hb, ?_, c0, c1, c2⟩
  show A[k]? = _
  simp [List.getD, List.getElem?_eq_getElem hk]
theorem ToksAt.below {w w' : World} {B : Nat} {C : Option Addr} {A : List MTok} (h : ToksAt w B C A) (hb : Below B w w') : ToksAt w' B C A := CellsAt.below h hb
theorem ToksAt.more {w : World} {B B' : Nat} {C : Option Addr} {A : List MTok} (h : ToksAt w B C A) (hB : B ≤ B') : ToksAt w B' C A := CellsAt.more h hB
def fewT (A : List MTok) : Bool := decide (A.length ≤ 200) && A.all (fun t => decide (t.2.1.length ≤ 600))
end Go.Proofs.Ytaemahhcacolgaa
