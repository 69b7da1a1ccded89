/- What the rows share: closed facts of the program, and the opened list of tokens. -/
import Derived.Test.YtaemahhcacolgaaKit
import Derived.Test.YtaemahhcacolgaaOpen2
import Derived.Test.YtaemahhcacolgaaW22
import Derived.Lib.SmallJoins
namespace Go.Proofs.Ytaemahhcacolgaa
open Go.ChangeShapes Go.WideShapes Go.ChangeAt Go.RowKit Go.Deep LX

theorem own : ownKnob Try.prog.godebug = none := by kernel_rfl
theorem laidOut : laidOutB Try.prog = true := by kernel_rfl
theorem cellsTok : Try.prog.cellsOf 32 = 3 := by kernel_rfl
theorem fieldsTok : ∃ fs, Try.prog.underlying 32 = some (.struct fs) ∧ oneCellFields Try.prog fs = true ∧ fs.size = 3 ∧ fs.map (·.type) = #[3, 9, 3] := ⟨_, Try.underlying32, by kernel_rfl, by kernel_rfl, by kernel_rfl⟩
section
variable {H : Type} {enc : TypeId × Value → H} {w : World} {base : Nat} {spare : Nat → Bool} {held : Bool} {r : Reach} {b0 : Nat}
theorem open_toks {v : Value} {d : DataW H} {p : List MemPlace} (hv : Value.okWide Try.prog w r b0 22 v) (h : DataW.Trod enc Try.prog w base spare held 22 v d p) :
    ∃ (C : Option Addr) (cc : Nat) (A : List MTok), v = .slice C A.length cc ∧ A.length ≤ 9223372036854775807 ∧ ToksAt w w.heap.size C A := by
  obtain ⟨fs, he, hone, hsz, hty⟩ := fieldsTok
  obtain ⟨C, len, cc, rfl, hl, b, off, hC, hc⟩ := open_fields_at Try.underlying22 he hone (cellsTok.trans hsz.symm) (by omega) hv h
  have hf : ∀ j, j < 3 → ∃ f, fs[j]? = some f ∧ some f.type = (#[3, 9, 3] : Array Nat)[j]? := fun j hj => by
    refine ⟨fs[j]'(by omega), Array.getElem?_eq_getElem _, ?_⟩
    rw [← hty]; simp [hsz, hj]
  have key : ∀ i, ∃ t : MTok, i < len → w.cell? ⟨b, off + (i * 3 + 0), none⟩ = some (.int .i64 t.1) ∧ w.cell? ⟨b, off + (i * 3 + 1), none⟩ = some (.string (bs t.2.1)) ∧ w.cell? ⟨b, off + (i * 3 + 2), none⟩ = some (.int .i64 t.2.2) := by
    intro i
    by_cases hi : i < len
    · obtain ⟨f0, g0, t0⟩ := hf 0 (by omega)
      obtain ⟨f1, g1, t1⟩ := hf 1 (by omega)
      obtain ⟨f2, g2, t2⟩ := hf 2 (by omega)
      obtain ⟨u0, n0, y0, c0, r0⟩ := hc i hi 0 f0 g0
      obtain ⟨u1, n1, y1, c1, r1⟩ := hc i hi 1 f1 g1
      obtain ⟨u2, n2, y2, c2, r2⟩ := hc i hi 2 f2 g2
      rw [show f0.type = 3 by simpa using t0] at r0
      rw [show f1.type = 9 by simpa using t1] at r1
      rw [show f2.type = 3 by simpa using t2] at r2
      obtain ⟨z0, e0, _⟩ := DataW.trod_int Try.underlying3 r0
      obtain ⟨z1, e1, _⟩ := DataW.trod_string Try.underlying9 r1
      obtain ⟨z2, e2, _⟩ := DataW.trod_int Try.underlying3 r2
      simp at e0 e1 e2
      subst e0 e1 e2
      rw [hsz] at c0 c1 c2
      exact ⟨(z0, z1.data.toList, z2), fun _ => ⟨c0, by rw [c1]; simp [bs_of], c2⟩⟩
    · exact ⟨dT, fun h => absurd h hi⟩
  obtain ⟨F, hF⟩ := Classical.skolem.1 key
  have hA : ((List.range len).map F).length = len := by simp
  refine ⟨C, cc, (List.range len).map F, by rw [hA], by rw [hA]; exact hl, ?_⟩
  unfold ToksAt
  rw [hA]
  intro hpos
  obtain ⟨e, hb⟩ := hC (by omega)
  refine ⟨b, off, e, hb, fun j hj => ?_⟩
  have hq : j / 3 < len := by omega
  obtain ⟨c0, c1, c2⟩ := hF (j / 3) hq
  have kk : ((List.range len).map F).getD (j / 3) dT = F (j / 3) := by simp [List.getD_eq_getElem?_getD, hq]
  unfold tokF
  rw [kk]
  have hm : j % 3 = 0 ∨ j % 3 = 1 ∨ j % 3 = 2 := by omega
  rcases hm with g | g | g <;> rw [g]
  · rw [show j = j / 3 * 3 + 0 by omega]; rw [show (j / 3 * 3 + 0) / 3 = j / 3 by omega]; exact c0
  · rw [show j = j / 3 * 3 + 1 by omega]; rw [show (j / 3 * 3 + 1) / 3 = j / 3 by omega]; exact c1
  · rw [show j = j / 3 * 3 + 2 by omega]; rw [show (j / 3 * 3 + 2) / 3 = j / 3 by omega]; exact c2
end
end Go.Proofs.Ytaemahhcacolgaa
