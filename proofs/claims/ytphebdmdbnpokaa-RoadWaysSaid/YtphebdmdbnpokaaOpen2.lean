/- Arguments opened: a slice of structs of one-cell fields, whatever their types: each field's cell, and that it reads. -/
import Derived.Test.YtphebdmdbnpokaaOpen
set_option linter.unusedSimpArgs false
set_option linter.unusedVariables false
namespace Go.Proofs.Ytphebdmdbnpokaa
open Go.ChangeShapes Go.WideShapes Go.Deep Go.RowKit
section
variable {H : Type} {enc : TypeId × Value → H} {P : Program} {w : World} {base : Nat} {spare : Nat → Bool} {held : Bool} {r : Reach} {b0 : Nat}
/-- The same of a field that is a slice itself: no okWide is known of it, its reading tells its shape. -/
theorem open_fields {t e : TypeId} {fs : Array Field} {fuel : Nat} {cs : List Value} {x : DataW H × List MemPlace} (ht : P.underlying t = some (.slice e)) (he : P.underlying e = some (.struct fs)) (hone : oneCellFields P fs = true) (hC : P.cellsOf e = fs.size) (h0 : 0 < fs.size)
    (h : DataW.trod enc P w base spare held fuel t cs = some x) :
    ∃ (C : Option Addr) (len cc : Nat), cs = [.slice C len cc] ∧ len ≤ 9223372036854775807 ∧ ∃ (b off : Nat), (0 < len → C = some ⟨b, off, none⟩ ∧ b < w.heap.size) ∧
      ∀ i, i < len → ∀ (j : Nat) (f : Field), fs[j]? = some f → ∃ (u : Value) (n : Nat) (y : DataW H × List MemPlace), w.cell? ⟨b, off + (i * fs.size + j), none⟩ = some u ∧ DataW.trod enc P w base spare held n f.type [u] = some y := by
  rcases open_slice ht h with ⟨hcs, _⟩ | ⟨a, len, cap, m, n, D, Pl, hcs, hb, hl, hm, hmm, _, hel⟩
  · exact ⟨none, 0, 0, hcs, by simp, 0, 0, fun h => absurd h (by simp), fun i hi => absurd hi (by simp)⟩
  · have hml : len ≤ m := by rw [hmm]; split <;> omega
    unfold maxLen at hm
    have key : ∀ i, i < len → ∀ (j : Nat) (f : Field), fs[j]? = some f → ∃ (u : Value) (n : Nat) (y : DataW H × List MemPlace), w.cell? (a.add (i * fs.size + j)) = some u ∧ DataW.trod enc P w base spare held n f.type [u] = some y := by
      intro i hi j f hfj
      have hj1 : j < fs.size := (Array.getElem?_eq_some_iff.1 hfj).1
      obtain ⟨cs', hc, ht'⟩ := hel i (by omega)
      rw [hC] at hc
      obtain ⟨ys, n', hn', hy, hlen, hyl, hfd⟩ := DataW.trod_struct he ht'
      obtain ⟨_, hcl, hat⟩ := World.cells?_some hc
      obtain ⟨ho, hk⟩ := hone_of hone _ _ hfj
      have hcell := hat j hj1
      have h1 := hfd _ _ hfj
      rw [ho, hk] at h1
      have hone' : (cs'.drop j).take 1 = [cs'[j]'(by omega)] := by
        rw [List.drop_eq_getElem_cons (by omega)]; rfl
      have hlt : j < ys.length := by omega
      rw [hone', List.getElem?_eq_getElem hlt] at h1
      refine ⟨_, _, _, ?_, h1⟩
      rw [Go.Deep.add_add] at hcell
      rw [hcell, List.getElem?_eq_getElem (by omega)]
    rcases Nat.eq_zero_or_pos len with g | g
    · subst g
      exact ⟨some a, 0, cap, hcs, by omega, 0, 0, fun h => absurd h (by simp), fun i hi => absurd hi (by simp)⟩
    · obtain ⟨f, hf⟩ : ∃ f, fs[0]? = some f := ⟨_, Array.getElem?_eq_getElem h0⟩
      obtain ⟨u, n0, y, hu, _⟩ := key 0 g 0 f hf
      obtain ⟨b, o, e1, hbs⟩ := addr_at hu
      have e2 : a = ⟨b, o, none⟩ := by simpa [Addr.add_zero'] using e1
      subst e2
      refine ⟨_, len, cap, hcs, by omega, b, o, fun _ => ⟨rfl, hbs⟩, fun i hi j f hf => ?_⟩
      obtain ⟨u, n0, y, hu, hy⟩ := key i hi j f hf
      rw [Addr.add_lit] at hu
      exact ⟨u, n0, y, hu, hy⟩
theorem open_fields_at {t e : TypeId} {fs : Array Field} {v : Value} {d : DataW H} {p : List MemPlace} (ht : P.underlying t = some (.slice e)) (he : P.underlying e = some (.struct fs)) (hone : oneCellFields P fs = true) (hC : P.cellsOf e = fs.size) (h0 : 0 < fs.size)
    (hv : Value.okWide P w r b0 t v) (h : DataW.Trod enc P w base spare held t v d p) :
    ∃ (C : Option Addr) (len cc : Nat), v = .slice C len cc ∧ len ≤ 9223372036854775807 ∧ ∃ (b off : Nat), (0 < len → C = some ⟨b, off, none⟩ ∧ b < w.heap.size) ∧
      ∀ i, i < len → ∀ (j : Nat) (f : Field), fs[j]? = some f → ∃ (u : Value) (n : Nat) (y : DataW H × List MemPlace), w.cell? ⟨b, off + (i * fs.size + j), none⟩ = some u ∧ DataW.trod enc P w base spare held n f.type [u] = some y := by
  obtain ⟨a0, len, cap, rfl⟩ := okWide_slice ht hv
  obtain ⟨fuel, hf⟩ := h
  obtain ⟨C, len', cc, hcs, h1, b, off, h2, h3⟩ := open_fields ht he hone hC h0 hf
  simp [Value.cells] at hcs
  obtain ⟨rfl, rfl, rfl⟩ := hcs
  exact ⟨_, _, _, rfl, h1, b, off, h2, h3⟩
end
end Go.Proofs.Ytphebdmdbnpokaa
