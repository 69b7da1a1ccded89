/- Arguments opened: as Open2, and what each field weighs. -/
import Derived.Test.YtphebdmdbnpokaaOpen
import Derived.SizedLaws
set_option linter.unusedSimpArgs false
set_option linter.unusedVariables false
namespace Go.Proofs.Ytphebdmdbnpokaa
open Go.ChangeShapes Go.WideShapes Go.Deep Go.RowKit
section
variable {H : Type} {enc : TypeId × Value → H} {P : Program} {w : World} {base : Nat} {spare : Nat → Bool} {held : Bool} {r : Reach} {b0 : Nat}
theorem weightsAll_mem3 {e : TypeId} : ∀ {ds : List (DataW H)} {d : DataW H}, d ∈ ds → ∀ n ∈ d.weights P e, n ∈ DataW.weightsAll P e ds
  | d0 :: ds, d, hd, n, hn => by
    simp only [DataW.weightsAll, List.mem_append]
    rcases List.mem_cons.1 hd with rfl | hd
    · exact .inl hn
    · exact .inr (weightsAll_mem3 hd n hn)
theorem open_fieldsW {t e : TypeId} {fs : Array Field} {fuel : Nat} {cs : List Value} {x : DataW H × List MemPlace} (ht : P.underlying t = some (.slice e)) (he : P.underlying e = some (.struct fs)) (hone : oneCellFields P fs = true) (hC : P.cellsOf e = fs.size) (h0 : 0 < fs.size)
    (h : DataW.trod enc P w base spare held fuel t cs = some x) :
    ∃ (C : Option Addr) (len cc : Nat), cs = [.slice C len cc] ∧ len ≤ 9223372036854775807 ∧ ∃ (b off : Nat), (0 < len → C = some ⟨b, off, none⟩ ∧ b < w.heap.size) ∧
      ∀ i, i < len → ∀ (j : Nat) (f : Field), fs[j]? = some f → ∃ (u : Value) (n : Nat) (y : DataW H × List MemPlace), w.cell? ⟨b, off + (i * fs.size + j), none⟩ = some u ∧ DataW.trod enc P w base spare held n f.type [u] = some y ∧ ∀ z ∈ y.1.weights P f.type, z ∈ x.1.weights P t := by
  rcases DataW.trod_slice ht h with ⟨hcs, _⟩ | ⟨a, len, cap, elems, rest, n, _, hcs, hx, hb, hl, hm, hlen, hel, _, _⟩
  · exact ⟨none, 0, 0, hcs, by simp, 0, 0, fun h => absurd h (by simp), fun i hi => absurd hi (by simp)⟩
  · unfold maxLen at hm
    have key : ∀ i, i < len → ∀ (j : Nat) (f : Field), fs[j]? = some f → ∃ (u : Value) (n : Nat) (y : DataW H × List MemPlace), w.cell? (a.add (i * fs.size + j)) = some u ∧ DataW.trod enc P w base spare held n f.type [u] = some y ∧ ∀ z ∈ y.1.weights P f.type, z ∈ x.1.weights P t := by
      intro i hi j f hfj
      have hj1 : j < fs.size := (Array.getElem?_eq_some_iff.1 hfj).1
      have hi2 : i < elems.length := by omega
      have hei : elems[i]? = some (elems[i]'hi2) := List.getElem?_eq_getElem hi2
      have hb1 := hel i hi
      rw [hei, Option.bind_eq_some_iff] at hb1
      obtain ⟨cs', hc, ht'⟩ := hb1
      rw [hC] at hc
      obtain ⟨ys, n', hn', hy, hlen, hyl, hfd⟩ := DataW.trod_struct he ht'
      obtain ⟨_, hcl, hat⟩ := World.cells?_some hc
      obtain ⟨ho, hk⟩ := hone_of hone _ _ hfj
      have hcell := hat j hj1
      have h1 := hfd _ _ hfj
      rw [ho, hk] at h1
      have hone' : (cs'.drop j).take 1 = [cs'[j]'(by omega)] := by
        rw [List.drop_eq_getElem_cons (by omega)]; rfl
      have hlt : j < ys.length := by omega
      rw [hone', List.getElem?_eq_getElem hlt] at h1
      refine ⟨_, _, _, ?_, h1, fun z hz => ?_⟩
      · rw [Go.Deep.add_add] at hcell
        rw [hcell, List.getElem?_eq_getElem (by omega)]
      · rw [hx]
        simp only [DataW.weights, ht, List.mem_cons, List.mem_append]
        right; left
        refine weightsAll_mem3 (List.mem_map.2 ⟨elems[i]'hi2, List.getElem_mem hi2, rfl⟩) z ?_
        rw [hy]
        simp only [DataW.weights, he]
        refine DataW.weights_mem_each (j := j) (t := f.type) (d := (ys[j]'hlt).1) ?_ ?_ z hz
        · rw [List.getElem?_map]
          have : fs.toList[j]? = some f := by simpa using hfj
          rw [this]; rfl
        · rw [List.getElem?_map, List.getElem?_eq_getElem hlt]; rfl
    rcases Nat.eq_zero_or_pos len with g | g
    · subst g
      exact ⟨some a, 0, cap, hcs, by omega, 0, 0, fun h => absurd h (by simp), fun i hi => absurd hi (by simp)⟩
    · obtain ⟨f, hf⟩ : ∃ f, fs[0]? = some f := ⟨_, Array.getElem?_eq_getElem h0⟩
      obtain ⟨u, n0, y, hu, _⟩ := key 0 g 0 f hf
      obtain ⟨b, o, e1, hbs⟩ := addr_at hu
      have e2 : a = ⟨b, o, none⟩ := by simpa [Addr.add_zero'] using e1
      subst e2
      refine ⟨_, len, cap, hcs, by omega, b, o, fun _ => ⟨rfl, hbs⟩, fun i hi j f hf => ?_⟩
      obtain ⟨u, n0, y, hu, hy⟩ := key i hi j f hf
      rw [Addr.add_lit] at hu
      exact ⟨u, n0, y, hu, hy⟩
theorem open_fieldsW_at {t e : TypeId} {fs : Array Field} {v : Value} {d : DataW H} {p : List MemPlace} (ht : P.underlying t = some (.slice e)) (he : P.underlying e = some (.struct fs)) (hone : oneCellFields P fs = true) (hC : P.cellsOf e = fs.size) (h0 : 0 < fs.size)
    (hv : Value.okWide P w r b0 t v) (h : DataW.Trod enc P w base spare held t v d p) :
    ∃ (C : Option Addr) (len cc : Nat), v = .slice C len cc ∧ len ≤ 9223372036854775807 ∧ ∃ (b off : Nat), (0 < len → C = some ⟨b, off, none⟩ ∧ b < w.heap.size) ∧
      ∀ i, i < len → ∀ (j : Nat) (f : Field), fs[j]? = some f → ∃ (u : Value) (n : Nat) (y : DataW H × List MemPlace), w.cell? ⟨b, off + (i * fs.size + j), none⟩ = some u ∧ DataW.trod enc P w base spare held n f.type [u] = some y ∧ ∀ z ∈ y.1.weights P f.type, z ∈ d.weights P t := by
  obtain ⟨a0, len, cap, rfl⟩ := okWide_slice ht hv
  obtain ⟨fuel, hf⟩ := h
  obtain ⟨C, len', cc, hcs, h1, b, off, h2, h3⟩ := open_fieldsW ht he hone hC h0 hf
  simp [Value.cells] at hcs
  obtain ⟨rfl, rfl, rfl⟩ := hcs
  exact ⟨_, _, _, rfl, h1, b, off, h2, h3⟩
/-- A slice of integers that lies in a cell: its list, and how long it can be. -/
theorem open_cell_ints {t e : TypeId} {fuel : Nat} {u : Value} {x : DataW H × List MemPlace} (ht : P.underlying t = some (.slice e)) (he : P.underlying e = some (.int .i64)) (hc : P.cellsOf e = 1) (h8 : P.bytesOf e = 8)
    (h : DataW.trod enc P w base spare held fuel t [u] = some x) : ∃ (C : Option Addr) (cc : Nat) (zs : List Int), u = .slice C zs.length cc ∧ IntsAt w w.heap.size C zs ∧ (zs ≠ [] → zs.length ≤ 9223372036854775807 ∧ ∃ z ∈ x.1.weights P t, zs.length ≤ z) := by
  rcases open_ints ht he hc h with ⟨hcs, _⟩ | ⟨a, len, cap, zs, hcs, _, hl, hm, hz, hx, hcell, _⟩
  · injection hcs with hcs _; exact ⟨none, 0, [], hcs, fun h => absurd h (by simp), fun h => absurd rfl h⟩
  · injection hcs with hcs _
    have hzl : len ≤ zs.length := by split at hz <;> omega
    have htl : (zs.take len).length = len := by simp; omega
    unfold maxLen at hm
    refine ⟨some a, cap, zs.take len, by rw [htl]; exact hcs, fun hpos => ?_, fun _ => ⟨by rw [htl]; omega, ?_⟩⟩
    · rw [htl] at hpos
      obtain ⟨b, o, rfl, hb⟩ := addr_at (by have := hcell 0 (by omega); rwa [Addr.add_zero'] at this)
      refine ⟨b, o, rfl, hb, fun j hj => ?_⟩
      rw [htl] at hj
      have := hcell j (by omega)
      rw [Addr.add_lit] at this
      rw [this]
      simp [intF, List.getD_eq_getElem?_getD, List.getElem?_take_of_lt hj]
    · rw [hx, htl]
      refine ⟨_, by simp only [DataW.weights, ht]; exact List.mem_cons_self, ?_⟩
      rw [h8]
      simp only [lits, List.length_map, List.length_take]; omega
end
end Go.Proofs.Ytphebdmdbnpokaa
