/- Joined of: Open Open2 Open3 OpenStrs OpenCellStrs. -/
import Derived.Deep.Slices
import Derived.Deep.Fields
import Derived.ChangeSame
import Derived.ProofKit
import Derived.OpenShut
import Derived.SizedLaws
import Derived.SliceStrings
import Derived.Test.YtmnimcdbfolhaaaMem
/- Arguments opened: a slice of integers, and a slice of structs whose fields are all integers, as cells. -/
set_option linter.unusedSimpArgs false
set_option linter.unusedVariables false
namespace Go.Proofs.Ytmnimcdbfolhaaa
open Go.ChangeShapes Go.WideShapes Go.Deep Go.RowKit
section
variable {H : Type} {enc : TypeId × Value → H} {P : Program} {w : World} {base : Nat} {spare : Nat → Bool} {held : Bool} {r : Reach} {b0 : Nat}
theorem addr_at {a : Addr} {v : Value} (h : w.cell? a = some v) : ∃ b o, a = ⟨b, o, none⟩ ∧ b < w.heap.size := by
  have h1 := World.cell?_spot h
  have h2 := World.block_lt_of_cell? w _ h
  obtain ⟨b, o, s⟩ := a
  obtain rfl : s = none := h1
  exact ⟨b, o, rfl, h2⟩
theorem open_ints_at {t e : TypeId} {v : Value} {d : DataW H} {p : List MemPlace} (ht : P.underlying t = some (.slice e)) (he : P.underlying e = some (.int .i64)) (hc : P.cellsOf e = 1) (hv : Value.okWide P w r b0 t v) (h : DataW.Trod enc P w base spare held t v d p) :
    ∃ (C : Option Addr) (cc : Nat) (zs : List Int), v = .slice C zs.length cc ∧ zs.length ≤ 9223372036854775807 ∧ IntsAt w w.heap.size C zs := by
  obtain ⟨a0, len, cap, rfl⟩ := okWide_slice ht hv
  obtain ⟨fuel, hf⟩ := h
  rcases open_ints ht he hc hf with ⟨hcs, _⟩ | ⟨a, len', cap', zs, hcs, _, hl, hm, hz, _, hcell, _⟩
  · simp [Value.cells] at hcs
    obtain ⟨rfl, rfl, rfl⟩ := hcs
    exact ⟨none, 0, [], rfl, by simp, fun h => absurd h (by simp)⟩
  · simp [Value.cells] at hcs
    obtain ⟨rfl, rfl, rfl⟩ := hcs
    have hzl : len ≤ zs.length := by split at hz <;> omega
    have htl : (zs.take len).length = len := by simp; omega
    unfold maxLen at hm
    refine ⟨some a, cap, zs.take len, by rw [htl], by rw [htl]; omega, fun hpos => ?_⟩
    rw [htl] at hpos ⊢
    obtain ⟨b, o, rfl, hb⟩ := addr_at (by have := hcell 0 (by omega); rwa [Addr.add_zero'] at this)
    refine ⟨b, o, rfl, hb, fun j hj => ?_⟩
    have := hcell j (by omega)
    rw [Addr.add_lit] at this
    rw [this]
    simp [intF, List.getD_eq_getElem?_getD, List.getElem?_take_of_lt hj]
/-- Fields of one cell each, all integers of the kind int. -/
def allInts (P : Program) (fs : Array Field) : Prop := ∀ (j : Nat) (f : Field), fs[j]? = some f → P.underlying f.type = some (.int .i64)
theorem open_int_structs {t e : TypeId} {fs : Array Field} {v : Value} {d : DataW H} {p : List MemPlace} (ht : P.underlying t = some (.slice e)) (he : P.underlying e = some (.struct fs)) (hone : oneCellFields P fs = true) (hC : P.cellsOf e = fs.size) (hi : allInts P fs)
    (hv : Value.okWide P w r b0 t v) (h : DataW.Trod enc P w base spare held t v d p) :
    ∃ (C : Option Addr) (len cc : Nat) (F : Nat → Int), v = .slice C len cc ∧ len ≤ 9223372036854775807 ∧ CellsAt w w.heap.size C (len * fs.size) (fun j => .int .i64 (F j)) := by
  obtain ⟨a0, len, cap, rfl⟩ := okWide_slice ht hv
  obtain ⟨fuel, hf⟩ := h
  rcases open_slice ht hf with ⟨hcs, _⟩ | ⟨a, len', cap', m, n, D, Pl, hcs, hb, hl, hm, hmm, _, hel⟩
  · simp [Value.cells] at hcs
    obtain ⟨rfl, rfl, rfl⟩ := hcs
    exact ⟨none, 0, 0, fun _ => 0, rfl, by simp, fun h => absurd h (by simp)⟩
  · simp [Value.cells] at hcs
    obtain ⟨rfl, rfl, rfl⟩ := hcs
    have hml : len ≤ m := by rw [hmm]; split <;> omega
    unfold maxLen at hm
    have key : ∀ q, q < len * fs.size → ∃ z : Int, w.cell? (a.add q) = some (.int .i64 z) := by
      intro q hq
      have hpos : 0 < fs.size := by
        rcases Nat.eq_zero_or_pos fs.size with g | g
        · rw [g] at hq; omega
        · exact g
      have hi1 : q / fs.size < len := Nat.div_lt_of_lt_mul (by rw [Nat.mul_comm]; exact hq)
      have hj1 : q % fs.size < fs.size := Nat.mod_lt _ hpos
      have hqe : q / fs.size * fs.size + q % fs.size = q := by rw [Nat.mul_comm]; exact Nat.div_add_mod q fs.size
      obtain ⟨cs', hc, ht'⟩ := hel (q / fs.size) (by omega)
      rw [hC] at hc
      obtain ⟨ys, n', hn', hy, hlen, hyl, hfd⟩ := DataW.trod_struct he ht'
      obtain ⟨_, hcl, hat⟩ := World.cells?_some hc
      have hfj : fs[q % fs.size]? = some fs[q % fs.size] := Array.getElem?_eq_getElem hj1
      obtain ⟨ho, hk⟩ := hone_of hone _ _ hfj
      have hcell := hat (q % fs.size) hj1
      have h1 := hfd _ _ hfj
      rw [ho, hk] at h1
      have hone' : (cs'.drop (q % fs.size)).take 1 = [cs'[q % fs.size]'(by omega)] := by
        rw [List.drop_eq_getElem_cons (by omega)]; rfl
      have hlt : q % fs.size < ys.length := by omega
      rw [hone', List.getElem?_eq_getElem hlt] at h1
      obtain ⟨z, hz, _⟩ := DataW.trod_int (hi _ _ hfj) h1
      refine ⟨z, ?_⟩
      rw [Go.Deep.add_add, hqe] at hcell
      rw [hcell, List.getElem?_eq_getElem (by omega)]
      simp at hz
      rw [hz]
    obtain ⟨F, hF⟩ : ∃ F : Nat → Int, ∀ q, q < len * fs.size → w.cell? (a.add q) = some (.int .i64 (F q)) :=
      ⟨fun q => if h : q < len * fs.size then (key q h).choose else 0, fun q h => by simp only [h, dite_true]; exact (key q h).choose_spec⟩
    refine ⟨some a, len, cap, F, rfl, by omega, fun hpos => ?_⟩
    obtain ⟨b, o, ha, hbl⟩ := addr_at (by have := hF 0 hpos; rwa [Addr.add_zero'] at this)
    refine ⟨b, o, by rw [ha], hbl, fun j hj => ?_⟩
    have := hF j hj
    rw [ha, Addr.add_lit] at this
    exact this
end
end Go.Proofs.Ytmnimcdbfolhaaa

/- Arguments opened: a slice of structs of one-cell fields, whatever their types: each field's cell, and that it reads. -/
namespace Go.Proofs.Ytmnimcdbfolhaaa
open Go.ChangeShapes Go.WideShapes Go.Deep Go.RowKit
section
variable {H : Type} {enc : TypeId × Value → H} {P : Program} {w : World} {base : Nat} {spare : Nat → Bool} {held : Bool} {r : Reach} {b0 : Nat}
/-- The same of a field that is a slice itself: no okWide is known of it, its reading tells its shape. -/
theorem open_fields {t e : TypeId} {fs : Array Field} {fuel : Nat} {cs : List Value} {x : DataW H × List MemPlace} (ht : P.underlying t = some (.slice e)) (he : P.underlying e = some (.struct fs)) (hone : oneCellFields P fs = true) (hC : P.cellsOf e = fs.size) (h0 : 0 < fs.size)
    (h : DataW.trod enc P w base spare held fuel t cs = some x) :
    ∃ (C : Option Addr) (len cc : Nat), cs = [.slice C len cc] ∧ len ≤ 9223372036854775807 ∧ ∃ (b off : Nat), (0 < len → C = some ⟨b, off, none⟩ ∧ b < w.heap.size) ∧
      ∀ i, i < len → ∀ (j : Nat) (f : Field), fs[j]? = some f → ∃ (u : Value) (n : Nat) (y : DataW H × List MemPlace), w.cell? ⟨b, off + (i * fs.size + j), none⟩ = some u ∧ DataW.trod enc P w base spare held n f.type [u] = some y := by
  rcases open_slice ht h with ⟨hcs, _⟩ | ⟨a, len, cap, m, n, D, Pl, hcs, hb, hl, hm, hmm, _, hel⟩
  · exact ⟨none, 0, 0, hcs, by simp, 0, 0, fun h => absurd h (by simp), fun i hi => absurd hi (by simp)⟩
  · have hml : len ≤ m := by rw [hmm]; split <;> omega
    unfold maxLen at hm
    have key : ∀ i, i < len → ∀ (j : Nat) (f : Field), fs[j]? = some f → ∃ (u : Value) (n : Nat) (y : DataW H × List MemPlace), w.cell? (a.add (i * fs.size + j)) = some u ∧ DataW.trod enc P w base spare held n f.type [u] = some y := by
      intro i hi j f hfj
      have hj1 : j < fs.size := (Array.getElem?_eq_some_iff.1 hfj).1
      obtain ⟨cs', hc, ht'⟩ := hel i (by omega)
      rw [hC] at hc
      obtain ⟨ys, n', hn', hy, hlen, hyl, hfd⟩ := DataW.trod_struct he ht'
      obtain ⟨_, hcl, hat⟩ := World.cells?_some hc
      obtain ⟨ho, hk⟩ := hone_of hone _ _ hfj
      have hcell := hat j hj1
      have h1 := hfd _ _ hfj
      rw [ho, hk] at h1
      have hone' : (cs'.drop j).take 1 = [cs'[j]'(by omega)] := by
        rw [List.drop_eq_getElem_cons (by omega)]; rfl
      have hlt : j < ys.length := by omega
      rw [hone', List.getElem?_eq_getElem hlt] at h1
      refine ⟨_, _, _, ?_, h1⟩
      rw [Go.Deep.add_add] at hcell
      rw [hcell, List.getElem?_eq_getElem (by omega)]
    rcases Nat.eq_zero_or_pos len with g | g
    · subst g
      exact ⟨some a, 0, cap, hcs, by omega, 0, 0, fun h => absurd h (by simp), fun i hi => absurd hi (by simp)⟩
    · obtain ⟨f, hf⟩ : ∃ f, fs[0]? = some f := ⟨_, Array.getElem?_eq_getElem h0⟩
      obtain ⟨u, n0, y, hu, _⟩ := key 0 g 0 f hf
      obtain ⟨b, o, e1, hbs⟩ := addr_at hu
      have e2 : a = ⟨b, o, none⟩ := by simpa [Addr.add_zero'] using e1
      subst e2
      refine ⟨_, len, cap, hcs, by omega, b, o, fun _ => ⟨rfl, hbs⟩, fun i hi j f hf => ?_⟩
      obtain ⟨u, n0, y, hu, hy⟩ := key i hi j f hf
      rw [Addr.add_lit] at hu
      exact ⟨u, n0, y, hu, hy⟩
theorem open_fields_at {t e : TypeId} {fs : Array Field} {v : Value} {d : DataW H} {p : List MemPlace} (ht : P.underlying t = some (.slice e)) (he : P.underlying e = some (.struct fs)) (hone : oneCellFields P fs = true) (hC : P.cellsOf e = fs.size) (h0 : 0 < fs.size)
    (hv : Value.okWide P w r b0 t v) (h : DataW.Trod enc P w base spare held t v d p) :
    ∃ (C : Option Addr) (len cc : Nat), v = .slice C len cc ∧ len ≤ 9223372036854775807 ∧ ∃ (b off : Nat), (0 < len → C = some ⟨b, off, none⟩ ∧ b < w.heap.size) ∧
      ∀ i, i < len → ∀ (j : Nat) (f : Field), fs[j]? = some f → ∃ (u : Value) (n : Nat) (y : DataW H × List MemPlace), w.cell? ⟨b, off + (i * fs.size + j), none⟩ = some u ∧ DataW.trod enc P w base spare held n f.type [u] = some y := by
  obtain ⟨a0, len, cap, rfl⟩ := okWide_slice ht hv
  obtain ⟨fuel, hf⟩ := h
  obtain ⟨C, len', cc, hcs, h1, b, off, h2, h3⟩ := open_fields ht he hone hC h0 hf
  simp [Value.cells] at hcs
  obtain ⟨rfl, rfl, rfl⟩ := hcs
  exact ⟨_, _, _, rfl, h1, b, off, h2, h3⟩
end
end Go.Proofs.Ytmnimcdbfolhaaa

/- Arguments opened: as Open2, and what each field weighs. -/
namespace Go.Proofs.Ytmnimcdbfolhaaa
open Go.ChangeShapes Go.WideShapes Go.Deep Go.RowKit
section
variable {H : Type} {enc : TypeId × Value → H} {P : Program} {w : World} {base : Nat} {spare : Nat → Bool} {held : Bool} {r : Reach} {b0 : Nat}
theorem weightsAll_mem3 {e : TypeId} : ∀ {ds : List (DataW H)} {d : DataW H}, d ∈ ds → ∀ n ∈ d.weights P e, n ∈ DataW.weightsAll P e ds
  | d0 :: ds, d, hd, n, hn => by
    simp only [DataW.weightsAll, List.mem_append]
    rcases List.mem_cons.1 hd with rfl | hd
    · exact .inl hn
    · exact .inr (weightsAll_mem3 hd n hn)
theorem open_fieldsW {t e : TypeId} {fs : Array Field} {fuel : Nat} {cs : List Value} {x : DataW H × List MemPlace} (ht : P.underlying t = some (.slice e)) (he : P.underlying e = some (.struct fs)) (hone : oneCellFields P fs = true) (hC : P.cellsOf e = fs.size) (h0 : 0 < fs.size)
    (h : DataW.trod enc P w base spare held fuel t cs = some x) :
    ∃ (C : Option Addr) (len cc : Nat), cs = [.slice C len cc] ∧ len ≤ 9223372036854775807 ∧ ∃ (b off : Nat), (0 < len → C = some ⟨b, off, none⟩ ∧ b < w.heap.size) ∧
      ∀ i, i < len → ∀ (j : Nat) (f : Field), fs[j]? = some f → ∃ (u : Value) (n : Nat) (y : DataW H × List MemPlace), w.cell? ⟨b, off + (i * fs.size + j), none⟩ = some u ∧ DataW.trod enc P w base spare held n f.type [u] = some y ∧ ∀ z ∈ y.1.weights P f.type, z ∈ x.1.weights P t := by
  rcases DataW.trod_slice ht h with ⟨hcs, _⟩ | ⟨a, len, cap, elems, rest, n, _, hcs, hx, hb, hl, hm, hlen, hel, _, _⟩
  · exact ⟨none, 0, 0, hcs, by simp, 0, 0, fun h => absurd h (by simp), fun i hi => absurd hi (by simp)⟩
  · unfold maxLen at hm
    have key : ∀ i, i < len → ∀ (j : Nat) (f : Field), fs[j]? = some f → ∃ (u : Value) (n : Nat) (y : DataW H × List MemPlace), w.cell? (a.add (i * fs.size + j)) = some u ∧ DataW.trod enc P w base spare held n f.type [u] = some y ∧ ∀ z ∈ y.1.weights P f.type, z ∈ x.1.weights P t := by
      intro i hi j f hfj
      have hj1 : j < fs.size := (Array.getElem?_eq_some_iff.1 hfj).1
      have hi2 : i < elems.length := by omega
      have hei : elems[i]? = some (elems[i]'hi2) := List.getElem?_eq_getElem hi2
      have hb1 := hel i hi
      rw [hei, Option.bind_eq_some_iff] at hb1
      obtain ⟨cs', hc, ht'⟩ := hb1
      rw [hC] at hc
      obtain ⟨ys, n', hn', hy, hlen, hyl, hfd⟩ := DataW.trod_struct he ht'
      obtain ⟨_, hcl, hat⟩ := World.cells?_some hc
      obtain ⟨ho, hk⟩ := hone_of hone _ _ hfj
      have hcell := hat j hj1
      have h1 := hfd _ _ hfj
      rw [ho, hk] at h1
      have hone' : (cs'.drop j).take 1 = [cs'[j]'(by omega)] := by
        rw [List.drop_eq_getElem_cons (by omega)]; rfl
      have hlt : j < ys.length := by omega
      rw [hone', List.getElem?_eq_getElem hlt] at h1
      refine ⟨_, _, _, ?_, h1, fun z hz => ?_⟩
      · rw [Go.Deep.add_add] at hcell
        rw [hcell, List.getElem?_eq_getElem (by omega)]
      · rw [hx]
        simp only [DataW.weights, ht, List.mem_cons, List.mem_append]
        right; left
        refine weightsAll_mem3 (List.mem_map.2 ⟨elems[i]'hi2, List.getElem_mem hi2, rfl⟩) z ?_
        rw [hy]
        simp only [DataW.weights, he]
        refine DataW.weights_mem_each (j := j) (t := f.type) (d := (ys[j]'hlt).1) ?_ ?_ z hz
        · rw [List.getElem?_map]
          have : fs.toList[j]? = some f := by simpa using hfj
          rw [this]; rfl
        · rw [List.getElem?_map, List.getElem?_eq_getElem hlt]; rfl
    rcases Nat.eq_zero_or_pos len with g | g
    · subst g
      exact ⟨some a, 0, cap, hcs, by omega, 0, 0, fun h => absurd h (by simp), fun i hi => absurd hi (by simp)⟩
    · obtain ⟨f, hf⟩ : ∃ f, fs[0]? = some f := ⟨_, Array.getElem?_eq_getElem h0⟩
      obtain ⟨u, n0, y, hu, _⟩ := key 0 g 0 f hf
      obtain ⟨b, o, e1, hbs⟩ := addr_at hu
      have e2 : a = ⟨b, o, none⟩ := by simpa [Addr.add_zero'] using e1
      subst e2
      refine ⟨_, len, cap, hcs, by omega, b, o, fun _ => ⟨rfl, hbs⟩, fun i hi j f hf => ?_⟩
      obtain ⟨u, n0, y, hu, hy⟩ := key i hi j f hf
      rw [Addr.add_lit] at hu
      exact ⟨u, n0, y, hu, hy⟩
theorem open_fieldsW_at {t e : TypeId} {fs : Array Field} {v : Value} {d : DataW H} {p : List MemPlace} (ht : P.underlying t = some (.slice e)) (he : P.underlying e = some (.struct fs)) (hone : oneCellFields P fs = true) (hC : P.cellsOf e = fs.size) (h0 : 0 < fs.size)
    (hv : Value.okWide P w r b0 t v) (h : DataW.Trod enc P w base spare held t v d p) :
    ∃ (C : Option Addr) (len cc : Nat), v = .slice C len cc ∧ len ≤ 9223372036854775807 ∧ ∃ (b off : Nat), (0 < len → C = some ⟨b, off, none⟩ ∧ b < w.heap.size) ∧
      ∀ i, i < len → ∀ (j : Nat) (f : Field), fs[j]? = some f → ∃ (u : Value) (n : Nat) (y : DataW H × List MemPlace), w.cell? ⟨b, off + (i * fs.size + j), none⟩ = some u ∧ DataW.trod enc P w base spare held n f.type [u] = some y ∧ ∀ z ∈ y.1.weights P f.type, z ∈ d.weights P t := by
  obtain ⟨a0, len, cap, rfl⟩ := okWide_slice ht hv
  obtain ⟨fuel, hf⟩ := h
  obtain ⟨C, len', cc, hcs, h1, b, off, h2, h3⟩ := open_fieldsW ht he hone hC h0 hf
  simp [Value.cells] at hcs
  obtain ⟨rfl, rfl, rfl⟩ := hcs
  exact ⟨_, _, _, rfl, h1, b, off, h2, h3⟩
/-- A slice of integers that lies in a cell: its list, and how long it can be. -/
theorem open_cell_ints {t e : TypeId} {fuel : Nat} {u : Value} {x : DataW H × List MemPlace} (ht : P.underlying t = some (.slice e)) (he : P.underlying e = some (.int .i64)) (hc : P.cellsOf e = 1) (h8 : P.bytesOf e = 8)
    (h : DataW.trod enc P w base spare held fuel t [u] = some x) : ∃ (C : Option Addr) (cc : Nat) (zs : List Int), u = .slice C zs.length cc ∧ IntsAt w w.heap.size C zs ∧ (zs ≠ [] → zs.length ≤ 9223372036854775807 ∧ ∃ z ∈ x.1.weights P t, zs.length ≤ z) := by
  rcases open_ints ht he hc h with ⟨hcs, _⟩ | ⟨a, len, cap, zs, hcs, _, hl, hm, hz, hx, hcell, _⟩
  · injection hcs with hcs _; exact ⟨none, 0, [], hcs, fun h => absurd h (by simp), fun h => absurd rfl h⟩
  · injection hcs with hcs _
    have hzl : len ≤ zs.length := by split at hz <;> omega
    have htl : (zs.take len).length = len := by simp; omega
    unfold maxLen at hm
    refine ⟨some a, cap, zs.take len, by rw [htl]; exact hcs, fun hpos => ?_, fun _ => ⟨by rw [htl]; omega, ?_⟩⟩
    · rw [htl] at hpos
      obtain ⟨b, o, rfl, hb⟩ := addr_at (by have := hcell 0 (by omega); rwa [Addr.add_zero'] at this)
      refine ⟨b, o, rfl, hb, fun j hj => ?_⟩
      rw [htl] at hj
      have := hcell j (by omega)
      rw [Addr.add_lit] at this
      rw [this]
      simp [intF, List.getD_eq_getElem?_getD, List.getElem?_take_of_lt hj]
    · rw [hx, htl]
      refine ⟨_, by simp only [DataW.weights, ht]; exact List.mem_cons_self, ?_⟩
      rw [h8]
      simp only [lits, List.length_map, List.length_take]; omega
end
end Go.Proofs.Ytmnimcdbfolhaaa

/- A list of strings among the arguments, opened: its cells, and each string's length. -/
namespace Go.Proofs.Ytmnimcdbfolhaaa
open Go.ChangeShapes Go.WideShapes Go.ChangeAt Go.RowKit Go.Deep
section
variable {H : Type} {enc : TypeId × Value → H} {P : Program} {w : World} {base : Nat} {spare : Nat → Bool} {held : Bool} {r : Reach} {b0 : Nat}
theorem weightsAll_mem {e : TypeId} : ∀ {ds : List (DataW H)} {d : DataW H}, d ∈ ds → ∀ n ∈ d.weights P e, n ∈ DataW.weightsAll P e ds
  | d0 :: ds, d, hd, n, hn => by
    simp only [DataW.weightsAll, List.mem_append]
    rcases List.mem_cons.1 hd with rfl | hd
    · exact .inl hn
    · exact .inr (weightsAll_mem hd n hn)
theorem open_strs_at {t e : TypeId} {v : Value} {d : DataW H} {p : List MemPlace} (ht : P.underlying t = some (.slice e)) (he : P.underlying e = some .string) (hc : P.cellsOf e = 1) (hv : Value.okWide P w r b0 t v) (h : DataW.Trod enc P w base spare held t v d p)
    {ts : List TypeId} {ds : List (DataW H)} (hz : (DataW.weightsEach P ts ds).all (· ≤ reachBytes) = true) {j : Nat} (hj : ts[j]? = some t) (hd : ds[j]? = some d) :
    ∃ (C : Option Addr) (len cc : Nat) (ss : List ByteArray), v = .slice C len cc ∧ ss.length = len ∧ len ≤ 9223372036854775807 ∧ (∀ s ∈ ss, s.size ≤ 140737488355328) ∧
      (0 < len → ∃ b o, C = some ⟨b, o, none⟩ ∧ b < w.heap.size ∧ ∀ i, i < len → w.cell? ⟨b, o + i, none⟩ = some (.string (ss.getD i ByteArray.empty))) := by
  obtain ⟨a0, len, cap, rfl⟩ := okWide_slice ht hv
  obtain ⟨fuel, hf⟩ := h
  rcases open_strings ht he hc hf with ⟨hcs, _⟩ | ⟨a, len', cap', ss, hcs, _, hl, hm, hlen, hx, hcell, _⟩
  · simp [Value.cells] at hcs
    obtain ⟨rfl, rfl, rfl⟩ := hcs
    exact ⟨none, 0, 0, [], rfl, rfl, by omega, (fun s hs => by cases hs), fun h => absurd h (by omega)⟩
  · simp [Value.cells] at hcs
    obtain ⟨rfl, rfl, rfl⟩ := hcs
    have hsl : len ≤ ss.length := by split at hlen <;> omega
    have htl : (ss.take len).length = len := by simp; omega
    unfold maxLen at hm
    injection hx with hx1 hx2
    refine ⟨some a, len, cap, ss.take len, rfl, htl, by omega, fun s hs => ?_, fun hpos => ?_⟩
    · have h1 := DataW.weights_mem_each (P := P) hj hd s.data.toList.length (by
        rw [hx1]
        simp only [DataW.weights, ht, List.mem_cons, List.mem_append]
        right; left
        exact weightsAll_mem (d := .lit (.string s.data.toList)) (by unfold strs; exact List.mem_map.2 ⟨s, hs, rfl⟩) _ (by simp [DataW.weights]))
      have h2 := List.all_eq_true.1 hz _ h1
      have h3 := reachBytes_lt
      have h4 : s.data.toList.length = s.size := by simp
      simp only [decide_eq_true_eq] at h2
      omega
    · obtain ⟨b, o, rfl, hb⟩ := addr_at (by have := hcell 0 (by omega); rwa [Addr.add_zero'] at this)
      refine ⟨b, o, rfl, hb, fun i hi => ?_⟩
      have := hcell i (by omega)
      rw [Addr.add_lit] at this
      rw [this]
      simp [List.getD_eq_getElem?_getD, List.getElem?_take_of_lt hi]
end
end Go.Proofs.Ytmnimcdbfolhaaa

/- A slice of strings that lies in a cell of an argument, opened. -/
namespace Go.Proofs.Ytmnimcdbfolhaaa
open Go.ChangeShapes Go.WideShapes Go.ChangeAt Go.RowKit Go.Deep
section
variable {H : Type} {enc : TypeId × Value → H} {P : Program} {w : World} {base : Nat} {spare : Nat → Bool} {held : Bool}
theorem open_cell_strs {t e : TypeId} {fuel : Nat} {u : Value} {x : DataW H × List MemPlace} (ht : P.underlying t = some (.slice e)) (he : P.underlying e = some .string) (hc : P.cellsOf e = 1) (h16 : P.bytesOf e = 16)
    (h : DataW.trod enc P w base spare held fuel t [u] = some x) : ∃ (C : Option Addr) (cc : Nat) (ss : List ByteArray), u = .slice C ss.length cc ∧
      (0 < ss.length → ∃ b o, C = some ⟨b, o, none⟩ ∧ b < w.heap.size ∧ ∀ i, i < ss.length → w.cell? ⟨b, o + i, none⟩ = some (.string (ss.getD i ByteArray.empty))) ∧ (ss ≠ [] → ∃ z ∈ x.1.weights P t, ss.length ≤ z) ∧ ∀ s ∈ ss, ∃ z ∈ x.1.weights P t, s.size ≤ z := by
  rcases open_strings ht he hc h with ⟨hcs, _⟩ | ⟨a, len, cap, ss, hcs, _, hl, hm, hlen, hx, hcell, _⟩
  · injection hcs with hcs _; exact ⟨none, 0, [], hcs, fun h => absurd h (by simp), fun h => absurd rfl h, fun s hs => (by cases hs)⟩
  · injection hcs with hcs _
    have hsl : len ≤ ss.length := by split at hlen <;> omega
    have htl : (ss.take len).length = len := by simp; omega
    unfold maxLen at hm
    refine ⟨some a, cap, ss.take len, by rw [htl]; exact hcs, fun hpos => ?_, fun _ => ?_, fun s hs => ?_⟩
    · rw [htl] at hpos
      obtain ⟨b, o, rfl, hb⟩ := addr_at (by have := hcell 0 (by omega); rwa [Addr.add_zero'] at this)
      refine ⟨b, o, rfl, hb, fun i hi => ?_⟩
      rw [htl] at hi
      have := hcell i (by omega)
      rw [Addr.add_lit] at this
      rw [this]
      simp [List.getD_eq_getElem?_getD, List.getElem?_take_of_lt hi]
    · rw [hx, htl]
      refine ⟨_, by simp only [DataW.weights, ht]; exact List.mem_cons_self, ?_⟩
      rw [h16]
      simp only [strs, List.length_map, List.length_take]; omega
    · rw [hx]
      refine ⟨s.data.toList.length, ?_, by simp⟩
      simp only [DataW.weights, ht, List.mem_cons, List.mem_append]
      right; left
      exact weightsAll_mem (d := .lit (.string s.data.toList)) (by unfold strs; exact List.mem_map.2 ⟨s, hs, rfl⟩) _ (by simp [DataW.weights])
end
end Go.Proofs.Ytmnimcdbfolhaaa

