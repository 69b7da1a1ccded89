/- Joined of: Open Open2 Open3 R0. -/
import Derived.Deep.Slices
import Derived.Deep.Fields
import Derived.ChangeSame
import Derived.ProofKit
import Derived.OpenShut
import Derived.SizedLaws
import Derived.Lib.SmallJoins
import Derived.Test.YtphebdmdbnpokaaMem
import Derived.Test.YtphebdmdbnpokaaKit
import Derived.Test.YtphebdmdbnpokaaR1
/- Arguments opened: a slice of integers, and a slice of structs whose fields are all integers, as cells. -/
set_option linter.unusedSimpArgs false
set_option linter.unusedVariables false
namespace Go.Proofs.Ytphebdmdbnpokaa
open Go.ChangeShapes Go.WideShapes Go.Deep Go.RowKit
section
variable {H : Type} {enc : TypeId × Value → H} {P : Program} {w : World} {base : Nat} {spare : Nat → Bool} {held : Bool} {r : Reach} {b0 : Nat}
theorem addr_at {a : Addr} {v : Value} (h : w.cell? a = some v) : ∃ b o, a = ⟨b, o, none⟩ ∧ b < w.heap.size := by
  have h1 := World.cell?_spot h
  have h2 := World.block_lt_of_cell? w _ h
  obtain ⟨b, o, s⟩ := a
  obtain rfl : s = none := h1
  exact ⟨b, o, rfl, h2⟩
theorem open_ints_at {t e : TypeId} {v : Value} {d : DataW H} {p : List MemPlace} (ht : P.underlying t = some (.slice e)) (he : P.underlying e = some (.int .i64)) (hc : P.cellsOf e = 1) (hv : Value.okWide P w r b0 t v) (h : DataW.Trod enc P w base spare held t v d p) :
    ∃ (C : Option Addr) (cc : Nat) (zs : List Int), v = .slice C zs.length cc ∧ zs.length ≤ 9223372036854775807 ∧ IntsAt w w.heap.size C zs := by
  obtain ⟨a0, len, cap, rfl⟩ := okWide_slice ht hv
  obtain ⟨fuel, hf⟩ := h
  rcases open_ints ht he hc hf with ⟨hcs, _⟩ | ⟨a, len', cap', zs, hcs, _, hl, hm, hz, _, hcell, _⟩
  · simp [Value.cells] at hcs
    obtain ⟨rfl, rfl, rfl⟩ := hcs
    exact ⟨none, 0, [], rfl, by simp, fun h => absurd h (by simp)⟩
  · simp [Value.cells] at hcs
    obtain ⟨rfl, rfl, rfl⟩ := hcs
    have hzl : len ≤ zs.length := by split at hz <;> omega
    have htl : (zs.take len).length = len := by simp; omega
    unfold maxLen at hm
    refine ⟨some a, cap, zs.take len, by rw [htl], by rw [htl]; omega, fun hpos => ?_⟩
    rw [htl] at hpos ⊢
    obtain ⟨b, o, rfl, hb⟩ := addr_at (by have := hcell 0 (by omega); rwa [Addr.add_zero'] at this)
    refine ⟨b, o, rfl, hb, fun j hj => ?_⟩
    have := hcell j (by omega)
    rw [Addr.add_lit] at this
    rw [this]
    simp [intF, List.getD_eq_getElem?_getD, List.getElem?_take_of_lt hj]
/-- Fields of one cell each, all integers of the kind int. -/
def allInts (P : Program) (fs : Array Field) : Prop := ∀ (j : Nat) (f : Field), fs[j]? = some f → P.underlying f.type = some (.int .i64)
theorem open_int_structs {t e : TypeId} {fs : Array Field} {v : Value} {d : DataW H} {p : List MemPlace} (ht : P.underlying t = some (.slice e)) (he : P.underlying e = some (.struct fs)) (hone : oneCellFields P fs = true) (hC : P.cellsOf e = fs.size) (hi : allInts P fs)
    (hv : Value.okWide P w r b0 t v) (h : DataW.Trod enc P w base spare held t v d p) :
    ∃ (C : Option Addr) (len cc : Nat) (F : Nat → Int), v = .slice C len cc ∧ len ≤ 9223372036854775807 ∧ CellsAt w w.heap.size C (len * fs.size) (fun j => .int .i64 (F j)) := by
  obtain ⟨a0, len, cap, rfl⟩ := okWide_slice ht hv
  obtain ⟨fuel, hf⟩ := h
  rcases open_slice ht hf with ⟨hcs, _⟩ | ⟨a, len', cap', m, n, D, Pl, hcs, hb, hl, hm, hmm, _, hel⟩
  · simp [Value.cells] at hcs
    obtain ⟨rfl, rfl, rfl⟩ := hcs
    exact ⟨none, 0, 0, fun _ => 0, rfl, by simp, fun h => absurd h (by simp)⟩
  · simp [Value.cells] at hcs
    obtain ⟨rfl, rfl, rfl⟩ := hcs
    have hml : len ≤ m := by rw [hmm]; split <;> omega
    unfold maxLen at hm
    have key : ∀ q, q < len * fs.size → ∃ z : Int, w.cell? (a.add q) = some (.int .i64 z) := by
      intro q hq
      have hpos : 0 < fs.size := by
        rcases Nat.eq_zero_or_pos fs.size with g | g
        · rw [g] at hq; omega
        · exact g
      have hi1 : q / fs.size < len := Nat.div_lt_of_lt_mul (by rw [Nat.mul_comm]; exact hq)
      have hj1 : q % fs.size < fs.size := Nat.mod_lt _ hpos
      have hqe : q / fs.size * fs.size + q % fs.size = q := by rw [Nat.mul_comm]; exact Nat.div_add_mod q fs.size
      obtain ⟨cs', hc, ht'⟩ := hel (q / fs.size) (by omega)
      rw [hC] at hc
      obtain ⟨ys, n', hn', hy, hlen, hyl, hfd⟩ := DataW.trod_struct he ht'
      obtain ⟨_, hcl, hat⟩ := World.cells?_some hc
      have hfj : fs[q % fs.size]? = some fs[q % fs.size] := Array.getElem?_eq_getElem hj1
      obtain ⟨ho, hk⟩ := hone_of hone _ _ hfj
      have hcell := hat (q % fs.size) hj1
      have h1 := hfd _ _ hfj
      rw [ho, hk] at h1
      have hone' : (cs'.drop (q % fs.size)).take 1 = [cs'[q % fs.size]'(by omega)] := by
        rw [List.drop_eq_getElem_cons (by omega)]; rfl
      have hlt : q % fs.size < ys.length := by omega
      rw [hone', List.getElem?_eq_getElem hlt] at h1
      obtain ⟨z, hz, _⟩ := DataW.trod_int (hi _ _ hfj) h1
      refine ⟨z, ?_⟩
      rw [Go.Deep.add_add, hqe] at hcell
      rw [hcell, List.getElem?_eq_getElem (by omega)]
      simp at hz
      rw [hz]
    obtain ⟨F, hF⟩ : ∃ F : Nat → Int, ∀ q, q < len * fs.size → w.cell? (a.add q) = some (.int .i64 (F q)) :=
      ⟨fun q => if h : q < len * fs.size then (key q h).choose else 0, fun q h => by simp only [h, dite_true]; exact (key q h).choose_spec⟩
    refine ⟨some a, len, cap, F, rfl, by omega, fun hpos => ?_⟩
    obtain ⟨b, o, ha, hbl⟩ := addr_at (by have := hF 0 hpos; rwa [Addr.add_zero'] at this)
    refine ⟨b, o, by rw [ha], hbl, fun j hj => ?_⟩
    have := hF j hj
    rw [ha, Addr.add_lit] at this
    exact this
end
end Go.Proofs.Ytphebdmdbnpokaa

/- Arguments opened: a slice of structs of one-cell fields, whatever their types: each field's cell, and that it reads. -/
namespace Go.Proofs.Ytphebdmdbnpokaa
open Go.ChangeShapes Go.WideShapes Go.Deep Go.RowKit
section
variable {H : Type} {enc : TypeId × Value → H} {P : Program} {w : World} {base : Nat} {spare : Nat → Bool} {held : Bool} {r : Reach} {b0 : Nat}
/-- The same of a field that is a slice itself: no okWide is known of it, its reading tells its shape. -/
theorem open_fields {t e : TypeId} {fs : Array Field} {fuel : Nat} {cs : List Value} {x : DataW H × List MemPlace} (ht : P.underlying t = some (.slice e)) (he : P.underlying e = some (.struct fs)) (hone : oneCellFields P fs = true) (hC : P.cellsOf e = fs.size) (h0 : 0 < fs.size)
    (h : DataW.trod enc P w base spare held fuel t cs = some x) :
    ∃ (C : Option Addr) (len cc : Nat), cs = [.slice C len cc] ∧ len ≤ 9223372036854775807 ∧ ∃ (b off : Nat), (0 < len → C = some ⟨b, off, none⟩ ∧ b < w.heap.size) ∧
      ∀ i, i < len → ∀ (j : Nat) (f : Field), fs[j]? = some f → ∃ (u : Value) (n : Nat) (y : DataW H × List MemPlace), w.cell? ⟨b, off + (i * fs.size + j), none⟩ = some u ∧ DataW.trod enc P w base spare held n f.type [u] = some y := by
  rcases open_slice ht h with ⟨hcs, _⟩ | ⟨a, len, cap, m, n, D, Pl, hcs, hb, hl, hm, hmm, _, hel⟩
  · exact ⟨none, 0, 0, hcs, by simp, 0, 0, fun h => absurd h (by simp), fun i hi => absurd hi (by simp)⟩
  · have hml : len ≤ m := by rw [hmm]; split <;> omega
    unfold maxLen at hm
    have key : ∀ i, i < len → ∀ (j : Nat) (f : Field), fs[j]? = some f → ∃ (u : Value) (n : Nat) (y : DataW H × List MemPlace), w.cell? (a.add (i * fs.size + j)) = some u ∧ DataW.trod enc P w base spare held n f.type [u] = some y := by
      intro i hi j f hfj
      have hj1 : j < fs.size := (Array.getElem?_eq_some_iff.1 hfj).1
      obtain ⟨cs', hc, ht'⟩ := hel i (by omega)
      rw [hC] at hc
      obtain ⟨ys, n', hn', hy, hlen, hyl, hfd⟩ := DataW.trod_struct he ht'
      obtain ⟨_, hcl, hat⟩ := World.cells?_some hc
      obtain ⟨ho, hk⟩ := hone_of hone _ _ hfj
      have hcell := hat j hj1
      have h1 := hfd _ _ hfj
      rw [ho, hk] at h1
      have hone' : (cs'.drop j).take 1 = [cs'[j]'(by omega)] := by
        rw [List.drop_eq_getElem_cons (by omega)]; rfl
      have hlt : j < ys.length := by omega
      rw [hone', List.getElem?_eq_getElem hlt] at h1
      refine ⟨_, _, _, ?_, h1⟩
      rw [Go.Deep.add_add] at hcell
      rw [hcell, List.getElem?_eq_getElem (by omega)]
    rcases Nat.eq_zero_or_pos len with g | g
    · subst g
      exact ⟨some a, 0, cap, hcs, by omega, 0, 0, fun h => absurd h (by simp), fun i hi => absurd hi (by simp)⟩
    · obtain ⟨f, hf⟩ : ∃ f, fs[0]? = some f := ⟨_, Array.getElem?_eq_getElem h0⟩
      obtain ⟨u, n0, y, hu, _⟩ := key 0 g 0 f hf
      obtain ⟨b, o, e1, hbs⟩ := addr_at hu
      have e2 : a = ⟨b, o, none⟩ := by simpa [Addr.add_zero'] using e1
      subst e2
      refine ⟨_, len, cap, hcs, by omega, b, o, fun _ => ⟨rfl, hbs⟩, fun i hi j f hf => ?_⟩
      obtain ⟨u, n0, y, hu, hy⟩ := key i hi j f hf
      rw [Addr.add_lit] at hu
      exact ⟨u, n0, y, hu, hy⟩
theorem open_fields_at {t e : TypeId} {fs : Array Field} {v : Value} {d : DataW H} {p : List MemPlace} (ht : P.underlying t = some (.slice e)) (he : P.underlying e = some (.struct fs)) (hone : oneCellFields P fs = true) (hC : P.cellsOf e = fs.size) (h0 : 0 < fs.size)
    (hv : Value.okWide P w r b0 t v) (h : DataW.Trod enc P w base spare held t v d p) :
    ∃ (C : Option Addr) (len cc : Nat), v = .slice C len cc ∧ len ≤ 9223372036854775807 ∧ ∃ (b off : Nat), (0 < len → C = some ⟨b, off, none⟩ ∧ b < w.heap.size) ∧
      ∀ i, i < len → ∀ (j : Nat) (f : Field), fs[j]? = some f → ∃ (u : Value) (n : Nat) (y : DataW H × List MemPlace), w.cell? ⟨b, off + (i * fs.size + j), none⟩ = some u ∧ DataW.trod enc P w base spare held n f.type [u] = some y := by
  obtain ⟨a0, len, cap, rfl⟩ := okWide_slice ht hv
  obtain ⟨fuel, hf⟩ := h
  obtain ⟨C, len', cc, hcs, h1, b, off, h2, h3⟩ := open_fields ht he hone hC h0 hf
  simp [Value.cells] at hcs
  obtain ⟨rfl, rfl, rfl⟩ := hcs
  exact ⟨_, _, _, rfl, h1, b, off, h2, h3⟩
end
end Go.Proofs.Ytphebdmdbnpokaa

/- Arguments opened: as Open2, and what each field weighs. -/
namespace Go.Proofs.Ytphebdmdbnpokaa
open Go.ChangeShapes Go.WideShapes Go.Deep Go.RowKit
section
variable {H : Type} {enc : TypeId × Value → H} {P : Program} {w : World} {base : Nat} {spare : Nat → Bool} {held : Bool} {r : Reach} {b0 : Nat}
theorem weightsAll_mem3 {e : TypeId} : ∀ {ds : List (DataW H)} {d : DataW H}, d ∈ ds → ∀ n ∈ d.weights P e, n ∈ DataW.weightsAll P e ds
  | d0 :: ds, d, hd, n, hn => by
    simp only [DataW.weightsAll, List.mem_append]
    rcases List.mem_cons.1 hd with rfl | hd
    · exact .inl hn
    · exact .inr (weightsAll_mem3 hd n hn)
theorem open_fieldsW {t e : TypeId} {fs : Array Field} {fuel : Nat} {cs : List Value} {x : DataW H × List MemPlace} (ht : P.underlying t = some (.slice e)) (he : P.underlying e = some (.struct fs)) (hone : oneCellFields P fs = true) (hC : P.cellsOf e = fs.size) (h0 : 0 < fs.size)
    (h : DataW.trod enc P w base spare held fuel t cs = some x) :
    ∃ (C : Option Addr) (len cc : Nat), cs = [.slice C len cc] ∧ len ≤ 9223372036854775807 ∧ ∃ (b off : Nat), (0 < len → C = some ⟨b, off, none⟩ ∧ b < w.heap.size) ∧
      ∀ i, i < len → ∀ (j : Nat) (f : Field), fs[j]? = some f → ∃ (u : Value) (n : Nat) (y : DataW H × List MemPlace), w.cell? ⟨b, off + (i * fs.size + j), none⟩ = some u ∧ DataW.trod enc P w base spare held n f.type [u] = some y ∧ ∀ z ∈ y.1.weights P f.type, z ∈ x.1.weights P t := by
  rcases DataW.trod_slice ht h with ⟨hcs, _⟩ | ⟨a, len, cap, elems, rest, n, _, hcs, hx, hb, hl, hm, hlen, hel, _, _⟩
  · exact ⟨none, 0, 0, hcs, by simp, 0, 0, fun h => absurd h (by simp), fun i hi => absurd hi (by simp)⟩
  · unfold maxLen at hm
    have key : ∀ i, i < len → ∀ (j : Nat) (f : Field), fs[j]? = some f → ∃ (u : Value) (n : Nat) (y : DataW H × List MemPlace), w.cell? (a.add (i * fs.size + j)) = some u ∧ DataW.trod enc P w base spare held n f.type [u] = some y ∧ ∀ z ∈ y.1.weights P f.type, z ∈ x.1.weights P t := by
      intro i hi j f hfj
      have hj1 : j < fs.size := (Array.getElem?_eq_some_iff.1 hfj).1
      have hi2 : i < elems.length := by omega
      have hei : elems[i]? = some (elems[i]'hi2) := List.getElem?_eq_getElem hi2
      have hb1 := hel i hi
      rw [hei, Option.bind_eq_some_iff] at hb1
      obtain ⟨cs', hc, ht'⟩ := hb1
      rw [hC] at hc
      obtain ⟨ys, n', hn', hy, hlen, hyl, hfd⟩ := DataW.trod_struct he ht'
      obtain ⟨_, hcl, hat⟩ := World.cells?_some hc
      obtain ⟨ho, hk⟩ := hone_of hone _ _ hfj
      have hcell := hat j hj1
      have h1 := hfd _ _ hfj
      rw [ho, hk] at h1
      have hone' : (cs'.drop j).take 1 = [cs'[j]'(by omega)] := by
        rw [List.drop_eq_getElem_cons (by omega)]; rfl
      have hlt : j < ys.length := by omega
      rw [hone', List.getElem?_eq_getElem hlt] at h1
      refine ⟨_, _, _, ?_, h1, fun z hz => ?_⟩
      · rw [Go.Deep.add_add] at hcell
        rw [hcell, List.getElem?_eq_getElem (by omega)]
      · rw [hx]
        simp only [DataW.weights, ht, List.mem_cons, List.mem_append]
        right; left
        refine weightsAll_mem3 (List.mem_map.2 ⟨elems[i]'hi2, List.getElem_mem hi2, rfl⟩) z ?_
        rw [hy]
        simp only [DataW.weights, he]
        refine DataW.weights_mem_each (j := j) (t := f.type) (d := (ys[j]'hlt).1) ?_ ?_ z hz
        · rw [List.getElem?_map]
          have : fs.toList[j]? = some f := by simpa using hfj
          rw [this]; rfl
        · rw [List.getElem?_map, List.getElem?_eq_getElem hlt]; rfl
    rcases Nat.eq_zero_or_pos len with g | g
    · subst g
      exact ⟨some a, 0, cap, hcs, by omega, 0, 0, fun h => absurd h (by simp), fun i hi => absurd hi (by simp)⟩
    · obtain ⟨f, hf⟩ : ∃ f, fs[0]? = some f := ⟨_, Array.getElem?_eq_getElem h0⟩
      obtain ⟨u, n0, y, hu, _⟩ := key 0 g 0 f hf
      obtain ⟨b, o, e1, hbs⟩ := addr_at hu
      have e2 : a = ⟨b, o, none⟩ := by simpa [Addr.add_zero'] using e1
      subst e2
      refine ⟨_, len, cap, hcs, by omega, b, o, fun _ => ⟨rfl, hbs⟩, fun i hi j f hf => ?_⟩
      obtain ⟨u, n0, y, hu, hy⟩ := key i hi j f hf
      rw [Addr.add_lit] at hu
      exact ⟨u, n0, y, hu, hy⟩
theorem open_fieldsW_at {t e : TypeId} {fs : Array Field} {v : Value} {d : DataW H} {p : List MemPlace} (ht : P.underlying t = some (.slice e)) (he : P.underlying e = some (.struct fs)) (hone : oneCellFields P fs = true) (hC : P.cellsOf e = fs.size) (h0 : 0 < fs.size)
    (hv : Value.okWide P w r b0 t v) (h : DataW.Trod enc P w base spare held t v d p) :
    ∃ (C : Option Addr) (len cc : Nat), v = .slice C len cc ∧ len ≤ 9223372036854775807 ∧ ∃ (b off : Nat), (0 < len → C = some ⟨b, off, none⟩ ∧ b < w.heap.size) ∧
      ∀ i, i < len → ∀ (j : Nat) (f : Field), fs[j]? = some f → ∃ (u : Value) (n : Nat) (y : DataW H × List MemPlace), w.cell? ⟨b, off + (i * fs.size + j), none⟩ = some u ∧ DataW.trod enc P w base spare held n f.type [u] = some y ∧ ∀ z ∈ y.1.weights P f.type, z ∈ d.weights P t := by
  obtain ⟨a0, len, cap, rfl⟩ := okWide_slice ht hv
  obtain ⟨fuel, hf⟩ := h
  obtain ⟨C, len', cc, hcs, h1, b, off, h2, h3⟩ := open_fieldsW ht he hone hC h0 hf
  simp [Value.cells] at hcs
  obtain ⟨rfl, rfl, rfl⟩ := hcs
  exact ⟨_, _, _, rfl, h1, b, off, h2, h3⟩
/-- A slice of integers that lies in a cell: its list, and how long it can be. -/
theorem open_cell_ints {t e : TypeId} {fuel : Nat} {u : Value} {x : DataW H × List MemPlace} (ht : P.underlying t = some (.slice e)) (he : P.underlying e = some (.int .i64)) (hc : P.cellsOf e = 1) (h8 : P.bytesOf e = 8)
    (h : DataW.trod enc P w base spare held fuel t [u] = some x) : ∃ (C : Option Addr) (cc : Nat) (zs : List Int), u = .slice C zs.length cc ∧ IntsAt w w.heap.size C zs ∧ (zs ≠ [] → zs.length ≤ 9223372036854775807 ∧ ∃ z ∈ x.1.weights P t, zs.length ≤ z) := by
  rcases open_ints ht he hc h with ⟨hcs, _⟩ | ⟨a, len, cap, zs, hcs, _, hl, hm, hz, hx, hcell, _⟩
  · injection hcs with hcs _; exact ⟨none, 0, [], hcs, fun h => absurd h (by simp), fun h => absurd rfl h⟩
  · injection hcs with hcs _
    have hzl : len ≤ zs.length := by split at hz <;> omega
    have htl : (zs.take len).length = len := by simp; omega
    unfold maxLen at hm
    refine ⟨some a, cap, zs.take len, by rw [htl]; exact hcs, fun hpos => ?_, fun _ => ⟨by rw [htl]; omega, ?_⟩⟩
    · rw [htl] at hpos
      obtain ⟨b, o, rfl, hb⟩ := addr_at (by have := hcell 0 (by omega); rwa [Addr.add_zero'] at this)
      refine ⟨b, o, rfl, hb, fun j hj => ?_⟩
      rw [htl] at hj
      have := hcell j (by omega)
      rw [Addr.add_lit] at this
      rw [this]
      simp [intF, List.getD_eq_getElem?_getD, List.getElem?_take_of_lt hj]
    · rw [hx, htl]
      refine ⟨_, by simp only [DataW.weights, ht]; exact List.mem_cons_self, ?_⟩
      rw [h8]
      simp only [lits, List.length_map, List.length_take]; omega
end
end Go.Proofs.Ytphebdmdbnpokaa

/- What the rows share: closed facts of the program; the opened arguments. (Printed by gen_r0.py.) -/
namespace Go.Proofs.Ytphebdmdbnpokaa
open Go.ChangeShapes Go.WideShapes Go.ChangeAt Go.RowKit Go.Deep RD
set_option maxRecDepth 100000

def In64 (x : Int) : Prop := -9223372036854775808 ≤ x ∧ x ≤ 9223372036854775807
theorem own : ownKnob Try.prog.godebug = none := by kernel_rfl
theorem laidOut : laidOutB Try.prog = true := by kernel_rfl
theorem cellsI : Try.prog.cellsOf 3 = 1 := by kernel_rfl
theorem bytesI : Try.prog.bytesOf 3 = 8 := by kernel_rfl
theorem cellsL : Try.prog.cellsOf 29 = 1 := by kernel_rfl
theorem cellsBas : Try.prog.cellsOf 31 = 11 := by kernel_rfl
theorem fieldsBas : ∃ fs, Try.prog.underlying 31 = some (.struct fs) ∧ oneCellFields Try.prog fs = true ∧ fs.size = 11 ∧ fs.map (·.type) = #[9, 22, 3, 23, 24, 25, 26, 27, 28, 29, 3] := ⟨_, Try.underlying31, by kernel_rfl, by kernel_rfl, by kernel_rfl⟩
theorem cellsTown : Try.prog.cellsOf 47 = 7 := by kernel_rfl
theorem fieldsTown : ∃ fs, Try.prog.underlying 47 = some (.struct fs) ∧ oneCellFields Try.prog fs = true ∧ fs.size = 7 ∧ fs.map (·.type) = #[9, 3, 3, 3, 3, 3, 3] := ⟨_, Try.underlying47, by kernel_rfl, by kernel_rfl, by kernel_rfl⟩
theorem cellsRoad : Try.prog.cellsOf 56 = 7 := by kernel_rfl
theorem fieldsRoad : ∃ fs, Try.prog.underlying 56 = some (.struct fs) ∧ oneCellFields Try.prog fs = true ∧ fs.size = 7 ∧ fs.map (·.type) = #[9, 3, 3, 3, 3, 3, 3] := ⟨_, Try.underlying56, by kernel_rfl, by kernel_rfl, by kernel_rfl⟩
theorem cellsShel : Try.prog.cellsOf 49 = 2 := by kernel_rfl
theorem fieldsShel : ∃ fs, Try.prog.underlying 49 = some (.struct fs) ∧ oneCellFields Try.prog fs = true ∧ fs.size = 2 ∧ fs.map (·.type) = #[9, 3] := ⟨_, Try.underlying49, by kernel_rfl, by kernel_rfl, by kernel_rfl⟩
section
variable {H : Type} {enc : TypeId × Value → H} {P : Program} {w : World} {base : Nat} {spare : Nat → Bool} {held : Bool} {r : Reach} {b0 : Nat}
theorem agg_fields {t : TypeId} {fs : Array Field} {v : Value} {d : DataW H} {p : List MemPlace} (hs : P.underlying t = some (.struct fs)) (hone : oneCellFields P fs = true) (hC : P.cellsOf t = fs.size) (hv : Value.okWide P w r b0 t v) (h : DataW.Trod enc P w base spare held t v d p) :
    ∃ cs : Array Value, v = .agg cs ∧ cs.size = fs.size ∧ ∀ (j : Nat) (f : Field), fs[j]? = some f → ∃ (u : Value) (n : Nat) (y : DataW H × List MemPlace), cs[j]? = some u ∧ DataW.trod enc P w base spare held n f.type [u] = some y := by
  obtain ⟨cs, rfl, hsz⟩ := okWide_struct hs hv
  refine ⟨cs, rfl, hsz.trans hC, fun j f hj => ?_⟩
  obtain ⟨fuel, hf⟩ := h
  obtain ⟨xs, n, _, hx, _, hlen, hg⟩ := DataW.trod_struct hs hf
  have hjl : j < fs.size := (Array.getElem?_eq_some_iff.1 hj).1
  obtain ⟨ho, hk⟩ := hone_of hone j f hj
  have h1 := hg j f hj
  rw [ho, hk] at h1
  have hlt : j < cs.size := by rw [hsz, hC]; exact hjl
  have hcl : (Value.agg cs).cells.toList = cs.toList := rfl
  have hone' : ((Value.agg cs).cells.toList.drop j).take 1 = [cs[j]] := by
    rw [hcl, List.drop_eq_getElem_cons (by simpa using hlt)]
    simp
  rw [hone', List.getElem?_eq_getElem (by omega)] at h1
  exact ⟨_, _, _, Array.getElem?_eq_getElem hlt, h1⟩
theorem slice_shape {t e : TypeId} {n : Nat} {u : Value} {y : DataW H × List MemPlace} (ht : P.underlying t = some (.slice e)) (h : DataW.trod enc P w base spare held n t [u] = some y) : ∃ C l c, u = .slice C l c := by
  rcases open_slice ht h with ⟨hcs, _⟩ | ⟨a, len, cap, _, _, _, _, hcs, _⟩
  · exact ⟨none, 0, 0, by simpa using hcs⟩
  · exact ⟨some a, len, cap, by simpa using hcs⟩
theorem slice_long {t e : TypeId} {n : Nat} {u : Value} {y : DataW H × List MemPlace} (ht : P.underlying t = some (.slice e)) (h : DataW.trod enc P w base spare held n t [u] = some y) : ∃ C l c, u = .slice C l c ∧ l ≤ 9223372036854775807 := by
  rcases open_slice ht h with ⟨hcs, _⟩ | ⟨a, len, cap, _, _, _, _, hcs, _, hl, hm, _⟩
  · exact ⟨none, 0, 0, by simpa using hcs, by omega⟩
  · unfold maxLen at hm
    exact ⟨some a, len, cap, by simpa using hcs, by omega⟩
theorem wf_in {a : Int} (h : (Lit.int .i64 a).wf = true) : In64 a := by
  simp only [Lit.wf, IntKind.min, IntKind.max, IntKind.signed, IntKind.bits, Bool.and_eq_true, decide_eq_true_eq, if_true] at h
  unfold In64
  omega
end
section
variable {H : Type} {enc : TypeId × Value → H} {w : World} {base : Nat} {spare : Nat → Bool} {held : Bool} {r : Reach} {b0 : Nat}
theorem open_rowTown {fuel : Nat} {u : Value} {x : DataW H × List MemPlace} (h : DataW.trod enc Try.prog w base spare held fuel 25 [u] = some x) : ∃ (C : Option Addr) (cc : Nat) (A : List Tn), u = .slice C A.length cc ∧ A.length ≤ 9223372036854775807 ∧ RowAt townC 7 w w.heap.size C A := by
  obtain ⟨fp, hep, honep, hszp, hty⟩ := fieldsTown
  obtain ⟨C, len, cc, e3, hl, b, off, hC, hcp⟩ := open_fields Try.underlying25 hep honep (cellsTown.trans hszp.symm) (by omega) h
  simp at e3
  have hf : ∀ j, j < 7 → ∃ f, fp[j]? = some f ∧ some f.type = (#[9, 3, 3, 3, 3, 3, 3] : Array Nat)[j]? := fun j hj => by
    refine ⟨fp[j]'(by omega), Array.getElem?_eq_getElem _, ?_⟩
    rw [← hty]; simp [hszp, hj]
  have key : ∀ i, ∃ r : Tn, i < len → ∀ (j : Nat) (v : Value), (townC r)[j]? = some v → w.cell? ⟨b, off + (i * 7 + j), none⟩ = some v := by
    intro i
    by_cases hi : i < len
    · skip
      obtain ⟨f0, g0, t0⟩ := hf 0 (by omega)
      obtain ⟨u0, n0, y0, c0, r0⟩ := hcp i hi 0 f0 g0
      rw [show f0.type = 9 by simpa using t0] at r0
      obtain ⟨z0, e0, _⟩ := DataW.trod_string Try.underlying9 r0
      simp at e0
      subst e0
      rw [hszp] at c0
      obtain ⟨f1, g1, t1⟩ := hf 1 (by omega)
      obtain ⟨u1, n1, y1, c1, r1⟩ := hcp i hi 1 f1 g1
      rw [show f1.type = 3 by simpa using t1] at r1
      obtain ⟨z1, e1, _⟩ := DataW.trod_int Try.underlying3 r1
      simp at e1
      subst e1
      rw [hszp] at c1
      obtain ⟨f2, g2, t2⟩ := hf 2 (by omega)
      obtain ⟨u2, n2, y2, c2, r2⟩ := hcp i hi 2 f2 g2
      rw [show f2.type = 3 by simpa using t2] at r2
      obtain ⟨z2, e2, _⟩ := DataW.trod_int Try.underlying3 r2
      simp at e2
      subst e2
      rw [hszp] at c2
      obtain ⟨f3, g3, t3⟩ := hf 3 (by omega)
      obtain ⟨u3, n3, y3, c3, r3⟩ := hcp i hi 3 f3 g3
      rw [show f3.type = 3 by simpa using t3] at r3
      obtain ⟨z3, e3, _⟩ := DataW.trod_int Try.underlying3 r3
      simp at e3
      subst e3
      rw [hszp] at c3
      obtain ⟨f4, g4, t4⟩ := hf 4 (by omega)
      obtain ⟨u4, n4, y4, c4, r4⟩ := hcp i hi 4 f4 g4
      rw [show f4.type = 3 by simpa using t4] at r4
      obtain ⟨z4, e4, _⟩ := DataW.trod_int Try.underlying3 r4
      simp at e4
      subst e4
      rw [hszp] at c4
      obtain ⟨f5, g5, t5⟩ := hf 5 (by omega)
      obtain ⟨u5, n5, y5, c5, r5⟩ := hcp i hi 5 f5 g5
      rw [show f5.type = 3 by simpa using t5] at r5
      obtain ⟨z5, e5, _⟩ := DataW.trod_int Try.underlying3 r5
      simp at e5
      subst e5
      rw [hszp] at c5
      obtain ⟨f6, g6, t6⟩ := hf 6 (by omega)
      obtain ⟨u6, n6, y6, c6, r6⟩ := hcp i hi 6 f6 g6
      rw [show f6.type = 3 by simpa using t6] at r6
      obtain ⟨z6, e6, _⟩ := DataW.trod_int Try.underlying3 r6
      simp at e6
      subst e6
      rw [hszp] at c6
      refine ⟨⟨z0, z1, z2, z3, z4, z5, z6⟩, fun _ j v hj => ?_⟩
      have hj7 : j < 7 := (List.getElem?_eq_some_iff.1 hj).1
      match j, hj7 with
      | 0, _ => (obtain rfl := Option.some.inj hj; exact c0)
      | 1, _ => (obtain rfl := Option.some.inj hj; exact c1)
      | 2, _ => (obtain rfl := Option.some.inj hj; exact c2)
      | 3, _ => (obtain rfl := Option.some.inj hj; exact c3)
      | 4, _ => (obtain rfl := Option.some.inj hj; exact c4)
      | 5, _ => (obtain rfl := Option.some.inj hj; exact c5)
      | 6, _ => (obtain rfl := Option.some.inj hj; exact c6)
    · exact ⟨⟨⟨#[]⟩, 0, 0, 0, 0, 0, 0⟩, fun h => absurd h hi⟩
  obtain ⟨F, hF⟩ := Classical.skolem.1 key
  have hA : ((List.range len).map F).length = len := by simp
  refine ⟨C, cc, (List.range len).map F, by rw [hA]; exact e3, by rw [hA]; exact hl, fun hpos => ?_⟩
  rw [hA] at hpos
  obtain ⟨e, hb⟩ := hC hpos
  refine ⟨b, off, e, hb, fun k r hk j v hj => ?_⟩
  have hkl : k < len := by have := (List.getElem?_eq_some_iff.1 hk).1; omega
  have hr0 : F k = r := by simpa [hkl] using hk
  subst hr0
  exact hF k hkl j v hj
theorem open_rowRoad {fuel : Nat} {u : Value} {x : DataW H × List MemPlace} (h : DataW.trod enc Try.prog w base spare held fuel 27 [u] = some x) : ∃ (C : Option Addr) (cc : Nat) (A : List Rd), u = .slice C A.length cc ∧ A.length ≤ 9223372036854775807 ∧ RowAt roadC 7 w w.heap.size C A := by
  obtain ⟨fp, hep, honep, hszp, hty⟩ := fieldsRoad
  obtain ⟨C, len, cc, e3, hl, b, off, hC, hcp⟩ := open_fields Try.underlying27 hep honep (cellsRoad.trans hszp.symm) (by omega) h
  simp at e3
  have hf : ∀ j, j < 7 → ∃ f, fp[j]? = some f ∧ some f.type = (#[9, 3, 3, 3, 3, 3, 3] : Array Nat)[j]? := fun j hj => by
    refine ⟨fp[j]'(by omega), Array.getElem?_eq_getElem _, ?_⟩
    rw [← hty]; simp [hszp, hj]
  have key : ∀ i, ∃ r : Rd, i < len → ∀ (j : Nat) (v : Value), (roadC r)[j]? = some v → w.cell? ⟨b, off + (i * 7 + j), none⟩ = some v := by
    intro i
    by_cases hi : i < len
    · skip
      obtain ⟨f0, g0, t0⟩ := hf 0 (by omega)
      obtain ⟨u0, n0, y0, c0, r0⟩ := hcp i hi 0 f0 g0
      rw [show f0.type = 9 by simpa using t0] at r0
      obtain ⟨z0, e0, _⟩ := DataW.trod_string Try.underlying9 r0
      simp at e0
      subst e0
      rw [hszp] at c0
      obtain ⟨f1, g1, t1⟩ := hf 1 (by omega)
      obtain ⟨u1, n1, y1, c1, r1⟩ := hcp i hi 1 f1 g1
      rw [show f1.type = 3 by simpa using t1] at r1
      obtain ⟨z1, e1, _⟩ := DataW.trod_int Try.underlying3 r1
      simp at e1
      subst e1
      rw [hszp] at c1
      obtain ⟨f2, g2, t2⟩ := hf 2 (by omega)
      obtain ⟨u2, n2, y2, c2, r2⟩ := hcp i hi 2 f2 g2
      rw [show f2.type = 3 by simpa using t2] at r2
      obtain ⟨z2, e2, _⟩ := DataW.trod_int Try.underlying3 r2
      simp at e2
      subst e2
      rw [hszp] at c2
      obtain ⟨f3, g3, t3⟩ := hf 3 (by omega)
      obtain ⟨u3, n3, y3, c3, r3⟩ := hcp i hi 3 f3 g3
      rw [show f3.type = 3 by simpa using t3] at r3
      obtain ⟨z3, e3, _⟩ := DataW.trod_int Try.underlying3 r3
      simp at e3
      subst e3
      rw [hszp] at c3
      obtain ⟨f4, g4, t4⟩ := hf 4 (by omega)
      obtain ⟨u4, n4, y4, c4, r4⟩ := hcp i hi 4 f4 g4
      rw [show f4.type = 3 by simpa using t4] at r4
      obtain ⟨z4, e4, _⟩ := DataW.trod_int Try.underlying3 r4
      simp at e4
      subst e4
      rw [hszp] at c4
      obtain ⟨f5, g5, t5⟩ := hf 5 (by omega)
      obtain ⟨u5, n5, y5, c5, r5⟩ := hcp i hi 5 f5 g5
      rw [show f5.type = 3 by simpa using t5] at r5
      obtain ⟨z5, e5, _⟩ := DataW.trod_int Try.underlying3 r5
      simp at e5
      subst e5
      rw [hszp] at c5
      obtain ⟨f6, g6, t6⟩ := hf 6 (by omega)
      obtain ⟨u6, n6, y6, c6, r6⟩ := hcp i hi 6 f6 g6
      rw [show f6.type = 3 by simpa using t6] at r6
      obtain ⟨z6, e6, _⟩ := DataW.trod_int Try.underlying3 r6
      simp at e6
      subst e6
      rw [hszp] at c6
      refine ⟨⟨z0, z1, z2, z3, z4, z5, z6⟩, fun _ j v hj => ?_⟩
      have hj7 : j < 7 := (List.getElem?_eq_some_iff.1 hj).1
      match j, hj7 with
      | 0, _ => (obtain rfl := Option.some.inj hj; exact c0)
      | 1, _ => (obtain rfl := Option.some.inj hj; exact c1)
      | 2, _ => (obtain rfl := Option.some.inj hj; exact c2)
      | 3, _ => (obtain rfl := Option.some.inj hj; exact c3)
      | 4, _ => (obtain rfl := Option.some.inj hj; exact c4)
      | 5, _ => (obtain rfl := Option.some.inj hj; exact c5)
      | 6, _ => (obtain rfl := Option.some.inj hj; exact c6)
    · exact ⟨⟨⟨#[]⟩, 0, 0, 0, 0, 0, 0⟩, fun h => absurd h hi⟩
  obtain ⟨F, hF⟩ := Classical.skolem.1 key
  have hA : ((List.range len).map F).length = len := by simp
  refine ⟨C, cc, (List.range len).map F, by rw [hA]; exact e3, by rw [hA]; exact hl, fun hpos => ?_⟩
  rw [hA] at hpos
  obtain ⟨e, hb⟩ := hC hpos
  refine ⟨b, off, e, hb, fun k r hk j v hj => ?_⟩
  have hkl : k < len := by have := (List.getElem?_eq_some_iff.1 hk).1; omega
  have hr0 : F k = r := by simpa [hkl] using hk
  subst hr0
  exact hF k hkl j v hj
theorem open_rowShel {fuel : Nat} {u : Value} {x : DataW H × List MemPlace} (h : DataW.trod enc Try.prog w base spare held fuel 28 [u] = some x) : ∃ (C : Option Addr) (cc : Nat) (A : List Sh), u = .slice C A.length cc ∧ A.length ≤ 9223372036854775807 ∧ RowAt shC 2 w w.heap.size C A := by
  obtain ⟨fp, hep, honep, hszp, hty⟩ := fieldsShel
  obtain ⟨C, len, cc, e3, hl, b, off, hC, hcp⟩ := open_fields Try.underlying28 hep honep (cellsShel.trans hszp.symm) (by omega) h
  simp at e3
  have hf : ∀ j, j < 2 → ∃ f, fp[j]? = some f ∧ some f.type = (#[9, 3] : Array Nat)[j]? := fun j hj => by
    refine ⟨fp[j]'(by omega), Array.getElem?_eq_getElem _, ?_⟩
    rw [← hty]; simp [hszp, hj]
  have key : ∀ i, ∃ r : Sh, i < len → ∀ (j : Nat) (v : Value), (shC r)[j]? = some v → w.cell? ⟨b, off + (i * 2 + j), none⟩ = some v := by
    intro i
    by_cases hi : i < len
    · skip
      obtain ⟨f0, g0, t0⟩ := hf 0 (by omega)
      obtain ⟨u0, n0, y0, c0, r0⟩ := hcp i hi 0 f0 g0
      rw [show f0.type = 9 by simpa using t0] at r0
      obtain ⟨z0, e0, _⟩ := DataW.trod_string Try.underlying9 r0
      simp at e0
      subst e0
      rw [hszp] at c0
      obtain ⟨f1, g1, t1⟩ := hf 1 (by omega)
      obtain ⟨u1, n1, y1, c1, r1⟩ := hcp i hi 1 f1 g1
      rw [show f1.type = 3 by simpa using t1] at r1
      obtain ⟨z1, e1, _⟩ := DataW.trod_int Try.underlying3 r1
      simp at e1
      subst e1
      rw [hszp] at c1
      refine ⟨⟨z0, z1⟩, fun _ j v hj => ?_⟩
      have hj2 : j < 2 := (List.getElem?_eq_some_iff.1 hj).1
      match j, hj2 with
      | 0, _ => (obtain rfl := Option.some.inj hj; exact c0)
      | 1, _ => (obtain rfl := Option.some.inj hj; exact c1)
    · exact ⟨⟨⟨#[]⟩, 0⟩, fun h => absurd h hi⟩
  obtain ⟨F, hF⟩ := Classical.skolem.1 key
  have hA : ((List.range len).map F).length = len := by simp
  refine ⟨C, cc, (List.range len).map F, by rw [hA]; exact e3, by rw [hA]; exact hl, fun hpos => ?_⟩
  rw [hA] at hpos
  obtain ⟨e, hb⟩ := hC hpos
  refine ⟨b, off, e, hb, fun k r hk j v hj => ?_⟩
  have hkl : k < len := by have := (List.getElem?_eq_some_iff.1 hk).1; omega
  have hr0 : F k = r := by simpa [hkl] using hk
  subst hr0
  exact hF k hkl j v hj
theorem open_basin {v : Value} {d : DataW H} {p : List MemPlace} (hv : Value.okWide Try.prog w r b0 31 v) (h : DataW.Trod enc Try.prog w base spare held 31 v d p) :
    ∃ X : Bs, v = .agg #[.string X.nm, .slice X.a1 X.l1 X.c1, .int .i64 X.cl, .slice X.a3 X.l3 X.c3, .slice X.a4 X.l4 X.c4, .slice X.a5 X.T.length X.c5, .slice X.a6 X.l6 X.c6, .slice X.a7 X.R.length X.c7, .slice X.a8 X.S.length X.c8, .slice X.a9 X.l9 X.c9, .int .i64 X.er] ∧ X.T.length ≤ 9223372036854775807 ∧ X.R.length ≤ 9223372036854775807 ∧ X.S.length ≤ 9223372036854775807 ∧ X.l3 ≤ 9223372036854775807 ∧ BsAt w w.heap.size X := by
  obtain ⟨fs, he, hone, hsz, hty⟩ := fieldsBas
  obtain ⟨cs, rfl, hcs, hc⟩ := agg_fields he hone (cellsBas.trans hsz.symm) hv h
  have hf : ∀ j, j < 11 → ∃ f, fs[j]? = some f ∧ some f.type = (#[9, 22, 3, 23, 24, 25, 26, 27, 28, 29, 3] : Array Nat)[j]? := fun j hj => by
    refine ⟨fs[j]'(by omega), Array.getElem?_eq_getElem _, ?_⟩
    rw [← hty]; simp [hsz, hj]
  obtain ⟨f0, g0, t0⟩ := hf 0 (by omega)
  obtain ⟨u0, n0, y0, c0, r0⟩ := hc 0 f0 g0
  rw [show f0.type = 9 by simpa using t0] at r0
  obtain ⟨z0, e0, _⟩ := DataW.trod_string Try.underlying9 r0
  simp at e0
  obtain ⟨f1, g1, t1⟩ := hf 1 (by omega)
  obtain ⟨u1, n1, y1, c1, r1⟩ := hc 1 f1 g1
  rw [show f1.type = 22 by simpa using t1] at r1
  obtain ⟨A1, l1, k1, e1⟩ := slice_shape Try.underlying22 r1
  obtain ⟨f2, g2, t2⟩ := hf 2 (by omega)
  obtain ⟨u2, n2, y2, c2, r2⟩ := hc 2 f2 g2
  rw [show f2.type = 3 by simpa using t2] at r2
  obtain ⟨z2, e2, _⟩ := DataW.trod_int Try.underlying3 r2
  simp at e2
  obtain ⟨f3, g3, t3⟩ := hf 3 (by omega)
  obtain ⟨u3, n3, y3, c3, r3⟩ := hc 3 f3 g3
  rw [show f3.type = 23 by simpa using t3] at r3
  obtain ⟨A3, l3, k3, e3, hl3⟩ := slice_long Try.underlying23 r3
  obtain ⟨f4, g4, t4⟩ := hf 4 (by omega)
  obtain ⟨u4, n4, y4, c4, r4⟩ := hc 4 f4 g4
  rw [show f4.type = 24 by simpa using t4] at r4
  obtain ⟨A4, l4, k4, e4⟩ := slice_shape Try.underlying24 r4
  obtain ⟨f5, g5, t5⟩ := hf 5 (by omega)
  obtain ⟨u5, n5, y5, c5, r5⟩ := hc 5 f5 g5
  rw [show f5.type = 25 by simpa using t5] at r5
  obtain ⟨A5, k5, M5, e5, hl5, hr5⟩ := open_rowTown r5
  obtain ⟨f6, g6, t6⟩ := hf 6 (by omega)
  obtain ⟨u6, n6, y6, c6, r6⟩ := hc 6 f6 g6
  rw [show f6.type = 26 by simpa using t6] at r6
  obtain ⟨A6, l6, k6, e6⟩ := slice_shape Try.underlying26 r6
  obtain ⟨f7, g7, t7⟩ := hf 7 (by omega)
  obtain ⟨u7, n7, y7, c7, r7⟩ := hc 7 f7 g7
  rw [show f7.type = 27 by simpa using t7] at r7
  obtain ⟨A7, k7, M7, e7, hl7, hr7⟩ := open_rowRoad r7
  obtain ⟨f8, g8, t8⟩ := hf 8 (by omega)
  obtain ⟨u8, n8, y8, c8, r8⟩ := hc 8 f8 g8
  rw [show f8.type = 28 by simpa using t8] at r8
  obtain ⟨A8, k8, M8, e8, hl8, hr8⟩ := open_rowShel r8
  obtain ⟨f9, g9, t9⟩ := hf 9 (by omega)
  obtain ⟨u9, n9, y9, c9, r9⟩ := hc 9 f9 g9
  rw [show f9.type = 29 by simpa using t9] at r9
  obtain ⟨A9, l9, k9, e9⟩ := slice_shape Try.underlying29 r9
  obtain ⟨f10, g10, t10⟩ := hf 10 (by omega)
  obtain ⟨u10, n10, y10, c10, r10⟩ := hc 10 f10 g10
  rw [show f10.type = 3 by simpa using t10] at r10
  obtain ⟨z10, e10, _⟩ := DataW.trod_int Try.underlying3 r10
  simp at e10
  refine ⟨⟨z0, A1, l1, k1, z2, A3, l3, k3, A4, l4, k4, A5, M5, k5, A6, l6, k6, A7, M7, k7, A8, M8, k8, A9, l9, k9, z10⟩, ?_, hl5, hl7, hl8, hl3, ⟨hr5, hr7, hr8⟩⟩
  congr 1
  subst e0 e1 e2 e3 e4 e5 e6 e7 e8 e9 e10
  have hs11 : cs.size = 11 := by rw [hcs, hsz]
  obtain ⟨l⟩ := cs
  match l, hs11 with
  | [a0, a1, a2, a3, a4, a5, a6, a7, a8, a9, a10], _ =>
    simp at c0 c1 c2 c3 c4 c5 c6 c7 c8 c9 c10
    subst c0 c1 c2 c3 c4 c5 c6 c7 c8 c9 c10
    rfl
theorem open_ints64 {v : Value} {d : DataW H} {p : List MemPlace} (hv : Value.okWide Try.prog w r b0 29 v) (h : DataW.Trod enc Try.prog w base spare held 29 v d p) :
    ∃ (C : Option Addr) (cc : Nat) (zs : List Int), v = .slice C zs.length cc ∧ zs.length ≤ 9223372036854775807 ∧ IntsAt w w.heap.size C zs ∧ ∀ x ∈ zs, In64 x := by
  obtain ⟨a0, len, cap, rfl⟩ := okWide_slice Try.underlying29 hv
  obtain ⟨fuel, hf⟩ := h
  rcases open_slice Try.underlying29 hf with ⟨hcs, _⟩ | ⟨a, len', cap', m, n, D, Pl, hcs, hb, hl, hm, hmm, _, hel⟩
  · simp [Value.cells] at hcs
    obtain ⟨rfl, rfl, rfl⟩ := hcs
    exact ⟨none, 0, [], rfl, by simp, fun h => absurd h (by simp), fun x hx => nomatch hx⟩
  · simp [Value.cells] at hcs
    obtain ⟨rfl, rfl, rfl⟩ := hcs
    have hml : len ≤ m := by rw [hmm]; split <;> omega
    unfold maxLen at hm
    have key : ∀ i, ∃ z : Int, i < len → w.cell? (a.add i) = some (.int .i64 z) ∧ In64 z := by
      intro i
      by_cases hi : i < len
      · obtain ⟨cs', hc, ht'⟩ := hel i (by omega)
        rw [cellsI, Nat.mul_one] at hc
        obtain ⟨_, hcl, hat⟩ := World.cells?_some hc
        obtain ⟨z, rfl, _, hw⟩ := DataW.trod_int Try.underlying3 ht'
        have := hat 0 (by omega)
        rw [Addr.add_zero'] at this
        exact ⟨z, fun _ => ⟨by rw [this]; rfl, wf_in hw⟩⟩
      · exact ⟨0, fun h => absurd h hi⟩
    obtain ⟨F, hF⟩ := Classical.skolem.1 key
    have hA : ((List.range len).map F).length = len := by simp
    refine ⟨some a, cap, (List.range len).map F, by rw [hA], by rw [hA]; omega, ?_, fun x hx => ?_⟩
    · unfold IntsAt
      rw [hA]
      intro hpos
      obtain ⟨b, o, ha, hbl⟩ := addr_at (by have := (hF 0 hpos).1; rwa [Addr.add_zero'] at this)
      refine ⟨b, o, by rw [ha], hbl, fun j hj => ?_⟩
      have := (hF j hj).1
      rw [ha, Addr.add_lit] at this
      rw [this]
      simp [intF, List.getD_eq_getElem?_getD, hj]
    · obtain ⟨i, hi, rfl⟩ := List.mem_map.1 hx
      exact (hF i (List.mem_range.1 hi)).2
theorem open_vols {v : Value} {d : DataW H} {p : List MemPlace} (hv : Value.okWide Try.prog w r b0 32 v) (h : DataW.Trod enc Try.prog w base spare held 32 v d p) :
    ∃ (C : Option Addr) (cc : Nat) (L : List Vl), v = .slice C L.length cc ∧ L.length ≤ 9223372036854775807 ∧ VlsAt w w.heap.size C L := by
  obtain ⟨a0, len, cap, rfl⟩ := okWide_slice Try.underlying32 hv
  obtain ⟨fuel, hf⟩ := h
  rcases open_slice Try.underlying32 hf with ⟨hcs, _⟩ | ⟨a, len', cap', m, n, D, Pl, hcs, hb, hl, hm, hmm, _, hel⟩
  · simp [Value.cells] at hcs
    obtain ⟨rfl, rfl, rfl⟩ := hcs
    exact ⟨none, 0, [], rfl, by simp, fun h => absurd h (by simp), fun x hx => nomatch hx⟩
  · simp [Value.cells] at hcs
    obtain ⟨rfl, rfl, rfl⟩ := hcs
    have hml : len ≤ m := by rw [hmm]; split <;> omega
    unfold maxLen at hm
    have key : ∀ i, ∃ x : Vl, i < len → w.cell? (a.add i) = some (.slice x.a x.l.length x.c) ∧ IntsAt w w.heap.size x.a x.l ∧ x.l.length ≤ 9223372036854775807 := by
      intro i
      by_cases hi : i < len
      · obtain ⟨cs', hc, ht'⟩ := hel i (by omega)
        rw [cellsL, Nat.mul_one] at hc
        obtain ⟨_, hcl, hat⟩ := World.cells?_some hc
        obtain ⟨u, rfl⟩ : ∃ u, cs' = [u] := by
          match cs', hcl with
          | [u], _ => exact ⟨u, rfl⟩
        obtain ⟨C, cc, zs, rfl, hI, hlz⟩ := open_cell_ints Try.underlying29 Try.underlying3 cellsI bytesI ht'
        have := hat 0 (by omega)
        rw [Addr.add_zero'] at this
        refine ⟨⟨C, zs, cc⟩, fun _ => ⟨by rw [this]; rfl, hI, ?_⟩⟩
        by_cases e : zs = []
        · rw [e]; simp
        · exact (hlz e).1
      · exact ⟨⟨none, [], 0⟩, fun h => absurd h hi⟩
    obtain ⟨F, hF⟩ := Classical.skolem.1 key
    have hA : ((List.range len).map F).length = len := by simp
    refine ⟨some a, cap, (List.range len).map F, by rw [hA], by rw [hA]; omega, fun hpos => ?_, fun x hx => ?_⟩
    · rw [hA] at hpos
      obtain ⟨b, o, ha, hbl⟩ := addr_at (by have := (hF 0 hpos).1; rwa [Addr.add_zero'] at this)
      refine ⟨b, o, by rw [ha], hbl, fun k x hk j u hj => ?_⟩
      have hkl : k < len := by have := (List.getElem?_eq_some_iff.1 hk).1; omega
      have hr0 : F k = x := by simpa [hkl] using hk
      subst hr0
      have hj1 : j < 1 := (List.getElem?_eq_some_iff.1 hj).1
      obtain rfl : j = 0 := by omega
      have := (hF k hkl).1
      rw [ha, Addr.add_lit] at this
      rw [Nat.mul_one, Nat.add_zero, this]
      exact hj
    · obtain ⟨k, hk, rfl⟩ := List.mem_map.1 hx
      exact (hF k (List.mem_range.1 hk)).2
end
end Go.Proofs.Ytphebdmdbnpokaa

