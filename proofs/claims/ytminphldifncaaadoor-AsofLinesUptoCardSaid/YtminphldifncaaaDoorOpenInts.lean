/- Joined of: OpenInts. -/
import Derived.Lib.SmallJoins
import Derived.SizedLaws
import Derived.Test.YtminphldifncaaaDoorG03
/- Arguments opened: structs (of structs) all of whose cells are integers, by value and in slices. -/
set_option linter.unusedSimpArgs false
set_option linter.unusedVariables false
namespace Go.Proofs.YtminphldifncaaaDoor
open Go.ChangeShapes Go.WideShapes Go.Deep Go.RowKit Go.ChangeAt
/-- All cells of a type are integers. -/
def intsB (P : Program) : Nat → TypeId → Bool
  | 0, _ => false
  | n + 1, t => match P.underlying t with
    | some (.int .i64) => true
    | some (.struct fs) => (List.range (P.cellsOf t)).all fun j => fs.toList.any fun f => decide (f.offset ≤ j) && decide (j < f.offset + P.cellsOf f.type) && intsB P n f.type
    | _ => false
def IsInt (u : Value) : Prop := ∃ z : Int, u = .int .i64 z ∧ -9223372036854775808 ≤ z ∧ z ≤ 9223372036854775807
section
variable {H : Type} {enc : TypeId × Value → H} {P : Program} {w : World} {base : Nat} {spare : Nat → Bool} {held : Bool} {r : Reach} {b0 : Nat}
theorem wf_bd {a : Int} (h : (Lit.int .i64 a).wf = true) : -9223372036854775808 ≤ a ∧ a ≤ 9223372036854775807 := by
  simp only [Lit.wf, IntKind.min, IntKind.max, IntKind.signed, IntKind.bits, Bool.and_eq_true, decide_eq_true_eq, if_true] at h
  omega
theorem trod_ints : ∀ (n : Nat) (t : TypeId) (cs : List Value) (fuel : Nat) (x : DataW H × List MemPlace), intsB P n t = true → DataW.trod enc P w base spare held fuel t cs = some x → ∀ (j : Nat) (u : Value), cs[j]? = some u → IsInt u
  | 0, _, _, _, _, h, _, _, _, _ => by simp [intsB] at h
  | n + 1, t, cs, fuel, x, h, ht, j, u, hj => by
    unfold intsB at h
    split at h
    · rename_i hu
      obtain ⟨z, hz, _, hw⟩ := DataW.trod_int hu ht
      rw [hz] at hj
      have : u = .int .i64 z := by
        cases j with
        | zero => simpa using hj.symm
        | succ j => simp at hj
      exact ⟨z, this, wf_bd hw⟩
    · rename_i fs hu
      obtain ⟨xs, m, _, _, hl, hlen, hg⟩ := DataW.trod_struct hu ht
      have hjl : j < cs.length := (List.getElem?_eq_some_iff.1 hj).1
      have := List.all_eq_true.1 h j (List.mem_range.2 (by omega))
      obtain ⟨f, hf, hb⟩ := List.any_eq_true.1 this
      simp only [Bool.and_eq_true, decide_eq_true_eq] at hb
      obtain ⟨i, hi⟩ := List.mem_iff_getElem?.1 hf
      rw [Array.getElem?_toList] at hi
      have h1 := hg i f hi
      have hil : i < xs.length := by rw [hlen]; exact (Array.getElem?_eq_some_iff.1 hi).1
      rw [List.getElem?_eq_getElem hil] at h1
      refine trod_ints n f.type _ m _ hb.2 h1 (j - f.offset) u ?_
      rw [List.getElem?_take_of_lt (by omega), List.getElem?_drop, show f.offset + (j - f.offset) = j by omega]
      exact hj
    · cases h
/-- A struct by value. -/
theorem open_struct_ints {t : TypeId} {fs : Array Field} {v : Value} {d : DataW H} {p : List MemPlace} (hs : P.underlying t = some (.struct fs)) {n k : Nat} (hi : intsB P n t = true) (hC : P.cellsOf t = k) (hv : Value.okWide P w r b0 t v) (h : DataW.Trod enc P w base spare held t v d p) :
    ∃ F : Nat → Int, v = .agg ((List.range k).map fun j => Value.int .i64 (F j)).toArray ∧ ∀ j, -9223372036854775808 ≤ F j ∧ F j ≤ 9223372036854775807 := by
  obtain ⟨cs, rfl, hsz⟩ := okWide_struct hs hv
  obtain ⟨fuel, hf⟩ := h
  have hcl : (Value.agg cs).cells.toList = cs.toList := rfl
  rw [hcl] at hf
  have key := trod_ints n t cs.toList fuel _ hi hf
  have each : ∀ j, ∃ z : Int, (-9223372036854775808 ≤ z ∧ z ≤ 9223372036854775807) ∧ (j < k → cs[j]? = some (.int .i64 z)) := fun j => by
    by_cases hj : j < k
    · have hlt : j < cs.size := by rw [hsz, hC]; exact hj
      obtain ⟨z, hz, hb⟩ := key j cs[j] (by simp [hlt])
      exact ⟨z, hb, fun _ => by rw [Array.getElem?_eq_getElem hlt, hz]⟩
    · exact ⟨0, by omega, fun h => absurd h hj⟩
  obtain ⟨F, hF⟩ := Classical.skolem.1 each
  refine ⟨F, ?_, fun j => (hF j).1⟩
  congr 1
  apply Array.ext_getElem?
  intro j
  by_cases hj : j < k
  · rw [(hF j).2 hj]
    simp [hj]
  · rw [Array.getElem?_eq_none (by rw [hsz, hC]; omega)]
    simp [hj]
/-- A slice of such structs. -/
theorem open_slice_ints {t e : TypeId} {v : Value} {d : DataW H} {p : List MemPlace} (ht : P.underlying t = some (.slice e)) {n k : Nat} (hi : intsB P n e = true) (hC : P.cellsOf e = k) (hk : 0 < k) (hv : Value.okWide P w r b0 t v) (h : DataW.Trod enc P w base spare held t v d p) :
    ∃ (C : Option Addr) (len cc : Nat) (F : Nat → Int), v = .slice C len cc ∧ len ≤ 9223372036854775807 ∧ CellsAt w w.heap.size C (len * k) (fun j => .int .i64 (F j)) ∧ ∀ j, -9223372036854775808 ≤ F j ∧ F j ≤ 9223372036854775807 := by
  obtain ⟨a0, len, cap, rfl⟩ := okWide_slice ht hv
  obtain ⟨fuel, hf⟩ := h
  rcases open_slice ht hf with ⟨hcs, _⟩ | ⟨a, len', cap', m, n', D, Pl, hcs, hb, hl, hm, hmm, _, hel⟩
  · simp [Value.cells] at hcs
    obtain ⟨rfl, rfl, rfl⟩ := hcs
    exact ⟨none, 0, 0, fun _ => 0, rfl, by simp, fun h => absurd h (by simp), fun j => by show -9223372036854775808 ≤ (0 : Int) ∧ (0 : Int) ≤ 9223372036854775807; omega⟩
  · simp [Value.cells] at hcs
    obtain ⟨rfl, rfl, rfl⟩ := hcs
    have hml : len ≤ m := by rw [hmm]; split <;> omega
    unfold maxLen at hm
    have each : ∀ q, ∃ z : Int, (-9223372036854775808 ≤ z ∧ z ≤ 9223372036854775807) ∧ (q < len * k → w.cell? (a.add q) = some (.int .i64 z)) := fun q => by
      by_cases hq : q < len * k
      · have hi1 : q / k < len := Nat.div_lt_of_lt_mul (by rw [Nat.mul_comm]; exact hq)
        have hj1 : q % k < k := Nat.mod_lt _ hk
        have hqe : q / k * k + q % k = q := by rw [Nat.mul_comm]; exact Nat.div_add_mod q k
        obtain ⟨cs', hc, ht'⟩ := hel (q / k) (by omega)
        rw [hC] at hc
        obtain ⟨_, hcl, hat⟩ := World.cells?_some hc
        have hlt : q % k < cs'.length := by omega
        obtain ⟨z, hz, hbd⟩ := trod_ints n e cs' n' _ hi ht' (q % k) _ (List.getElem?_eq_getElem hlt)
        refine ⟨z, hbd, fun _ => ?_⟩
        have hcell := hat (q % k) hj1
        rw [Go.Deep.add_add, hqe] at hcell
        rw [hcell, List.getElem?_eq_getElem hlt, hz]
      · exact ⟨0, by omega, fun h => absurd h hq⟩
    obtain ⟨F, hF⟩ := Classical.skolem.1 each
    refine ⟨some a, len, cap, F, rfl, by omega, fun hpos => ?_, fun j => (hF j).1⟩
    obtain ⟨b, o, ha, hbl⟩ := addr_at (by have := (hF 0).2 hpos; rwa [Addr.add_zero'] at this)
    refine ⟨b, o, by rw [ha], hbl, fun j hj => ?_⟩
    have := (hF j).2 hj
    rw [ha, Addr.add_lit] at this
    exact this
end
end Go.Proofs.YtminphldifncaaaDoor

