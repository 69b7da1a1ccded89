/- Joined of: R0. -/
import Derived.Deep.DeepHandedRow
import Derived.Lib.LaidTab
import Derived.Lib.SmallJoins
import Derived.SizedLaws
import Derived.Stop.LaidErr
import Derived.Test.YtminphldifncaaaDoorCards
import Derived.Test.YtminphldifncaaaDoorTie
import Derived.Test.YtminphldifncaaaDoorKit
import Derived.Test.YtminphldifncaaaDoorG03
import Derived.Test.YtminphldifncaaaDoorA5
/- What the rows' lists give the walks (the tables), a world for the witness, and the opened arguments. -/
set_option linter.unusedSimpArgs false
set_option linter.unusedVariables false
namespace Go.Proofs.YtminphldifncaaaDoor
open Go.ChangeShapes Go.WideShapes Go.ChangeAt Go.RowKit Go.Deep LG

theorem own : ownKnob Tryd.prog.godebug = none := by kernel_rfl
theorem laidOut : laidOutB Tryd.prog = true := by kernel_rfl
def laid4 : List (String × DataW Unit) := Rows.asofTellsRow.laid
def monName : String := (Rows.asofTellsRow.laid.map Prod.fst).getD 3 default
def monTab : List Int := [31, 29, 31, 30, 31, 30, 31, 31, 30, 31, 30, 31]
theorem gMon : Tryd.prog.globalNamed monName = some 0 := by kernel_rfl
theorem gMonType : (Tryd.prog.globals[0]?).map (·.type) = some 110 := by kernel_rfl
theorem gPow : Tryd.prog.globalNamed powName = some 2 := by kernel_rfl
theorem gPowType : (Tryd.prog.globals[2]?).map (·.type) = some 119 := by kernel_rfl
theorem cells42 : Tryd.prog.cellsOf 110 = 12 := by kernel_rfl
theorem cells52 : Tryd.prog.cellsOf 119 = 20 := by kernel_rfl
theorem cells3 : Tryd.prog.cellsOf 3 = 1 := by kernel_rfl
theorem cells46 : Tryd.prog.cellsOf 91 = 1 := by kernel_rfl
theorem monTabIs {W : World} (h : laidMet Tryd.prog laid4 W) : Lib.TabIs Tryd.prog W monName .i64 monTab := by
  have h1 : laidMet Tryd.prog [(monName, Lib.tabData .i64 monTab)] W := (laidMet.tail (laidMet.tail (laidMet.tail h)))
  exact Lib.tabIs_of_head gMon gMonType Tryd.underlying110 Tryd.underlying3 cells3 cells42 h1
theorem powTabIs {W : World} (h : laidMet Tryd.prog laid4 W) : Lib.TabIs Tryd.prog W powName .u64 Lib.pow10Tab := by
  have e : Rows.laid_internal_strconv_uint64pow10 (H := Unit) = Lib.tabData .u64 Lib.pow10Tab := by kernel_rfl
  have h1 : laidMet Tryd.prog ((powName, Rows.laid_internal_strconv_uint64pow10) :: [(monName, Rows.laid_bourne_date_months)]) W := (laidMet.tail (laidMet.tail h))
  rw [e] at h1
  exact Lib.tabIs_of_head gPow gPowType Tryd.underlying119 Tryd.underlying91 cells46 cells52 h1
theorem tabs_of {W : World} (h : laidMet Tryd.prog laid4 W) : Tabs W :=
  ⟨fun i hi => by
    have := (monTabIs h).cell gMon i hi
    rw [this]
    have : i = 0 ∨ i = 1 ∨ i = 2 ∨ i = 3 ∨ i = 4 ∨ i = 5 ∨ i = 6 ∨ i = 7 ∨ i = 8 ∨ i = 9 ∨ i = 10 ∨ i = 11 := by omega
    rcases this with rfl | rfl | rfl | rfl | rfl | rfl | rfl | rfl | rfl | rfl | rfl | rfl <;> rfl, powTabIs h, by
    have := (powTabIs h).cell gPow 0 (by decide)
    have := World.block_lt_of_cell? W _ this
    exact this⟩

def toV (k : IntKind) (d : DataW Unit) : Value := match d with
  | .lit (.int _ n) => .int k n
  | _ => .int k 0
def tabV (k : IntKind) (d : DataW Unit) : Array Value := match d with
  | .agg l => (l.map (toV k)).toArray
  | _ => #[]
/-- A world for the witness: the settled one, the four tables holding what their initialisers lay. -/
noncomputable def laidWorld (os : Os) : World :=
  let h := World.holding Tryd.prog os ⟨#[], #[], []⟩
  let put (i : Nat) (cs : Array Value) (hp : Array Obj) : Array Obj := hp.modify i fun
    | .cells _ t frozen => .cells cs t frozen
    | o => o
  { h with heap := put 4 (tabV .u8 Rows.laid_math_bits_deBruijn64tab) (put 3 (tabV .u8 Rows.laid_math_bits_deBruijn32tab) (put 2 (tabV .u64 Rows.laid_internal_strconv_uint64pow10) (put 0 (tabV .i64 Rows.laid_bourne_date_months) h.heap))) }
theorem cellsEntry : Tryd.prog.cellsOf 34 = 7 := by kernel_rfl
theorem cellsEnts : Tryd.prog.cellsOf 32 = 1 := by kernel_rfl
theorem fieldsEntry : ∃ fs, Tryd.prog.underlying 34 = some (.struct fs) ∧ oneCellFields Tryd.prog fs = true ∧ fs.size = 7 ∧ (fs.all fun f => f.type == 3) = true := ⟨_, Tryd.underlying34, by kernel_rfl, by kernel_rfl, by kernel_rfl⟩
theorem wf_in {a : Int} (h : (Lit.int .i64 a).wf = true) : In64 a := by
  simp only [Lit.wf, IntKind.min, IntKind.max, IntKind.signed, IntKind.bits, Bool.and_eq_true, decide_eq_true_eq, if_true] at h
  unfold In64
  omega
def EntIn (A : List Et) : Prop := ∀ e ∈ A, In64 e.day ∧ In64 e.known ∧ In64 e.owner ∧ In64 e.place ∧ In64 e.litres ∧ In64 e.why ∧ In64 e.ref
theorem EntIn.lits {A : List Et} (h : EntIn A) : LitsIn A := fun e he => (h e he).2.2.2.2.1
theorem EntIn.refs {A : List Et} (h : EntIn A) : RefsIn A := fun e he => (h e he).2.2.2.2.2.2
section
variable {H : Type} {enc : TypeId × Value → H} {w : World} {base : Nat} {spare : Nat → Bool} {held : Bool} {r : Reach} {b0 : Nat}
set_option maxRecDepth 100000 in
theorem open_entsF {fuel : Nat} {cs : List Value} {x : DataW H × List MemPlace} (h : DataW.trod enc Tryd.prog w base spare held fuel 32 cs = some x) :
    ∃ (C : Option Addr) (cc : Nat) (A : List Et), cs = [.slice C A.length cc] ∧ A.length ≤ 9223372036854775807 ∧ EntsAt w w.heap.size C A ∧ EntIn A := by
  obtain ⟨fs, he, hone, hsz, hall⟩ := fieldsEntry
  obtain ⟨C, len, cc, rfl, hl, b, off, hC, hc⟩ := open_fields Tryd.underlying32 he hone (cellsEntry.trans hsz.symm) (by omega) h
  have key : ∀ m : Nat, ∃ z : Int, m < len * 7 → w.cell? ⟨b, off + m, none⟩ = some (.int .i64 z) ∧ In64 z := by
    intro m
    by_cases hm : m < len * 7
    · obtain ⟨f, hf⟩ : ∃ f, fs[m % 7]? = some f := ⟨_, Array.getElem?_eq_getElem (by omega)⟩
      obtain ⟨u, n, y, hu, hy⟩ := hc (m / 7) (by omega) (m % 7) f hf
      have ht := Array.all_eq_true_iff_forall_mem.1 hall f (Array.mem_of_getElem? hf)
      rw [beq_iff_eq] at ht
      rw [ht] at hy
      obtain ⟨z, e, _, hw⟩ := DataW.trod_int Tryd.underlying3 hy
      simp at e
      subst e
      rw [hsz, show m / 7 * 7 + m % 7 = m by omega] at hu
      exact ⟨z, fun _ => ⟨hu, wf_in hw⟩⟩
    · exact ⟨0, fun h => absurd h hm⟩
  obtain ⟨F, hF⟩ := Classical.skolem.1 key
  let G := fun i => (⟨F (7 * i), F (7 * i + 1), F (7 * i + 2), F (7 * i + 3), F (7 * i + 4), F (7 * i + 5), F (7 * i + 6)⟩ : Et)
  have hA : ((List.range len).map G).length = len := by simp
  refine ⟨C, cc, (List.range len).map G, by rw [hA], by rw [hA]; exact hl, ?_, fun e he => ?_⟩
  · intro hpos
    rw [hA] at hpos
    obtain ⟨e, hb⟩ := hC hpos
    refine ⟨b, off, e, hb, fun k r0 hk j u hj => ?_⟩
    have hkl : k < len := by have := (List.getElem?_eq_some_iff.1 hk).1; omega
    have hr0 : G k = r0 := by simpa [hkl] using hk
    have hj7 : j < 7 := (List.getElem?_eq_some_iff.1 hj).1
    rw [(hF (k * 7 + j) (by omega)).1]
    subst hr0
    rw [show k * 7 + j = 7 * k + j by omega]
    have hlt : ∀ m, m < 7 → (G k).cells[m]? = some (.int .i64 (F (7 * k + m))) := fun m hm => by
      match m, hm with
      | 0, _ => rfl
      | 1, _ => rfl
      | 2, _ => rfl
      | 3, _ => rfl
      | 4, _ => rfl
      | 5, _ => rfl
      | 6, _ => rfl
    rw [hlt j hj7] at hj
    exact hj
  · obtain ⟨k, hk, rfl⟩ := List.mem_map.1 he
    rw [List.mem_range] at hk
    exact ⟨(hF (7 * k) (by omega)).2, (hF (7 * k + 1) (by omega)).2, (hF (7 * k + 2) (by omega)).2, (hF (7 * k + 3) (by omega)).2, (hF (7 * k + 4) (by omega)).2, (hF (7 * k + 5) (by omega)).2, (hF (7 * k + 6) (by omega)).2⟩
set_option maxRecDepth 100000 in
theorem open_ents {v : Value} {d : DataW H} {p : List MemPlace} (hv : Value.okWide Tryd.prog w r b0 32 v) (h : DataW.Trod enc Tryd.prog w base spare held 32 v d p) :
    ∃ (C : Option Addr) (cc : Nat) (A : List Et), v = .slice C A.length cc ∧ A.length ≤ 9223372036854775807 ∧ EntsAt w w.heap.size C A ∧ EntIn A := by
  obtain ⟨a0, len, cap, rfl⟩ := okWide_slice Tryd.underlying32 hv
  obtain ⟨fuel, hf⟩ := h
  obtain ⟨C, cc, A, hcs, h1, h2, h3⟩ := open_entsF hf
  simp [Value.cells] at hcs
  obtain ⟨rfl, rfl, rfl⟩ := hcs
  exact ⟨_, _, A, rfl, h1, h2, h3⟩
set_option maxRecDepth 100000 in
theorem cap_ents {C : Option Addr} {n cc : Nat} {d : DataW H} {p : List MemPlace} (h : DataW.Trod enc Tryd.prog w base spare held 32 (.slice C n cc) d p) : n ≤ cc ∧ cc ≤ 9223372036854775807 ∧ (C = none → cc = 0) := by
  obtain ⟨fuel, hf⟩ := h
  rcases open_slice Tryd.underlying32 hf with ⟨hcs, _⟩ | ⟨a, len', cap', m, k, D, Pl, hcs, hb, hl, hm, hmm, _, hel⟩
  · simp [Value.cells] at hcs
    obtain ⟨rfl, rfl, rfl⟩ := hcs
    exact ⟨by omega, by omega, fun _ => rfl⟩
  · simp [Value.cells] at hcs
    obtain ⟨rfl, rfl, rfl⟩ := hcs
    unfold maxLen at hm
    exact ⟨hl, by omega, fun h => by cases h⟩
end
end Go.Proofs.YtminphldifncaaaDoor

