/- Joined of: R0 R1 R2. -/
import Derived.Deep.DeepHandedRow
import Derived.Lib.LaidTab
import Derived.Lib.SmallJoins
import Derived.SizedLaws
import Derived.Stop.LaidErr
import Derived.Test.YtminphldifncaaaDoorCards
import Derived.Test.YtminphldifncaaaDoorTie
import Derived.Test.YtminphldifncaaaDoorKit
import Derived.Test.YtminphldifncaaaDoorG03
import Derived.Test.YtminphldifncaaaDoorA5
import Derived.Test.YtminphldifncaaaDoorOpenInts
import Derived.Test.YtminphldifncaaaDoorG07
/- What the rows' lists give the walks (the tables), a world for the witness, and the opened arguments. -/
set_option linter.unusedSimpArgs false
set_option linter.unusedVariables false
namespace Go.Proofs.YtminphldifncaaaDoor
open Go.ChangeShapes Go.WideShapes Go.ChangeAt Go.RowKit Go.Deep LG

theorem own : ownKnob Tryd.prog.godebug = none := by kernel_rfl
theorem laidOut : laidOutB Tryd.prog = true := by kernel_rfl
def laid4 : List (String × DataW Unit) := Rows.asofTellsRow.laid
def monName : String := (Rows.asofTellsRow.laid.map Prod.fst).getD 3 default
def monTab : List Int := [31, 29, 31, 30, 31, 30, 31, 31, 30, 31, 30, 31]
theorem gMon : Tryd.prog.globalNamed monName = some 0 := by kernel_rfl
theorem gMonType : (Tryd.prog.globals[0]?).map (·.type) = some 110 := by kernel_rfl
theorem gPow : Tryd.prog.globalNamed powName = some 2 := by kernel_rfl
theorem gPowType : (Tryd.prog.globals[2]?).map (·.type) = some 119 := by kernel_rfl
theorem cells42 : Tryd.prog.cellsOf 110 = 12 := by kernel_rfl
theorem cells52 : Tryd.prog.cellsOf 119 = 20 := by kernel_rfl
theorem cells3 : Tryd.prog.cellsOf 3 = 1 := by kernel_rfl
theorem cells46 : Tryd.prog.cellsOf 91 = 1 := by kernel_rfl
theorem monTabIs {W : World} (h : laidMet Tryd.prog laid4 W) : Lib.TabIs Tryd.prog W monName .i64 monTab := by
  have h1 : laidMet Tryd.prog [(monName, Lib.tabData .i64 monTab)] W := (laidMet.tail (laidMet.tail (laidMet.tail h)))
  exact Lib.tabIs_of_head gMon gMonType Tryd.underlying110 Tryd.underlying3 cells3 cells42 h1
theorem powTabIs {W : World} (h : laidMet Tryd.prog laid4 W) : Lib.TabIs Tryd.prog W powName .u64 Lib.pow10Tab := by
  have e : Rows.laid_internal_strconv_uint64pow10 (H := Unit) = Lib.tabData .u64 Lib.pow10Tab := by kernel_rfl
  have h1 : laidMet Tryd.prog ((powName, Rows.laid_internal_strconv_uint64pow10) :: [(monName, Rows.laid_bourne_date_months)]) W := (laidMet.tail (laidMet.tail h))
  rw [e] at h1
  exact Lib.tabIs_of_head gPow gPowType Tryd.underlying119 Tryd.underlying91 cells46 cells52 h1
theorem tabs_of {W : World} (h : laidMet Tryd.prog laid4 W) : Tabs W :=
  ⟨fun i hi => by
    have := (monTabIs h).cell gMon i hi
    rw [this]
    have : i = 0 ∨ i = 1 ∨ i = 2 ∨ i = 3 ∨ i = 4 ∨ i = 5 ∨ i = 6 ∨ i = 7 ∨ i = 8 ∨ i = 9 ∨ i = 10 ∨ i = 11 := by omega
    rcases this with rfl | rfl | rfl | rfl | rfl | rfl | rfl | rfl | rfl | rfl | rfl | rfl <;> rfl, powTabIs h, by
    have := (powTabIs h).cell gPow 0 (by decide)
    have := World.block_lt_of_cell? W _ this
    exact this⟩

def toV (k : IntKind) (d : DataW Unit) : Value := match d with
  | .lit (.int _ n) => .int k n
  | _ => .int k 0
def tabV (k : IntKind) (d : DataW Unit) : Array Value := match d with
  | .agg l => (l.map (toV k)).toArray
  | _ => #[]
/-- A world for the witness: the settled one, the four tables holding what their initialisers lay. -/
noncomputable def laidWorld (os : Os) : World :=
  let h := World.holding Tryd.prog os ⟨#[], #[], []⟩
  let put (i : Nat) (cs : Array Value) (hp : Array Obj) : Array Obj := hp.modify i fun
    | .cells _ t frozen => .cells cs t frozen
    | o => o
  { h with heap := put 4 (tabV .u8 Rows.laid_math_bits_deBruijn64tab) (put 3 (tabV .u8 Rows.laid_math_bits_deBruijn32tab) (put 2 (tabV .u64 Rows.laid_internal_strconv_uint64pow10) (put 0 (tabV .i64 Rows.laid_bourne_date_months) h.heap))) }
theorem cellsEntry : Tryd.prog.cellsOf 34 = 7 := by kernel_rfl
theorem cellsEnts : Tryd.prog.cellsOf 32 = 1 := by kernel_rfl
theorem fieldsEntry : ∃ fs, Tryd.prog.underlying 34 = some (.struct fs) ∧ oneCellFields Tryd.prog fs = true ∧ fs.size = 7 ∧ (fs.all fun f => f.type == 3) = true := ⟨_, Tryd.underlying34, by kernel_rfl, by kernel_rfl, by kernel_rfl⟩
theorem wf_in {a : Int} (h : (Lit.int .i64 a).wf = true) : In64 a := by
  simp only [Lit.wf, IntKind.min, IntKind.max, IntKind.signed, IntKind.bits, Bool.and_eq_true, decide_eq_true_eq, if_true] at h
  unfold In64
  omega
def EntIn (A : List Et) : Prop := ∀ e ∈ A, In64 e.day ∧ In64 e.known ∧ In64 e.owner ∧ In64 e.place ∧ In64 e.litres ∧ In64 e.why ∧ In64 e.ref
theorem EntIn.lits {A : List Et} (h : EntIn A) : LitsIn A := fun e he => (h e he).2.2.2.2.1
theorem EntIn.refs {A : List Et} (h : EntIn A) : RefsIn A := fun e he => (h e he).2.2.2.2.2.2
section
variable {H : Type} {enc : TypeId × Value → H} {w : World} {base : Nat} {spare : Nat → Bool} {held : Bool} {r : Reach} {b0 : Nat}
set_option maxRecDepth 100000 in
theorem open_entsF {fuel : Nat} {cs : List Value} {x : DataW H × List MemPlace} (h : DataW.trod enc Tryd.prog w base spare held fuel 32 cs = some x) :
    ∃ (C : Option Addr) (cc : Nat) (A : List Et), cs = [.slice C A.length cc] ∧ A.length ≤ 9223372036854775807 ∧ EntsAt w w.heap.size C A ∧ EntIn A := by
  obtain ⟨fs, he, hone, hsz, hall⟩ := fieldsEntry
  obtain ⟨C, len, cc, rfl, hl, b, off, hC, hc⟩ := open_fields Tryd.underlying32 he hone (cellsEntry.trans hsz.symm) (by omega) h
  have key : ∀ m : Nat, ∃ z : Int, m < len * 7 → w.cell? ⟨b, off + m, none⟩ = some (.int .i64 z) ∧ In64 z := by
    intro m
    by_cases hm : m < len * 7
    · obtain ⟨f, hf⟩ : ∃ f, fs[m % 7]? = some f := ⟨_, Array.getElem?_eq_getElem (by omega)⟩
      obtain ⟨u, n, y, hu, hy⟩ := hc (m / 7) (by omega) (m % 7) f hf
      have ht := Array.all_eq_true_iff_forall_mem.1 hall f (Array.mem_of_getElem? hf)
      rw [beq_iff_eq] at ht
      rw [ht] at hy
      obtain ⟨z, e, _, hw⟩ := DataW.trod_int Tryd.underlying3 hy
      simp at e
      subst e
      rw [hsz, show m / 7 * 7 + m % 7 = m by omega] at hu
      exact ⟨z, fun _ => ⟨hu, wf_in hw⟩⟩
    · exact ⟨0, fun h => absurd h hm⟩
  obtain ⟨F, hF⟩ := Classical.skolem.1 key
  let G := fun i => (⟨F (7 * i), F (7 * i + 1), F (7 * i + 2), F (7 * i + 3), F (7 * i + 4), F (7 * i + 5), F (7 * i + 6)⟩ : Et)
  have hA : ((List.range len).map G).length = len := by simp
  refine ⟨C, cc, (List.range len).map G, by rw [hA], by rw [hA]; exact hl, ?_, fun e he => ?_⟩
  · intro hpos
    rw [hA] at hpos
    obtain ⟨e, hb⟩ := hC hpos
    refine ⟨b, off, e, hb, fun k r0 hk j u hj => ?_⟩
    have hkl : k < len := by have := (List.getElem?_eq_some_iff.1 hk).1; omega
    have hr0 : G k = r0 := by simpa [hkl] using hk
    have hj7 : j < 7 := (List.getElem?_eq_some_iff.1 hj).1
    rw [(hF (k * 7 + j) (by omega)).1]
    subst hr0
    rw [show k * 7 + j = 7 * k + j by omega]
    have hlt : ∀ m, m < 7 → (G k).cells[m]? = some (.int .i64 (F (7 * k + m))) := fun m hm => by
      match m, hm with
      | 0, _ => rfl
      | 1, _ => rfl
      | 2, _ => rfl
      | 3, _ => rfl
      | 4, _ => rfl
      | 5, _ => rfl
      | 6, _ => rfl
    rw [hlt j hj7] at hj
    exact hj
  · obtain ⟨k, hk, rfl⟩ := List.mem_map.1 he
    rw [List.mem_range] at hk
    exact ⟨(hF (7 * k) (by omega)).2, (hF (7 * k + 1) (by omega)).2, (hF (7 * k + 2) (by omega)).2, (hF (7 * k + 3) (by omega)).2, (hF (7 * k + 4) (by omega)).2, (hF (7 * k + 5) (by omega)).2, (hF (7 * k + 6) (by omega)).2⟩
set_option maxRecDepth 100000 in
theorem open_ents {v : Value} {d : DataW H} {p : List MemPlace} (hv : Value.okWide Tryd.prog w r b0 32 v) (h : DataW.Trod enc Tryd.prog w base spare held 32 v d p) :
    ∃ (C : Option Addr) (cc : Nat) (A : List Et), v = .slice C A.length cc ∧ A.length ≤ 9223372036854775807 ∧ EntsAt w w.heap.size C A ∧ EntIn A := by
  obtain ⟨a0, len, cap, rfl⟩ := okWide_slice Tryd.underlying32 hv
  obtain ⟨fuel, hf⟩ := h
  obtain ⟨C, cc, A, hcs, h1, h2, h3⟩ := open_entsF hf
  simp [Value.cells] at hcs
  obtain ⟨rfl, rfl, rfl⟩ := hcs
  exact ⟨_, _, A, rfl, h1, h2, h3⟩
set_option maxRecDepth 100000 in
theorem cap_ents {C : Option Addr} {n cc : Nat} {d : DataW H} {p : List MemPlace} (h : DataW.Trod enc Tryd.prog w base spare held 32 (.slice C n cc) d p) : n ≤ cc ∧ cc ≤ 9223372036854775807 ∧ (C = none → cc = 0) := by
  obtain ⟨fuel, hf⟩ := h
  rcases open_slice Tryd.underlying32 hf with ⟨hcs, _⟩ | ⟨a, len', cap', m, k, D, Pl, hcs, hb, hl, hm, hmm, _, hel⟩
  · simp [Value.cells] at hcs
    obtain ⟨rfl, rfl, rfl⟩ := hcs
    exact ⟨by omega, by omega, fun _ => rfl⟩
  · simp [Value.cells] at hcs
    obtain ⟨rfl, rfl, rfl⟩ := hcs
    unfold maxLen at hm
    exact ⟨hl, by omega, fun h => by cases h⟩
end
end Go.Proofs.YtminphldifncaaaDoor

/- A basin as an argument: its owners' and places' names; an entry. -/
namespace Go.Proofs.YtminphldifncaaaDoor
open Go.ChangeShapes Go.WideShapes Go.ChangeAt Go.RowKit Go.Deep LG
theorem cellsStr : Tryd.prog.cellsOf 9 = 1 := by kernel_rfl
theorem cellsPlace : Tryd.prog.cellsOf 63 = 12 := by kernel_rfl
theorem fieldsPlace : ∃ fs, Tryd.prog.underlying 63 = some (.struct fs) ∧ oneCellFields Tryd.prog fs = true ∧ fs.size = 12 ∧ (fs[0]?).map (·.type) = some 9 := ⟨_, Tryd.underlying63, by kernel_rfl, by kernel_rfl, by kernel_rfl⟩
section
variable {H : Type} {enc : TypeId × Value → H} {w : World} {base : Nat} {spare : Nat → Bool} {held : Bool}
set_option maxRecDepth 100000 in
theorem strs_in {n : Nat} {u : Value} {y : DataW H × List MemPlace} (h : DataW.trod enc Tryd.prog w base spare held n 22 [u] = some y) :
    ∃ (C : Option Addr) (cc : Nat) (l : List Bts), u = .slice C l.length cc ∧ l.length ≤ 9223372036854775807 ∧ StrsAt w w.heap.size C l ∧ Hid (∀ x ∈ l, x.length ≤ 9223372036854775807) := by
  rcases open_slice Tryd.underlying22 h with ⟨hcs, _⟩ | ⟨a, len', cap', m, n', D, Pl, hcs, hb, hl, hm, hmm, _, hel⟩
  · simp at hcs
    subst hcs
    exact ⟨none, 0, [], rfl, by simp, (fun h => absurd h (by simp)), (fun x hx => nomatch hx)⟩
  · simp at hcs
    subst hcs
    have hml : len' ≤ m := by rw [hmm]; split <;> omega
    unfold maxLen at hm
    have key : ∀ i, ∃ p : Bts, i < len' → p.length ≤ 9223372036854775807 ∧ w.cell? (a.add i) = some (.string (bs p)) := by
      intro i
      by_cases hi : i < len'
      · obtain ⟨cs', hc, ht'⟩ := hel i (by omega)
        rw [cellsStr, Nat.mul_one] at hc
        obtain ⟨_, hcl, hat⟩ := World.cells?_some hc
        obtain ⟨s, rfl, _, hs⟩ := DataW.trod_string Tryd.underlying9 ht'
        have := hat 0 (by omega)
        rw [Addr.add_zero'] at this
        refine ⟨s.data.toList, fun _ => ⟨?_, ?_⟩⟩
        · have h4 : s.data.toList.length = s.size := by simp
          unfold maxLen at hs
          omega
        · rw [this, bs_of]; rfl
      · exact ⟨[], fun h => absurd h hi⟩
    obtain ⟨F, hF⟩ := Classical.skolem.1 key
    have hA : ((List.range len').map F).length = len' := by simp
    refine ⟨some a, cap', (List.range len').map F, by rw [hA], by rw [hA]; omega, ?_, fun p hp => ?_⟩
    · intro hpos
      rw [hA] at hpos
      obtain ⟨_, hu⟩ := hF 0 hpos
      obtain ⟨b, o, e1, hbs⟩ := addr_at hu
      have e2 : a = ⟨b, o, none⟩ := by simpa [Addr.add_zero'] using e1
      subst e2
      refine ⟨b, o, rfl, hbs, fun k hk => ?_⟩
      rw [hA] at hk
      obtain ⟨_, hu⟩ := hF k hk
      rw [Addr.add_lit] at hu
      rw [hu]
      simp [strF, List.getD_eq_getElem?_getD, hk]
    · obtain ⟨k, hk, rfl⟩ := List.mem_map.1 hp
      rw [List.mem_range] at hk
      exact (hF k hk).1
set_option maxRecDepth 100000 in
theorem names_in {n : Nat} {u : Value} {y : DataW H × List MemPlace} (h : DataW.trod enc Tryd.prog w base spare held n 23 [u] = some y) :
    ∃ (C : Option Addr) (cc : Nat) (l : List Bts), u = .slice C l.length cc ∧ l.length ≤ 9223372036854775807 ∧ NamesAt w w.heap.size C l ∧ Hid (∀ x ∈ l, x.length ≤ 9223372036854775807) := by
  obtain ⟨fs, he, hone, hsz, hty⟩ := fieldsPlace
  obtain ⟨C, len, cc, hcs, hl, b, off, hC, hc⟩ := open_fields Tryd.underlying23 he hone (cellsPlace.trans hsz.symm) (by omega) h
  simp at hcs
  subst hcs
  obtain ⟨f0, hf0, hft⟩ : ∃ f, fs[0]? = some f ∧ f.type = 9 := by
    cases hq : fs[0]? with
    | none => rw [hq] at hty; cases hty
    | some f => rw [hq] at hty; exact ⟨f, rfl, by simpa using hty⟩
  have key : ∀ i, ∃ p : Bts, i < len → p.length ≤ 9223372036854775807 ∧ w.cell? ⟨b, off + i * 12, none⟩ = some (.string (bs p)) := by
    intro i
    by_cases hi : i < len
    · obtain ⟨u, n, y, hu, hy⟩ := hc i hi 0 f0 hf0
      rw [hft] at hy
      obtain ⟨s, e, _, hs⟩ := DataW.trod_string Tryd.underlying9 hy
      simp at e
      subst e
      rw [hsz, Nat.add_zero] at hu
      refine ⟨s.data.toList, fun _ => ⟨?_, by rw [hu, bs_of]⟩⟩
      have h4 : s.data.toList.length = s.size := by simp
      unfold maxLen at hs
      omega
    · exact ⟨[], fun h => absurd h hi⟩
  obtain ⟨F, hF⟩ := Classical.skolem.1 key
  have hA : ((List.range len).map F).length = len := by simp
  refine ⟨C, cc, (List.range len).map F, by rw [hA], by rw [hA]; exact hl, ?_, fun p hp => ?_⟩
  · intro hpos
    rw [hA] at hpos
    obtain ⟨e, hb⟩ := hC hpos
    refine ⟨b, off, e, hb, fun k x hk => ?_⟩
    have hkl : k < len := by have := (List.getElem?_eq_some_iff.1 hk).1; omega
    have hx : F k = x := by simpa [hkl] using hk
    rw [(hF k hkl).2, hx]
  · obtain ⟨k, hk, rfl⟩ := List.mem_map.1 hp
    rw [List.mem_range] at hk
    exact (hF k hk).1
set_option maxRecDepth 100000 in
theorem open_entry {v : Value} {d : DataW H} {p : List MemPlace} {r : Reach} {b0 : Nat} (hv : Value.okWide Tryd.prog w r b0 34 v) (h : DataW.Trod enc Tryd.prog w base spare held 34 v d p) :
    ∃ e : Et, v = .agg #[.int .i64 e.day, .int .i64 e.known, .int .i64 e.owner, .int .i64 e.place, .int .i64 e.litres, .int .i64 e.why, .int .i64 e.ref] ∧ EntIn [e] := by
  obtain ⟨F, rfl, hF⟩ := open_struct_ints (n := 3) (k := 7) Tryd.underlying34 (by kernel_rfl) (by kernel_rfl) hv h
  refine ⟨⟨F 0, F 1, F 2, F 3, F 4, F 5, F 6⟩, rfl, fun e he => ?_⟩
  obtain rfl := List.mem_singleton.1 he
  exact ⟨hF _, hF _, hF _, hF _, hF _, hF _, hF _⟩
end
set_option maxRecDepth 100000 in
theorem cellsBas : Tryd.prog.cellsOf 31 = 11 := by kernel_rfl
set_option maxRecDepth 100000 in
theorem fieldsBas : ∃ fs, Tryd.prog.underlying 31 = some (.struct fs) ∧ oneCellFields Tryd.prog fs = true ∧ fs.size = 11 ∧ fs.map (·.type) = #[9, 22, 3, 23, 24, 25, 26, 27, 28, 29, 3] := ⟨_, Tryd.underlying31, by kernel_rfl, by kernel_rfl, by kernel_rfl⟩
section
variable {H : Type} {enc : TypeId × Value → H} {P : Program} {w : World} {base : Nat} {spare : Nat → Bool} {held : Bool} {r : Reach} {b0 : Nat}
set_option maxRecDepth 100000 in
theorem agg_fields {t : TypeId} {fs : Array Field} {v : Value} {d : DataW H} {p : List MemPlace} (hs : P.underlying t = some (.struct fs)) (hone : oneCellFields P fs = true) (hC : P.cellsOf t = fs.size) (hv : Value.okWide P w r b0 t v) (h : DataW.Trod enc P w base spare held t v d p) :
    ∃ cs : Array Value, v = .agg cs ∧ cs.size = fs.size ∧ ∀ (j : Nat) (f : Field), fs[j]? = some f → ∃ (u : Value) (n : Nat) (y : DataW H × List MemPlace), cs[j]? = some u ∧ DataW.trod enc P w base spare held n f.type [u] = some y := by
  obtain ⟨cs, rfl, hsz⟩ := okWide_struct hs hv
  refine ⟨cs, rfl, hsz.trans hC, fun j f hj => ?_⟩
  obtain ⟨fuel, hf⟩ := h
  obtain ⟨xs, n, _, hx, _, hlen, hg⟩ := DataW.trod_struct hs hf
  have hjl : j < fs.size := (Array.getElem?_eq_some_iff.1 hj).1
  obtain ⟨ho, hk⟩ := hone_of hone j f hj
  have h1 := hg j f hj
  rw [ho, hk] at h1
  have hlt : j < cs.size := by rw [hsz, hC]; exact hjl
  have hcl : (Value.agg cs).cells.toList = cs.toList := rfl
  have hone' : ((Value.agg cs).cells.toList.drop j).take 1 = [cs[j]] := by
    rw [hcl, List.drop_eq_getElem_cons (by simpa using hlt)]
    simp
  rw [hone', List.getElem?_eq_getElem (by omega)] at h1
  exact ⟨_, _, _, Array.getElem?_eq_getElem hlt, h1⟩
set_option maxRecDepth 100000 in
theorem slice_shape {t e : TypeId} {n : Nat} {u : Value} {y : DataW H × List MemPlace} (ht : P.underlying t = some (.slice e)) (h : DataW.trod enc P w base spare held n t [u] = some y) : ∃ C l c, u = .slice C l c ∧ l ≤ 9223372036854775807 := by
  rcases open_slice ht h with ⟨hcs, _⟩ | ⟨a, len, cap, _, _, _, _, hcs, _, hlc, hcm, _⟩
  · exact ⟨none, 0, 0, by simpa using hcs, by omega⟩
  · exact ⟨some a, len, cap, by simpa using hcs, by unfold maxLen at *; omega⟩
end
section
variable {H : Type} {enc : TypeId × Value → H} {w : World} {base : Nat} {spare : Nat → Bool} {held : Bool} {r : Reach} {b0 : Nat}
set_option maxRecDepth 100000 in
theorem open_basin {v : Value} {d : DataW H} {p : List MemPlace} (hv : Value.okWide Tryd.prog w r b0 31 v) (h : DataW.Trod enc Tryd.prog w base spare held 31 v d p) :
    ∃ (X : Bas) (pl ow : List Bts), v = .agg #[.string X.nm, .slice X.a1 X.l1 X.c1, .int .i64 X.cl, .slice X.P pl.length X.cP, .slice X.a4 X.l4 X.c4, .slice X.a5 X.l5 X.c5, .slice X.a6 X.l6 X.c6, .slice X.a7 X.l7 X.c7, .slice X.a8 X.l8 X.c8, .slice X.a9 X.l9 X.c9, .int .i64 X.er] ∧ pl.length ≤ 9223372036854775807 ∧ ow.length ≤ 9223372036854775807 ∧ X.l1 = ow.length ∧ StrsAt w w.heap.size X.a1 ow ∧ NamesAt w w.heap.size X.P pl ∧ Hid (∀ x ∈ pl, x.length ≤ 9223372036854775807) ∧ Hid (∀ x ∈ ow, x.length ≤ 9223372036854775807) := by
  obtain ⟨fs, he, hone, hsz, hty⟩ := fieldsBas
  obtain ⟨cs, rfl, hcs, hc⟩ := agg_fields he hone (cellsBas.trans hsz.symm) hv h
  have hf : ∀ j, j < 11 → ∃ f, fs[j]? = some f ∧ some f.type = (#[9, 22, 3, 23, 24, 25, 26, 27, 28, 29, 3] : Array Nat)[j]? := fun j hj => by
    refine ⟨fs[j]'(by omega), Array.getElem?_eq_getElem _, ?_⟩
    rw [← hty]; simp [hsz, hj]
  obtain ⟨f0, g0, t0⟩ := hf 0 (by omega)
  obtain ⟨u0, n0, y0, c0, r0⟩ := hc 0 f0 g0
  rw [show f0.type = 9 by simpa using t0] at r0
  obtain ⟨z0, e0, _⟩ := DataW.trod_string Tryd.underlying9 r0
  simp at e0
  obtain ⟨f1, g1, t1⟩ := hf 1 (by omega)
  obtain ⟨u1, n1, y1, c1, r1⟩ := hc 1 f1 g1
  rw [show f1.type = 22 by simpa using t1] at r1
  obtain ⟨A1, k1, ow, e1, b1, hO, hOb⟩ := strs_in r1
  obtain ⟨f2, g2, t2⟩ := hf 2 (by omega)
  obtain ⟨u2, n2, y2, c2, r2⟩ := hc 2 f2 g2
  rw [show f2.type = 3 by simpa using t2] at r2
  obtain ⟨z2, e2, _⟩ := DataW.trod_int Tryd.underlying3 r2
  simp at e2
  obtain ⟨f3, g3, t3⟩ := hf 3 (by omega)
  obtain ⟨u3, n3, y3, c3, r3⟩ := hc 3 f3 g3
  rw [show f3.type = 23 by simpa using t3] at r3
  obtain ⟨f4, g4, t4⟩ := hf 4 (by omega)
  obtain ⟨u4, n4, y4, c4, r4⟩ := hc 4 f4 g4
  rw [show f4.type = 24 by simpa using t4] at r4
  obtain ⟨A4, l4, k4, e4, b4⟩ := slice_shape Tryd.underlying24 r4
  obtain ⟨f5, g5, t5⟩ := hf 5 (by omega)
  obtain ⟨u5, n5, y5, c5, r5⟩ := hc 5 f5 g5
  rw [show f5.type = 25 by simpa using t5] at r5
  obtain ⟨A5, l5, k5, e5, b5⟩ := slice_shape Tryd.underlying25 r5
  obtain ⟨f6, g6, t6⟩ := hf 6 (by omega)
  obtain ⟨u6, n6, y6, c6, r6⟩ := hc 6 f6 g6
  rw [show f6.type = 26 by simpa using t6] at r6
  obtain ⟨A6, l6, k6, e6, b6⟩ := slice_shape Tryd.underlying26 r6
  obtain ⟨f7, g7, t7⟩ := hf 7 (by omega)
  obtain ⟨u7, n7, y7, c7, r7⟩ := hc 7 f7 g7
  rw [show f7.type = 27 by simpa using t7] at r7
  obtain ⟨A7, l7, k7, e7, b7⟩ := slice_shape Tryd.underlying27 r7
  obtain ⟨f8, g8, t8⟩ := hf 8 (by omega)
  obtain ⟨u8, n8, y8, c8, r8⟩ := hc 8 f8 g8
  rw [show f8.type = 28 by simpa using t8] at r8
  obtain ⟨A8, l8, k8, e8, b8⟩ := slice_shape Tryd.underlying28 r8
  obtain ⟨f9, g9, t9⟩ := hf 9 (by omega)
  obtain ⟨u9, n9, y9, c9, r9⟩ := hc 9 f9 g9
  rw [show f9.type = 29 by simpa using t9] at r9
  obtain ⟨A9, l9, k9, e9, b9⟩ := slice_shape Tryd.underlying29 r9
  obtain ⟨f10, g10, t10⟩ := hf 10 (by omega)
  obtain ⟨u10, n10, y10, c10, r10⟩ := hc 10 f10 g10
  rw [show f10.type = 3 by simpa using t10] at r10
  obtain ⟨z10, e10, _⟩ := DataW.trod_int Tryd.underlying3 r10
  simp at e10
  obtain ⟨A3, k3, pl, e3, b3, hP, hPb⟩ := names_in r3
  refine ⟨⟨z0, A1, ow.length, k1, z2, A3, k3, A4, l4, k4, A5, l5, k5, A6, l6, k6, A7, l7, k7, A8, l8, k8, A9, l9, k9, z10⟩, pl, ow, ?_, b3, b1, rfl, hO, hP, hPb, hOb⟩
  congr 1
  subst e0 e1 e2 e3 e4 e5 e6 e7 e8 e9 e10
  have hs11 : cs.size = 11 := by rw [hcs, hsz]
  obtain ⟨l⟩ := cs
  match l, hs11 with
  | [a0, a1, a2, a3, a4, a5, a6, a7, a8, a9, a10], _ =>
    simp at c0 c1 c2 c3 c4 c5 c6 c7 c8 c9 c10
    subst c0 c1 c2 c3 c4 c5 c6 c7 c8 c9 c10
    rfl

end
end Go.Proofs.YtminphldifncaaaDoor

/- What the bound on the bulk of the arguments gives: how many entries, how long the names. -/
namespace Go.Proofs.YtminphldifncaaaDoor
open Go.ChangeShapes Go.WideShapes Go.ChangeAt Go.RowKit Go.Deep LG
theorem bulk_one {H : Type} (d : DataW H) : 1 ≤ Rows.uptoBulk d := by
  cases d with
  | lit l => cases l <;> simp [Rows.uptoBulk]
  | nil => simp [Rows.uptoBulk]
  | ptr d => simp [Rows.uptoBulk]
  | slice elems spare => simp [Rows.uptoBulk]
  | agg parts => simp [Rows.uptoBulk]
  | iface t d => simp [Rows.uptoBulk]
  | map entries => simp [Rows.uptoBulk]
  | held h => simp [Rows.uptoBulk]
theorem bulk_part {H : Type} {d : DataW H} {l : List (DataW H)} (h : d ∈ l) : Rows.uptoBulk d ≤ Rows.uptoBulkAll l := by
  induction l with
  | nil => cases h
  | cons x r ih =>
    simp only [Rows.uptoBulkAll]
    cases List.mem_cons.1 h with
    | inl e => subst e; omega
    | inr e => have := ih e; omega
theorem bulk_len {H : Type} (k : Nat) (l : List (DataW H)) (h : ∀ d ∈ l, k ≤ Rows.uptoBulk d) : k * l.length ≤ Rows.uptoBulkAll l := by
  induction l with
  | nil => simp [Rows.uptoBulkAll]
  | cons x r ih =>
    have h1 := h x (List.mem_cons_self ..)
    have h2 := ih fun d hd => h d (List.mem_cons_of_mem _ hd)
    simp only [Rows.uptoBulkAll, List.length_cons, Nat.mul_succ]
    omega
theorem bulk_small {H : Type} {l : List (DataW H)} (hk : Rows.uptoSmall H l = true) : Rows.uptoBulkAll l ≤ 1048576 := of_decide_eq_true hk
section
variable {H : Type} {enc : TypeId × Value → H} {P : Program} {w : World} {base : Nat} {spare : Nat → Bool} {held : Bool} {r : Reach} {b0 : Nat}
/-- The elements of a slice that was read, with their bulk. -/
theorem slice_bulk {t e : TypeId} {n : Nat} {C : Option Addr} {len cc : Nat} {x : DataW H × List MemPlace} (ht : P.underlying t = some (.slice e)) (h : DataW.trod enc P w base spare held n t [.slice C len cc] = some x) (i : Nat) (hi : i < len) :
    ∃ (a : Addr) (cs' : List Value) (m : Nat) (y : DataW H × List MemPlace), C = some a ∧ w.cells? base (a.add (i * P.cellsOf e)) (P.cellsOf e) = some cs' ∧ DataW.trod enc P w base spare held m e cs' = some y ∧ Rows.uptoBulk y.1 ≤ Rows.uptoBulk x.1 := by
  rcases DataW.trod_slice ht h with ⟨h0, _⟩ | ⟨a, len', cap, elems, rest, m, _, hcs, rfl, hb, hl, hm, hlen, hel, _, _⟩
  · simp at h0; omega
  · simp at hcs
    obtain ⟨rfl, rfl, rfl⟩ := hcs
    have h1 := hel i hi
    rw [List.getElem?_eq_getElem (by omega)] at h1
    cases hq : w.cells? base (a.add (i * P.cellsOf e)) (P.cellsOf e) with
    | none => rw [hq] at h1; cases h1
    | some cs' =>
      rw [hq] at h1
      refine ⟨a, cs', m, _, rfl, hq, h1, ?_⟩
      have : (elems[i]'(by omega)).1 ∈ elems.map (·.1) := List.mem_map.2 ⟨_, List.getElem_mem _, rfl⟩
      have := bulk_part this
      show _ ≤ Rows.uptoBulk (.slice _ _)
      simp only [Rows.uptoBulk]
      omega
theorem slice_count {t e : TypeId} {fs : Array Field} {n : Nat} {C : Option Addr} {len cc : Nat} {x : DataW H × List MemPlace} (ht : P.underlying t = some (.slice e)) (he : P.underlying e = some (.struct fs)) (h0 : 0 < fs.size) (h : DataW.trod enc P w base spare held n t [.slice C len cc] = some x) :
    (fs.size + 1) * len ≤ Rows.uptoBulk x.1 := by
  rcases DataW.trod_slice ht h with ⟨h0, _⟩ | ⟨a, len', cap, elems, rest, m, _, hcs, rfl, hb, hl, hm, hlen, hel, _, _⟩
  · simp at h0
    rw [h0.2.1]
    simp
  · simp at hcs
    obtain ⟨rfl, rfl, rfl⟩ := hcs
    have h2 := bulk_len (fs.size + 1) (elems.map (·.1)) (fun d hd => by
      obtain ⟨y, hy, rfl⟩ := List.mem_map.1 hd
      obtain ⟨i, hi, rfl⟩ := List.mem_iff_getElem.1 hy
      have h1 := hel i (by omega)
      rw [List.getElem?_eq_getElem hi] at h1
      cases hq : w.cells? base (a.add (i * P.cellsOf e)) (P.cellsOf e) with
      | none => rw [hq] at h1; cases h1
      | some cs' =>
        rw [hq] at h1
        obtain ⟨xs, n', _, hx, _, hl', _⟩ := DataW.trod_struct he h1
        rw [hx]
        simp only [Rows.uptoBulk]
        have := bulk_len 1 (xs.map (·.1)) (fun d _ => bulk_one d)
        rw [List.length_map] at this
        omega)
    rw [List.length_map, hlen] at h2
    show _ ≤ Rows.uptoBulk (.slice _ _)
    simp only [Rows.uptoBulk]
    omega
/-- The fields of a struct that was read, with their bulk. -/
theorem struct_bulk {t : TypeId} {fs : Array Field} {n : Nat} {cs : List Value} {x : DataW H × List MemPlace} (hs : P.underlying t = some (.struct fs)) (hone : oneCellFields P fs = true) (h : DataW.trod enc P w base spare held n t cs = some x) (hC : P.cellsOf t = fs.size) (j : Nat) (f : Field) (hj : fs[j]? = some f) :
    ∃ (u : Value) (m : Nat) (y : DataW H × List MemPlace), cs[j]? = some u ∧ DataW.trod enc P w base spare held m f.type [u] = some y ∧ Rows.uptoBulk y.1 ≤ Rows.uptoBulk x.1 := by
  obtain ⟨xs, m, _, hx, hl, hlen, hg⟩ := DataW.trod_struct hs h
  have hjl : j < fs.size := (Array.getElem?_eq_some_iff.1 hj).1
  obtain ⟨ho, hk⟩ := hone_of hone j f hj
  have h1 := hg j f hj
  rw [ho, hk] at h1
  have hlt : j < cs.length := by rw [hl, hC]; exact hjl
  have hone' : (cs.drop j).take 1 = [cs[j]] := by
    rw [List.drop_eq_getElem_cons hlt]
    rfl
  rw [hone', List.getElem?_eq_getElem (by omega)] at h1
  refine ⟨_, _, _, List.getElem?_eq_getElem hlt, h1, ?_⟩
  have : (xs[j]'(by omega)).1 ∈ xs.map (·.1) := List.mem_map.2 ⟨_, List.getElem_mem _, rfl⟩
  have := bulk_part this
  rw [hx]
  show _ ≤ Rows.uptoBulk (.agg _)
  simp only [Rows.uptoBulk]
  omega
end
section
variable {H : Type} {enc : TypeId × Value → H} {w : World} {base : Nat} {spare : Nat → Bool} {held : Bool} {r : Reach} {b0 : Nat}
set_option maxRecDepth 100000 in
theorem strs_bulk {n : Nat} {C : Option Addr} {cc B : Nat} {l : List Bts} {x : DataW H × List MemPlace} (h : DataW.trod enc Tryd.prog w base spare held n 22 [.slice C l.length cc] = some x) (hS : StrsAt w B C l) : ∀ y ∈ l, y.length ≤ Rows.uptoBulk x.1 := fun y hy => by
  obtain ⟨k, hk, rfl⟩ := List.mem_iff_getElem.1 hy
  obtain ⟨a, cs', m, z, ha, hc, ht, hb⟩ := slice_bulk Tryd.underlying22 h k hk
  rw [cellsStr, Nat.mul_one] at hc
  obtain ⟨_, hcl, hat⟩ := World.cells?_some hc
  obtain ⟨s, rfl, hz, hs⟩ := DataW.trod_string Tryd.underlying9 ht
  have h1 := hat 0 (by omega)
  rw [Addr.add_zero'] at h1
  obtain ⟨b, off, e, _, hcell⟩ := hS.at_ (List.getElem?_eq_getElem hk)
  rw [ha] at e
  injection e with e
  subst e
  rw [Addr.add_lit, hcell] at h1
  have h2 : bs l[k] = s := by simpa using h1
  rw [hz] at hb
  simp only [Rows.uptoBulk] at hb
  rw [← h2, bs_list] at hb
  omega
set_option maxRecDepth 100000 in
theorem names_bulk {n : Nat} {C : Option Addr} {cc B : Nat} {l : List Bts} {x : DataW H × List MemPlace} (h : DataW.trod enc Tryd.prog w base spare held n 23 [.slice C l.length cc] = some x) (hS : NamesAt w B C l) : ∀ y ∈ l, y.length ≤ Rows.uptoBulk x.1 := fun y hy => by
  obtain ⟨fs, he, hone, hsz, hty⟩ := fieldsPlace
  obtain ⟨f0, hf0, hft⟩ : ∃ f, fs[0]? = some f ∧ f.type = 9 := by
    cases hq : fs[0]? with
    | none => rw [hq] at hty; cases hty
    | some f => rw [hq] at hty; exact ⟨f, rfl, by simpa using hty⟩
  obtain ⟨k, hk, rfl⟩ := List.mem_iff_getElem.1 hy
  obtain ⟨a, cs', m, z, ha, hc, ht, hb⟩ := slice_bulk Tryd.underlying23 h k hk
  rw [cellsPlace] at hc
  obtain ⟨_, hcl, hat⟩ := World.cells?_some hc
  obtain ⟨u, m', y', hu, hy', hb'⟩ := struct_bulk he hone ht (cellsPlace.trans hsz.symm) 0 f0 hf0
  rw [hft] at hy'
  obtain ⟨s, hus, hz, hs⟩ := DataW.trod_string Tryd.underlying9 hy'
  simp at hus
  subst hus
  have h1 := hat 0 (by omega)
  rw [Addr.add_zero'] at h1
  obtain ⟨b, off, e, _, hcell⟩ := hS.at_ (List.getElem?_eq_getElem hk)
  rw [ha] at e
  injection e with e
  subst e
  rw [Addr.add_lit, hcell] at h1
  have h3 : cs'[0]? = some (.string s) := hu
  have h2 : bs l[k] = s := by
    first
      | (rw [← h1] at h3; simpa using h3)
      | (rw [h3] at h1; simpa using h1)
      | (rw [List.getElem?_eq_getElem (by omega)] at h3; simp_all)
  rw [hz] at hb'
  simp only [Rows.uptoBulk] at hb'
  rw [← h2, bs_list] at hb'
  omega
set_option maxRecDepth 100000 in
theorem ents_bulk {C : Option Addr} {cc : Nat} {l : List Et} {d : DataW H} {p : List MemPlace} (h : DataW.Trod enc Tryd.prog w base spare held 32 (.slice C l.length cc) d p) : 8 * l.length ≤ Rows.uptoBulk d := by
  obtain ⟨fs, he, hone, hsz, hall⟩ := fieldsEntry
  obtain ⟨fuel, hf⟩ := h
  have := slice_count Tryd.underlying32 he (by omega) hf
  rw [hsz] at this
  exact this
set_option maxRecDepth 100000 in
theorem basin_bulk {X : Bas} {pl ow : List Bts} {d : DataW H} {p : List MemPlace} {B : Nat} (h : DataW.Trod enc Tryd.prog w base spare held 31 (.agg #[.string X.nm, .slice X.a1 X.l1 X.c1, .int .i64 X.cl, .slice X.P pl.length X.cP, .slice X.a4 X.l4 X.c4, .slice X.a5 X.l5 X.c5, .slice X.a6 X.l6 X.c6, .slice X.a7 X.l7 X.c7, .slice X.a8 X.l8 X.c8, .slice X.a9 X.l9 X.c9, .int .i64 X.er]) d p) (hX : X.l1 = ow.length) (hO : StrsAt w B X.a1 ow) (hN : NamesAt w B X.P pl) : (∀ x ∈ pl, x.length ≤ Rows.uptoBulk d) ∧ ∀ x ∈ ow, x.length ≤ Rows.uptoBulk d := by
  obtain ⟨fs, he, hone, hsz, hty⟩ := fieldsBas
  obtain ⟨fuel, hf⟩ := h
  have hfs : ∀ j, j < 11 → ∃ f, fs[j]? = some f ∧ some f.type = (#[9, 22, 3, 23, 24, 25, 26, 27, 28, 29, 3] : Array Nat)[j]? := fun j hj => by
    refine ⟨fs[j]'(by omega), Array.getElem?_eq_getElem _, ?_⟩
    rw [← hty]; simp [hsz, hj]
  obtain ⟨f1, g1, t1⟩ := hfs 1 (by omega)
  obtain ⟨u1, n1, y1, c1, r1, b1⟩ := struct_bulk he hone hf (cellsBas.trans hsz.symm) 1 f1 g1
  rw [show f1.type = 22 by simpa using t1] at r1
  obtain ⟨f3, g3, t3⟩ := hfs 3 (by omega)
  obtain ⟨u3, n3, y3, c3, r3, b3⟩ := struct_bulk he hone hf (cellsBas.trans hsz.symm) 3 f3 g3
  rw [show f3.type = 23 by simpa using t3] at r3
  have e1 : u1 = .slice X.a1 ow.length X.c1 := by rw [← hX]; exact (Option.some.inj (c1.symm.trans rfl))
  have e3 : u3 = .slice X.P pl.length X.cP := Option.some.inj (c3.symm.trans rfl)
  subst e1 e3
  exact ⟨fun x hx => Nat.le_trans (names_bulk r3 hN x hx) b3, fun x hx => Nat.le_trans (strs_bulk r1 hO x hx) b1⟩
end
end Go.Proofs.YtminphldifncaaaDoor

