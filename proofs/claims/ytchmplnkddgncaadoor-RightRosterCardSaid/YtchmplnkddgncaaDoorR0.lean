/- What the rows' lists give the walks (the table of the months), a world for the witness, and the opened arguments. -/
import Derived.Test.YtchmplnkddgncaaDoorCards
import Derived.Test.YtchmplnkddgncaaDoorTie
import Derived.Test.YtchmplnkddgncaaDoorKit
import Derived.Test.YtchmplnkddgncaaDoorOpenInts
import Derived.Test.YtchmplnkddgncaaDoorRW14
import Derived.Deep.DeepHandedRow
import Derived.Lib.LaidTab
import Derived.Stop.LaidErr
set_option linter.unusedSimpArgs false
set_option linter.unusedVariables false
namespace Go.Proofs.YtchmplnkddgncaaDoor
open Go.ChangeShapes Go.WideShapes Go.ChangeAt Go.RowKit Go.Deep CM RG

theorem own : ownKnob Tryd.prog.godebug = none := by kernel_rfl
theorem laidOut : laidOutB Tryd.prog = true := by kernel_rfl
def monName : String := (Rows.rightTellsRow.laid.map Prod.fst).getD 0 default
def monTab : List Int := [31, 29, 31, 30, 31, 30, 31, 31, 30, 31, 30, 31]
theorem gMon : Tryd.prog.globalNamed monName = some 0 := by kernel_rfl
theorem gMonType : (Tryd.prog.globals[0]?).map (·.type) = some 72 := by kernel_rfl
theorem cellsTab : Tryd.prog.cellsOf 72 = 12 := by kernel_rfl
theorem cellsI : Tryd.prog.cellsOf 3 = 1 := by kernel_rfl
def laidM : List (String × DataW Unit) := Rows.rightTellsRow.laid
theorem monTabIs {W : World} (h : laidMet Tryd.prog laidM W) : Lib.TabIs Tryd.prog W monName .i64 monTab := by
  have h1 : laidMet Tryd.prog [(monName, Lib.tabData .i64 monTab)] W := h
  exact Lib.tabIs_of_head gMon gMonType Tryd.underlying72 Tryd.underlying3 cellsI cellsTab h1
theorem months_of {W : World} (h : laidMet Tryd.prog laidM W) : Months W := fun i hi => by
  have := (monTabIs h).cell gMon i hi
  rw [this]
  have : i = 0 ∨ i = 1 ∨ i = 2 ∨ i = 3 ∨ i = 4 ∨ i = 5 ∨ i = 6 ∨ i = 7 ∨ i = 8 ∨ i = 9 ∨ i = 10 ∨ i = 11 := by omega
  rcases this with rfl | rfl | rfl | rfl | rfl | rfl | rfl | rfl | rfl | rfl | rfl | rfl <;> rfl
def toV (k : IntKind) (d : DataW Unit) : Value := match d with
  | .lit (.int _ n) => .int k n
  | _ => .int k 0
def tabV (k : IntKind) (d : DataW Unit) : Array Value := match d with
  | .agg l => (l.map (toV k)).toArray
  | _ => #[]
/-- A world for the witness: the settled one, the table holding what its initialiser lays. -/
noncomputable def laidWorld (os : Os) : World :=
  let h := World.holding Tryd.prog os ⟨#[], #[], []⟩
  let put (i : Nat) (cs : Array Value) (hp : Array Obj) : Array Obj := hp.modify i fun
    | .cells _ t frozen => .cells cs t frozen
    | o => o
  { h with heap := put 0 (tabV .i64 Rows.laid_bourne_date_months) h.heap }
theorem cellsBas : Tryd.prog.cellsOf 31 = 11 := by kernel_rfl
theorem fieldsBas : ∃ fs, Tryd.prog.underlying 31 = some (.struct fs) ∧ oneCellFields Tryd.prog fs = true ∧ fs.size = 11 ∧ fs.map (·.type) = #[9, 22, 3, 23, 24, 25, 26, 27, 28, 29, 3] := ⟨_, Tryd.underlying31, by kernel_rfl, by kernel_rfl, by kernel_rfl⟩
section
variable {H : Type} {enc : TypeId × Value → H} {P : Program} {w : World} {base : Nat} {spare : Nat → Bool} {held : Bool} {r : Reach} {b0 : Nat}
theorem agg_fields {t : TypeId} {fs : Array Field} {v : Value} {d : DataW H} {p : List MemPlace} (hs : P.underlying t = some (.struct fs)) (hone : oneCellFields P fs = true) (hC : P.cellsOf t = fs.size) (hv : Value.okWide P w r b0 t v) (h : DataW.Trod enc P w base spare held t v d p) :
    ∃ cs : Array Value, v = .agg cs ∧ cs.size = fs.size ∧ ∀ (j : Nat) (f : Field), fs[j]? = some f → ∃ (u : Value) (n : Nat) (y : DataW H × List MemPlace), cs[j]? = some u ∧ DataW.trod enc P w base spare held n f.type [u] = some y := by
  obtain ⟨cs, rfl, hsz⟩ := okWide_struct hs hv
  refine ⟨cs, rfl, hsz.trans hC, fun j f hj => ?_⟩
  obtain ⟨fuel, hf⟩ := h
  obtain ⟨xs, n, _, hx, _, hlen, hg⟩ := DataW.trod_struct hs hf
  have hjl : j < fs.size := (Array.getElem?_eq_some_iff.1 hj).1
  obtain ⟨ho, hk⟩ := hone_of hone j f hj
  have h1 := hg j f hj
  rw [ho, hk] at h1
  have hlt : j < cs.size := by rw [hsz, hC]; exact hjl
  have hcl : (Value.agg cs).cells.toList = cs.toList := rfl
  have hone' : ((Value.agg cs).cells.toList.drop j).take 1 = [cs[j]] := by
    rw [hcl, List.drop_eq_getElem_cons (by simpa using hlt)]
    simp
  rw [hone', List.getElem?_eq_getElem (by omega)] at h1
  exact ⟨_, _, _, Array.getElem?_eq_getElem hlt, h1⟩
theorem slice_shape {t e : TypeId} {n : Nat} {u : Value} {y : DataW H × List MemPlace} (ht : P.underlying t = some (.slice e)) (h : DataW.trod enc P w base spare held n t [u] = some y) : ∃ C l c, u = .slice C l c ∧ l ≤ 9223372036854775807 := by
  rcases open_slice ht h with ⟨hcs, _⟩ | ⟨a, len, cap, _, _, _, _, hcs, _, hlc, hcm, _⟩
  · exact ⟨none, 0, 0, by simpa using hcs, by omega⟩
  · exact ⟨some a, len, cap, by simpa using hcs, by unfold maxLen at *; omega⟩
end
section
variable {H : Type} {enc : TypeId × Value → H} {w : World} {base : Nat} {spare : Nat → Bool} {held : Bool} {r : Reach} {b0 : Nat}
theorem open_basin {v : Value} {d : DataW H} {p : List MemPlace} (hv : Value.okWide Tryd.prog w r b0 31 v) (h : DataW.Trod enc Tryd.prog w base spare held 31 v d p) :
    ∃ (X : Bas) (pl : Pl), v = .agg #[.string X.nm, .slice X.a1 X.l1 X.c1, .int .i64 X.cl, .slice X.P pl.length X.cP, .slice X.a4 X.l4 X.c4, .slice X.a5 X.l5 X.c5, .slice X.a6 X.l6 X.c6, .slice X.a7 X.l7 X.c7, .slice X.a8 X.l8 X.c8, .slice X.a9 X.l9 X.c9, .int .i64 X.er] ∧ pl.length ≤ 9223372036854775807 ∧ X.l1 ≤ 9223372036854775807 := by
  obtain ⟨fs, he, hone, hsz, hty⟩ := fieldsBas
  obtain ⟨cs, rfl, hcs, hc⟩ := agg_fields he hone (cellsBas.trans hsz.symm) hv h
  have hf : ∀ j, j < 11 → ∃ f, fs[j]? = some f ∧ some f.type = (#[9, 22, 3, 23, 24, 25, 26, 27, 28, 29, 3] : Array Nat)[j]? := fun j hj => by
    refine ⟨fs[j]'(by omega), Array.getElem?_eq_getElem _, ?_⟩
    rw [← hty]; simp [hsz, hj]
  obtain ⟨f0, g0, t0⟩ := hf 0 (by omega)
  obtain ⟨u0, n0, y0, c0, r0⟩ := hc 0 f0 g0
  rw [show f0.type = 9 by simpa using t0] at r0
  obtain ⟨z0, e0, _⟩ := DataW.trod_string Tryd.underlying9 r0
  simp at e0
  obtain ⟨f1, g1, t1⟩ := hf 1 (by omega)
  obtain ⟨u1, n1, y1, c1, r1⟩ := hc 1 f1 g1
  rw [show f1.type = 22 by simpa using t1] at r1
  obtain ⟨A1, l1, k1, e1, b1⟩ := slice_shape Tryd.underlying22 r1
  obtain ⟨f2, g2, t2⟩ := hf 2 (by omega)
  obtain ⟨u2, n2, y2, c2, r2⟩ := hc 2 f2 g2
  rw [show f2.type = 3 by simpa using t2] at r2
  obtain ⟨z2, e2, _⟩ := DataW.trod_int Tryd.underlying3 r2
  simp at e2
  obtain ⟨f3, g3, t3⟩ := hf 3 (by omega)
  obtain ⟨u3, n3, y3, c3, r3⟩ := hc 3 f3 g3
  rw [show f3.type = 23 by simpa using t3] at r3
  obtain ⟨f4, g4, t4⟩ := hf 4 (by omega)
  obtain ⟨u4, n4, y4, c4, r4⟩ := hc 4 f4 g4
  rw [show f4.type = 24 by simpa using t4] at r4
  obtain ⟨A4, l4, k4, e4, b4⟩ := slice_shape Tryd.underlying24 r4
  obtain ⟨f5, g5, t5⟩ := hf 5 (by omega)
  obtain ⟨u5, n5, y5, c5, r5⟩ := hc 5 f5 g5
  rw [show f5.type = 25 by simpa using t5] at r5
  obtain ⟨A5, l5, k5, e5, b5⟩ := slice_shape Tryd.underlying25 r5
  obtain ⟨f6, g6, t6⟩ := hf 6 (by omega)
  obtain ⟨u6, n6, y6, c6, r6⟩ := hc 6 f6 g6
  rw [show f6.type = 26 by simpa using t6] at r6
  obtain ⟨A6, l6, k6, e6, b6⟩ := slice_shape Tryd.underlying26 r6
  obtain ⟨f7, g7, t7⟩ := hf 7 (by omega)
  obtain ⟨u7, n7, y7, c7, r7⟩ := hc 7 f7 g7
  rw [show f7.type = 27 by simpa using t7] at r7
  obtain ⟨A7, l7, k7, e7, b7⟩ := slice_shape Tryd.underlying27 r7
  obtain ⟨f8, g8, t8⟩ := hf 8 (by omega)
  obtain ⟨u8, n8, y8, c8, r8⟩ := hc 8 f8 g8
  rw [show f8.type = 28 by simpa using t8] at r8
  obtain ⟨A8, l8, k8, e8, b8⟩ := slice_shape Tryd.underlying28 r8
  obtain ⟨f9, g9, t9⟩ := hf 9 (by omega)
  obtain ⟨u9, n9, y9, c9, r9⟩ := hc 9 f9 g9
  rw [show f9.type = 29 by simpa using t9] at r9
  obtain ⟨A9, l9, k9, e9, b9⟩ := slice_shape Tryd.underlying29 r9
  obtain ⟨f10, g10, t10⟩ := hf 10 (by omega)
  obtain ⟨u10, n10, y10, c10, r10⟩ := hc 10 f10 g10
  rw [show f10.type = 3 by simpa using t10] at r10
  obtain ⟨z10, e10, _⟩ := DataW.trod_int Tryd.underlying3 r10
  simp at e10
  obtain ⟨A3, l3, k3, e3, b3⟩ := slice_shape Tryd.underlying23 r3
  have hpl : (List.replicate l3 ((0 : Int), (0 : Int))).length = l3 := by simp
  refine ⟨⟨z0, A1, l1, k1, z2, A3, k3, A4, l4, k4, A5, l5, k5, A6, l6, k6, A7, l7, k7, A8, l8, k8, A9, l9, k9, z10⟩, List.replicate l3 (0, 0), ?_, by rw [hpl]; exact b3, b1⟩
  congr 1
  subst e0 e1 e2 e3 e4 e5 e6 e7 e8 e9 e10
  have hs11 : cs.size = 11 := by rw [hcs, hsz]
  obtain ⟨l⟩ := cs
  rw [hpl]
  match l, hs11 with
  | [a0, a1, a2, a3, a4, a5, a6, a7, a8, a9, a10], _ =>
    simp at c0 c1 c2 c3 c4 c5 c6 c7 c8 c9 c10
    subst c0 c1 c2 c3 c4 c5 c6 c7 c8 c9 c10
    rfl

def rtOf (F : Nat → Int) (i : Nat) : Rt := ⟨F i, F (i + 1), F (i + 2), F (i + 3), F (i + 4), F (i + 5), F (i + 6), F (i + 7), F (i + 8)⟩
def dlOf (F : Nat → Int) (i : Nat) : Dl := ⟨F i, F (i + 1), rtOf F (i + 2), F (i + 11), F (i + 12)⟩
theorem open_right {v : Value} {d : DataW H} {p : List MemPlace} (hv : Value.okWide Tryd.prog w r b0 33 v) (h : DataW.Trod enc Tryd.prog w base spare held 33 v d p) :
    ∃ X : Rt, v = .agg #[.int .i64 X.id, .int .i64 X.owner, .int .i64 X.date, .int .i64 X.place, .int .i64 X.rate, .int .i64 X.from1, .int .i64 X.until1, .int .i64 X.back, .int .i64 X.backTo] ∧ RtIn X := by
  obtain ⟨F, rfl, hF⟩ := open_struct_ints (n := 3) (k := 9) Tryd.underlying33 (by kernel_rfl) (by kernel_rfl) hv h
  exact ⟨rtOf F 0, rfl, hF _, hF _⟩
theorem open_deal {v : Value} {d : DataW H} {p : List MemPlace} (hv : Value.okWide Tryd.prog w r b0 44 v) (h : DataW.Trod enc Tryd.prog w base spare held 44 v d p) :
    ∃ X : Dl, v = .agg #[.int .i64 X.kind, .int .i64 X.known, .int .i64 X.right.id, .int .i64 X.right.owner, .int .i64 X.right.date, .int .i64 X.right.place, .int .i64 X.right.rate, .int .i64 X.right.from1, .int .i64 X.right.until1, .int .i64 X.right.back, .int .i64 X.right.backTo, .int .i64 X.from1, .int .i64 X.until1] ∧ RtIn X.right := by
  obtain ⟨F, rfl, hF⟩ := open_struct_ints (n := 3) (k := 13) Tryd.underlying44 (by kernel_rfl) (by kernel_rfl) hv h
  exact ⟨dlOf F 0, rfl, hF _, hF _⟩
theorem row_of_cells {α : Type} {enc : α → List Value} {k len : Nat} {C : Option Addr} {F : Nat → Int} (G : Nat → α) (hk : 0 < k) (he : ∀ i j u, (enc (G i))[j]? = some u → j < k ∧ u = .int .i64 (F (i * k + j))) (h : CellsAt w w.heap.size C (len * k) (fun j => .int .i64 (F j))) :
    RowAt enc k w w.heap.size C ((List.range len).map G) := by
  intro hpos
  have hl : ((List.range len).map G).length = len := by simp
  rw [hl] at hpos
  obtain ⟨b, off, e, hb, hc⟩ := h (Nat.mul_pos hpos hk)
  refine ⟨b, off, e, hb, fun i x hi j u hj => ?_⟩
  have hil : i < len := by have := (List.getElem?_eq_some_iff.1 hi).1; omega
  have hx : G i = x := by simpa [hil] using hi
  subst hx
  obtain ⟨hjk, rfl⟩ := he i j u hj
  refine hc (i * k + j) ?_
  have : (i + 1) * k ≤ len * k := Nat.mul_le_mul_right _ hil
  rw [Nat.succ_mul] at this
  omega
theorem open_rights {v : Value} {d : DataW H} {p : List MemPlace} (hv : Value.okWide Tryd.prog w r b0 34 v) (h : DataW.Trod enc Tryd.prog w base spare held 34 v d p) :
    ∃ (C : Option Addr) (cc : Nat) (A : List Rt), v = .slice C A.length cc ∧ A.length ≤ 9223372036854775807 ∧ RightsAt w w.heap.size C A ∧ ∀ x ∈ A, RtIn x := by
  obtain ⟨C, len, cc, F, rfl, hl, hc, hF⟩ := open_slice_ints (n := 3) (k := 9) Tryd.underlying34 (by kernel_rfl) (by kernel_rfl) (by decide) hv h
  have hA : ((List.range len).map fun i => rtOf F (i * 9)).length = len := by simp
  refine ⟨C, cc, (List.range len).map fun i => rtOf F (i * 9), by rw [hA], by rw [hA]; exact hl, row_of_cells (enc := Rt.cells) _ (by decide) (fun i j u hj => ?_) hc, fun x hx => ?_⟩
  · have hjl : j < 9 := (List.getElem?_eq_some_iff.1 hj).1
    refine ⟨hjl, ?_⟩
    match j, hjl with
    | 0, _ => exact (Option.some.inj hj).symm
    | 1, _ => exact (Option.some.inj hj).symm
    | 2, _ => exact (Option.some.inj hj).symm
    | 3, _ => exact (Option.some.inj hj).symm
    | 4, _ => exact (Option.some.inj hj).symm
    | 5, _ => exact (Option.some.inj hj).symm
    | 6, _ => exact (Option.some.inj hj).symm
    | 7, _ => exact (Option.some.inj hj).symm
    | 8, _ => exact (Option.some.inj hj).symm
  · obtain ⟨i, _, rfl⟩ := List.mem_map.1 hx
    exact ⟨hF _, hF _⟩
theorem open_deals {v : Value} {d : DataW H} {p : List MemPlace} (hv : Value.okWide Tryd.prog w r b0 35 v) (h : DataW.Trod enc Tryd.prog w base spare held 35 v d p) :
    ∃ (C : Option Addr) (cc : Nat) (A : List Dl), v = .slice C A.length cc ∧ A.length ≤ 9223372036854775807 ∧ DealsAt w w.heap.size C A ∧ DlsIn A := by
  obtain ⟨C, len, cc, F, rfl, hl, hc, hF⟩ := open_slice_ints (n := 3) (k := 13) Tryd.underlying35 (by kernel_rfl) (by kernel_rfl) (by decide) hv h
  have hA : ((List.range len).map fun i => dlOf F (i * 13)).length = len := by simp
  refine ⟨C, cc, (List.range len).map fun i => dlOf F (i * 13), by rw [hA], by rw [hA]; exact hl, row_of_cells (enc := Dl.cells) _ (by decide) (fun i j u hj => ?_) hc, fun x hx => ?_⟩
  · have hjl : j < 13 := (List.getElem?_eq_some_iff.1 hj).1
    refine ⟨hjl, ?_⟩
    match j, hjl with
    | 0, _ => exact (Option.some.inj hj).symm
    | 1, _ => exact (Option.some.inj hj).symm
    | 2, _ => exact (Option.some.inj hj).symm
    | 3, _ => exact (Option.some.inj hj).symm
    | 4, _ => exact (Option.some.inj hj).symm
    | 5, _ => exact (Option.some.inj hj).symm
    | 6, _ => exact (Option.some.inj hj).symm
    | 7, _ => exact (Option.some.inj hj).symm
    | 8, _ => exact (Option.some.inj hj).symm
    | 9, _ => exact (Option.some.inj hj).symm
    | 10, _ => exact (Option.some.inj hj).symm
    | 11, _ => exact (Option.some.inj hj).symm
    | 12, _ => exact (Option.some.inj hj).symm
  · obtain ⟨i, _, rfl⟩ := List.mem_map.1 hx
    exact ⟨hF _, hF _⟩
end
end Go.Proofs.YtchmplnkddgncaaDoor
