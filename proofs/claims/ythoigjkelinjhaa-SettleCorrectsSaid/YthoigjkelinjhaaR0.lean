/- Joined of: R0. -/
import Derived.Lib.SmallJoins
import Derived.SizedLaws
import Derived.Test.YthoigjkelinjhaaKit
import Derived.Test.YthoigjkelinjhaaG04
import Derived.Test.YthoigjkelinjhaaS4
/- What the rows share: closed facts of the program; the opened arguments. -/
set_option linter.unusedSimpArgs false
set_option linter.unusedVariables false
namespace Go.Proofs.Ythoigjkelinjhaa
set_option maxRecDepth 100000
open Go.ChangeShapes Go.WideShapes Go.ChangeAt Go.RowKit Go.Deep CM

theorem own : ownKnob Try.prog.godebug = none := by kernel_rfl
theorem laidOut : laidOutB Try.prog = true := by kernel_rfl
theorem cellsI : Try.prog.cellsOf 3 = 1 := by kernel_rfl
theorem cellsBas : Try.prog.cellsOf 31 = 11 := by kernel_rfl
theorem cellsPlace : Try.prog.cellsOf 91 = 12 := by kernel_rfl
theorem cellsRight : Try.prog.cellsOf 49 = 9 := by kernel_rfl
theorem cellsGrant : Try.prog.cellsOf 61 = 2 := by kernel_rfl
theorem fieldsBas : ∃ fs, Try.prog.underlying 31 = some (.struct fs) ∧ oneCellFields Try.prog fs = true ∧ fs.size = 11 ∧ fs.map (·.type) = #[9, 22, 3, 23, 24, 25, 26, 27, 28, 29, 3] := ⟨_, Try.underlying31, by kernel_rfl, by kernel_rfl, by kernel_rfl⟩
theorem fieldsPlace : ∃ fs, Try.prog.underlying 91 = some (.struct fs) ∧ oneCellFields Try.prog fs = true ∧ fs.size = 12 ∧ (fs[8]?).map (·.type) = some 3 ∧ (fs[9]?).map (·.type) = some 3 := ⟨_, Try.underlying91, by kernel_rfl, by kernel_rfl, by kernel_rfl, by kernel_rfl⟩
theorem fieldsRight : ∃ fs, Try.prog.underlying 49 = some (.struct fs) ∧ oneCellFields Try.prog fs = true ∧ fs.size = 9 ∧ (fs.all fun f => f.type == 3) = true := ⟨_, Try.underlying49, by kernel_rfl, by kernel_rfl, by kernel_rfl⟩
theorem fieldsGrant : ∃ fs, Try.prog.underlying 61 = some (.struct fs) ∧ oneCellFields Try.prog fs = true ∧ fs.size = 2 ∧ (fs.all fun f => f.type == 3) = true := ⟨_, Try.underlying61, by kernel_rfl, by kernel_rfl, by kernel_rfl⟩
section
variable {H : Type} {enc : TypeId × Value → H} {P : Program} {w : World} {base : Nat} {spare : Nat → Bool} {held : Bool} {r : Reach} {b0 : Nat}
theorem agg_fields {t : TypeId} {fs : Array Field} {v : Value} {d : DataW H} {p : List MemPlace} (hs : P.underlying t = some (.struct fs)) (hone : oneCellFields P fs = true) (hC : P.cellsOf t = fs.size) (hv : Value.okWide P w r b0 t v) (h : DataW.Trod enc P w base spare held t v d p) :
    ∃ cs : Array Value, v = .agg cs ∧ cs.size = fs.size ∧ ∀ (j : Nat) (f : Field), fs[j]? = some f → ∃ (u : Value) (n : Nat) (y : DataW H × List MemPlace), cs[j]? = some u ∧ DataW.trod enc P w base spare held n f.type [u] = some y := by
  obtain ⟨cs, rfl, hsz⟩ := okWide_struct hs hv
  refine ⟨cs, rfl, hsz.trans hC, fun j f hj => ?_⟩
  obtain ⟨fuel, hf⟩ := h
  obtain ⟨xs, n, _, hx, _, hlen, hg⟩ := DataW.trod_struct hs hf
  have hjl : j < fs.size := (Array.getElem?_eq_some_iff.1 hj).1
  obtain ⟨ho, hk⟩ := hone_of hone j f hj
  have h1 := hg j f hj
  rw [ho, hk] at h1
  have hlt : j < cs.size := by rw [hsz, hC]; exact hjl
  have hcl : (Value.agg cs).cells.toList = cs.toList := rfl
  have hone' : ((Value.agg cs).cells.toList.drop j).take 1 = [cs[j]] := by
    rw [hcl, List.drop_eq_getElem_cons (by simpa using hlt)]
    simp
  rw [hone', List.getElem?_eq_getElem (by omega)] at h1
  exact ⟨_, _, _, Array.getElem?_eq_getElem hlt, h1⟩
theorem slice_shape {t e : TypeId} {n : Nat} {u : Value} {y : DataW H × List MemPlace} (ht : P.underlying t = some (.slice e)) (h : DataW.trod enc P w base spare held n t [u] = some y) : ∃ C l c, u = .slice C l c := by
  rcases open_slice ht h with ⟨hcs, _⟩ | ⟨a, len, cap, _, _, _, _, hcs, _⟩
  · exact ⟨none, 0, 0, by simpa using hcs⟩
  · exact ⟨some a, len, cap, by simpa using hcs⟩
theorem wf_in {a : Int} (h : (Lit.int .i64 a).wf = true) : In64 a := by
  simp only [Lit.wf, IntKind.min, IntKind.max, IntKind.signed, IntKind.bits, Bool.and_eq_true, decide_eq_true_eq, if_true] at h
  unfold In64
  omega
end
section
variable {H : Type} {enc : TypeId × Value → H} {w : World} {base : Nat} {spare : Nat → Bool} {held : Bool} {r : Reach} {b0 : Nat}
theorem open_basin {v : Value} {d : DataW H} {p : List MemPlace} (hv : Value.okWide Try.prog w r b0 31 v) (h : DataW.Trod enc Try.prog w base spare held 31 v d p) :
    ∃ (X : Bas) (pl : Pl), v = .agg #[.string X.nm, .slice X.a1 X.l1 X.c1, .int .i64 X.cl, .slice X.P pl.length X.cP, .slice X.a4 X.l4 X.c4, .slice X.a5 X.l5 X.c5, .slice X.a6 X.l6 X.c6, .slice X.a7 X.l7 X.c7, .slice X.a8 X.l8 X.c8, .slice X.a9 X.l9 X.c9, .int .i64 X.er] ∧ pl.length ≤ 9223372036854775807 ∧ PlacesAt w w.heap.size X.P pl := by
  obtain ⟨fs, he, hone, hsz, hty⟩ := fieldsBas
  obtain ⟨cs, rfl, hcs, hc⟩ := agg_fields he hone (cellsBas.trans hsz.symm) hv h
  have hf : ∀ j, j < 11 → ∃ f, fs[j]? = some f ∧ some f.type = (#[9, 22, 3, 23, 24, 25, 26, 27, 28, 29, 3] : Array Nat)[j]? := fun j hj => by
    refine ⟨fs[j]'(by omega), Array.getElem?_eq_getElem _, ?_⟩
    rw [← hty]; simp [hsz, hj]
  obtain ⟨f0, g0, t0⟩ := hf 0 (by omega)
  obtain ⟨u0, n0, y0, c0, r0⟩ := hc 0 f0 g0
  rw [show f0.type = 9 by simpa using t0] at r0
  obtain ⟨z0, e0, _⟩ := DataW.trod_string Try.underlying9 r0
  simp at e0
  obtain ⟨f1, g1, t1⟩ := hf 1 (by omega)
  obtain ⟨u1, n1, y1, c1, r1⟩ := hc 1 f1 g1
  rw [show f1.type = 22 by simpa using t1] at r1
  obtain ⟨A1, l1, k1, e1⟩ := slice_shape Try.underlying22 r1
  obtain ⟨f2, g2, t2⟩ := hf 2 (by omega)
  obtain ⟨u2, n2, y2, c2, r2⟩ := hc 2 f2 g2
  rw [show f2.type = 3 by simpa using t2] at r2
  obtain ⟨z2, e2, _⟩ := DataW.trod_int Try.underlying3 r2
  simp at e2
  obtain ⟨f3, g3, t3⟩ := hf 3 (by omega)
  obtain ⟨u3, n3, y3, c3, r3⟩ := hc 3 f3 g3
  rw [show f3.type = 23 by simpa using t3] at r3
  obtain ⟨f4, g4, t4⟩ := hf 4 (by omega)
  obtain ⟨u4, n4, y4, c4, r4⟩ := hc 4 f4 g4
  rw [show f4.type = 24 by simpa using t4] at r4
  obtain ⟨A4, l4, k4, e4⟩ := slice_shape Try.underlying24 r4
  obtain ⟨f5, g5, t5⟩ := hf 5 (by omega)
  obtain ⟨u5, n5, y5, c5, r5⟩ := hc 5 f5 g5
  rw [show f5.type = 25 by simpa using t5] at r5
  obtain ⟨A5, l5, k5, e5⟩ := slice_shape Try.underlying25 r5
  obtain ⟨f6, g6, t6⟩ := hf 6 (by omega)
  obtain ⟨u6, n6, y6, c6, r6⟩ := hc 6 f6 g6
  rw [show f6.type = 26 by simpa using t6] at r6
  obtain ⟨A6, l6, k6, e6⟩ := slice_shape Try.underlying26 r6
  obtain ⟨f7, g7, t7⟩ := hf 7 (by omega)
  obtain ⟨u7, n7, y7, c7, r7⟩ := hc 7 f7 g7
  rw [show f7.type = 27 by simpa using t7] at r7
  obtain ⟨A7, l7, k7, e7⟩ := slice_shape Try.underlying27 r7
  obtain ⟨f8, g8, t8⟩ := hf 8 (by omega)
  obtain ⟨u8, n8, y8, c8, r8⟩ := hc 8 f8 g8
  rw [show f8.type = 28 by simpa using t8] at r8
  obtain ⟨A8, l8, k8, e8⟩ := slice_shape Try.underlying28 r8
  obtain ⟨f9, g9, t9⟩ := hf 9 (by omega)
  obtain ⟨u9, n9, y9, c9, r9⟩ := hc 9 f9 g9
  rw [show f9.type = 29 by simpa using t9] at r9
  obtain ⟨A9, l9, k9, e9⟩ := slice_shape Try.underlying29 r9
  obtain ⟨f10, g10, t10⟩ := hf 10 (by omega)
  obtain ⟨u10, n10, y10, c10, r10⟩ := hc 10 f10 g10
  rw [show f10.type = 3 by simpa using t10] at r10
  obtain ⟨z10, e10, _⟩ := DataW.trod_int Try.underlying3 r10
  simp at e10
  obtain ⟨fp, hep, honep, hszp, hp8, hp9⟩ := fieldsPlace
  obtain ⟨A3, l3, k3, e3, hl3, b, off, hC, hcp⟩ := open_fields Try.underlying23 hep honep (cellsPlace.trans hszp.symm) (by omega) r3
  simp at e3
  have key : ∀ i, ∃ x : Int × Int, i < l3 → w.cell? ⟨b, off + (i * 12 + 8), none⟩ = some (.int .i64 x.1) ∧ w.cell? ⟨b, off + (i * 12 + 9), none⟩ = some (.int .i64 x.2) := by
    intro i
    by_cases hi : i < l3
    · obtain ⟨q8, hq8⟩ : ∃ f, fp[8]? = some f := ⟨_, Array.getElem?_eq_getElem (by omega)⟩
      obtain ⟨q9, hq9⟩ : ∃ f, fp[9]? = some f := ⟨_, Array.getElem?_eq_getElem (by omega)⟩
      rw [hq8] at hp8
      rw [hq9] at hp9
      obtain ⟨v8, m8, y8', d8, s8⟩ := hcp i hi 8 q8 hq8
      obtain ⟨v9, m9, y9', d9, s9⟩ := hcp i hi 9 q9 hq9
      rw [show q8.type = 3 by simpa using hp8] at s8
      rw [show q9.type = 3 by simpa using hp9] at s9
      obtain ⟨z8, e8', _⟩ := DataW.trod_int Try.underlying3 s8
      obtain ⟨z9', e9', _⟩ := DataW.trod_int Try.underlying3 s9
      simp at e8' e9'
      subst e8' e9'
      rw [hszp] at d8 d9
      exact ⟨(z8, z9'), fun _ => ⟨d8, d9⟩⟩
    · exact ⟨(0, 0), fun h => absurd h hi⟩
  obtain ⟨F, hF⟩ := Classical.skolem.1 key
  have hpl : ((List.range l3).map F).length = l3 := by simp
  refine ⟨⟨z0, A1, l1, k1, z2, A3, k3, A4, l4, k4, A5, l5, k5, A6, l6, k6, A7, l7, k7, A8, l8, k8, A9, l9, k9, z10⟩, (List.range l3).map F, ?_, by rw [hpl]; exact hl3, ?_⟩
  · congr 1
    subst e0 e1 e2 e3 e4 e5 e6 e7 e8 e9 e10
    have hs11 : cs.size = 11 := by rw [hcs, hsz]
    obtain ⟨l⟩ := cs
    rw [hpl]
    match l, hs11 with
    | [a0, a1, a2, a3, a4, a5, a6, a7, a8, a9, a10], _ =>
      simp at c0 c1 c2 c3 c4 c5 c6 c7 c8 c9 c10
      subst c0 c1 c2 c3 c4 c5 c6 c7 c8 c9 c10
      rfl
  · intro hpos
    rw [hpl] at hpos ⊢
    obtain ⟨e, hb⟩ := hC hpos
    refine ⟨b, off, e, hb, fun k hk => ?_⟩
    obtain ⟨d8, d9⟩ := hF k hk
    have kk : ((List.range l3).map F).getD k (0, 0) = F k := by simp [List.getD_eq_getElem?_getD, hk]
    unfold downP delayP
    rw [kk]
    rw [Nat.add_assoc, Nat.add_assoc]
    exact ⟨d8, d9⟩
theorem open_rights {v : Value} {d : DataW H} {p : List MemPlace} (hv : Value.okWide Try.prog w r b0 32 v) (h : DataW.Trod enc Try.prog w base spare held 32 v d p) :
    ∃ (C : Option Addr) (cc : Nat) (A : List Rt), v = .slice C A.length cc ∧ A.length ≤ 9223372036854775807 ∧ RightsAt w w.heap.size C A := by
  obtain ⟨fs, he, hone, hsz, hall⟩ := fieldsRight
  obtain ⟨C, len, cc, F, rfl, hl, hc⟩ := open_int_structs Try.underlying32 he hone (cellsRight.trans hsz.symm) (fun j f hj => by
    have := Array.all_eq_true_iff_forall_mem.1 hall f (Array.mem_of_getElem? hj)
    rw [beq_iff_eq] at this
    rw [this]; exact Try.underlying3) hv h
  let G := fun i => (⟨F (9 * i), F (9 * i + 1), F (9 * i + 2), F (9 * i + 3), F (9 * i + 4), F (9 * i + 5), F (9 * i + 6), F (9 * i + 7), F (9 * i + 8)⟩ : Rt)
  have hA : ((List.range len).map G).length = len := by simp
  refine ⟨C, cc, (List.range len).map G, by rw [hA], by rw [hA]; exact hl, ?_⟩
  intro hpos
  rw [hA] at hpos
  obtain ⟨b, off, e, hb, hcell⟩ := hc (by rw [hsz]; omega)
  refine ⟨b, off, e, hb, fun k r0 hk j u hj => ?_⟩
  have hkl : k < len := by have := (List.getElem?_eq_some_iff.1 hk).1; omega
  have hr0 : G k = r0 := by simpa [hkl] using hk
  have hj9 : j < 9 := (List.getElem?_eq_some_iff.1 hj).1
  have key := hcell (k * 9 + j) (by rw [hsz]; omega)
  rw [key]
  subst hr0
  rw [show k * 9 + j = 9 * k + j by omega]
  have hlt : ∀ m, m < 9 → (G k).cells[m]? = some (.int .i64 (F (9 * k + m))) := fun m hm => by
    match m, hm with
    | 0, _ => rfl
    | 1, _ => rfl
    | 2, _ => rfl
    | 3, _ => rfl
    | 4, _ => rfl
    | 5, _ => rfl
    | 6, _ => rfl
    | 7, _ => rfl
    | 8, _ => rfl
  rw [hlt j hj9] at hj
  exact hj
theorem open_grants {v : Value} {d : DataW H} {p : List MemPlace} (hv : Value.okWide Try.prog w r b0 37 v) (h : DataW.Trod enc Try.prog w base spare held 37 v d p) :
    ∃ (C : Option Addr) (cc : Nat) (A : List (Int × Int)), v = .slice C A.length cc ∧ A.length ≤ 9223372036854775807 ∧ PairsAt w w.heap.size C A ∧ (A.length = 0 ∨ ∃ es sp, d = .slice es sp ∧ es.length = A.length) := by
  obtain ⟨fs, he, hone, hsz, hall⟩ := fieldsGrant
  have h0 := h
  obtain ⟨C, len, cc, F, rfl, hl, hc⟩ := open_int_structs Try.underlying37 he hone (cellsGrant.trans hsz.symm) (fun j f hj => by
    have := Array.all_eq_true_iff_forall_mem.1 hall f (Array.mem_of_getElem? hj)
    rw [beq_iff_eq] at this
    rw [this]; exact Try.underlying3) hv h
  have hA : ((List.range len).map fun i => (F (2 * i), F (2 * i + 1))).length = len := by simp
  refine ⟨C, cc, (List.range len).map fun i => (F (2 * i), F (2 * i + 1)), by rw [hA], by rw [hA]; exact hl, ?_, ?_⟩
  · unfold PairsAt
    rw [hA]
    intro hpos
    obtain ⟨b, off, e, hb, hcell⟩ := hc (by rw [hsz]; omega)
    refine ⟨b, off, e, hb, fun j hj => ?_⟩
    rw [hcell j (by rw [hsz]; omega)]
    have hq : j / 2 < len := by omega
    have key : ((List.range len).map fun i => (F (2 * i), F (2 * i + 1))).getD (j / 2) (0, 0) = (F (2 * (j / 2)), F (2 * (j / 2) + 1)) := by
      simp [List.getD_eq_getElem?_getD, hq]
    unfold pairF
    rw [key]
    have hm : j % 2 = 0 ∨ j % 2 = 1 := by omega
    rcases hm with g | g <;> rw [g]
    · rw [show 2 * (j / 2) = j by omega]
      rfl
    · rw [show 2 * (j / 2) + 1 = j by omega]
      rfl
  · rw [hA]
    obtain ⟨fuel, hf⟩ := h0
    rcases open_slice Try.underlying37 hf with ⟨hcs, _⟩ | ⟨a, len', cap, m, n, D, Pl, hcs, _, _, _, _, hx, _⟩
    · simp [Value.cells] at hcs
      exact .inl hcs.2.1
    · simp [Value.cells] at hcs
      simp only [Prod.mk.injEq] at hx
      refine .inr ⟨_, _, hx.1, ?_⟩
      simp [hcs.2.1]
theorem open_ints64 {v : Value} {d : DataW H} {p : List MemPlace} (hv : Value.okWide Try.prog w r b0 29 v) (h : DataW.Trod enc Try.prog w base spare held 29 v d p) :
    ∃ (C : Option Addr) (cc : Nat) (zs : List Int), v = .slice C zs.length cc ∧ zs.length ≤ 9223372036854775807 ∧ IntsAt w w.heap.size C zs ∧ ∀ x ∈ zs, In64 x := by
  obtain ⟨a0, len, cap, rfl⟩ := okWide_slice Try.underlying29 hv
  obtain ⟨fuel, hf⟩ := h
  rcases open_slice Try.underlying29 hf with ⟨hcs, _⟩ | ⟨a, len', cap', m, n, D, Pl, hcs, hb, hl, hm, hmm, _, hel⟩
  · simp [Value.cells] at hcs
    obtain ⟨rfl, rfl, rfl⟩ := hcs
    exact ⟨none, 0, [], rfl, by simp, fun h => absurd h (by simp), fun x hx => nomatch hx⟩
  · simp [Value.cells] at hcs
    obtain ⟨rfl, rfl, rfl⟩ := hcs
    have hml : len ≤ m := by rw [hmm]; split <;> omega
    unfold maxLen at hm
    have key : ∀ i, ∃ z : Int, i < len → w.cell? (a.add i) = some (.int .i64 z) ∧ In64 z := by
      intro i
      by_cases hi : i < len
      · obtain ⟨cs', hc, ht'⟩ := hel i (by omega)
        rw [cellsI, Nat.mul_one] at hc
        obtain ⟨_, hcl, hat⟩ := World.cells?_some hc
        obtain ⟨z, rfl, _, hw⟩ := DataW.trod_int Try.underlying3 ht'
        have := hat 0 (by omega)
        rw [Addr.add_zero'] at this
        exact ⟨z, fun _ => ⟨by rw [this]; rfl, wf_in hw⟩⟩
      · exact ⟨0, fun h => absurd h hi⟩
    obtain ⟨F, hF⟩ := Classical.skolem.1 key
    have hA : ((List.range len).map F).length = len := by simp
    refine ⟨some a, cap, (List.range len).map F, by rw [hA], by rw [hA]; omega, ?_, fun x hx => ?_⟩
    · unfold IntsAt
      rw [hA]
      intro hpos
      obtain ⟨b, o, ha, hbl⟩ := addr_at (by have := (hF 0 hpos).1; rwa [Addr.add_zero'] at this)
      refine ⟨b, o, by rw [ha], hbl, fun j hj => ?_⟩
      have := (hF j hj).1
      rw [ha, Addr.add_lit] at this
      rw [this]
      simp [intF, List.getD_eq_getElem?_getD, hj]
    · obtain ⟨i, hi, rfl⟩ := List.mem_map.1 hx
      exact (hF i (List.mem_range.1 hi)).2
/-- Types below a number are closed: slices are of elements with cells. -/
def typesB (P : Program) (N : Nat) : Bool := (List.range N).all fun t => match P.underlying t with | some (.slice e) => decide (0 < P.cellsOf e) && decide (e < N) | some (.struct fs) => fs.all fun f => decide (f.type < N) | _ => true
theorem types_slice {P : Program} {N : Nat} (h : typesB P N = true) {t e : TypeId} (ht : t < N) (hu : P.underlying t = some (.slice e)) : 0 < P.cellsOf e ∧ e < N := by
  have q := List.all_eq_true.1 h t (List.mem_range.2 ht)
  rw [hu] at q
  simpa using q
theorem types_struct {P : Program} {N : Nat} (h : typesB P N = true) {t : TypeId} {fs : Array Field} (ht : t < N) (hu : P.underlying t = some (.struct fs)) {j : Nat} {f : Field} (hj : fs[j]? = some f) : f.type < N := by
  have q := List.all_eq_true.1 h t (List.mem_range.2 ht)
  rw [hu] at q
  have := Array.all_eq_true_iff_forall_mem.1 q f (Array.mem_of_getElem? hj)
  simpa using this
theorem okv_of {P : Program} {N : Nat} (hc : typesB P N = true) : ∀ (n : Nat) (t : TypeId) (cs : List Value) (x : DataW H × List MemPlace), t < N → DataW.trod enc P w base spare held n t cs = some x → Okv P w w.heap.size n t cs
  | 0, t, cs, x, _, h => by simp [DataW.trod] at h
  | n + 1, t, cs, x, ht, h => by
    unfold Okv
    split
    · rename_i e
      obtain ⟨z, rfl, _, hz⟩ := DataW.trod_int e h
      exact ⟨z, wf_in' hz, rfl⟩
    · rename_i e
      obtain ⟨s, rfl, _, hs⟩ := DataW.trod_string e h
      exact ⟨s, by unfold maxLen at hs; exact hs, rfl⟩
    · rename_i e' e
      obtain ⟨hpos, heN⟩ := types_slice hc ht e
      rcases DataW.trod_slice e h with ⟨rfl, _⟩ | ⟨a, len, cap, elems, rest, m, hm, rfl, _, _, hl, hcap, hlen, hel, _, _⟩
      · exact ⟨none, 0, 0, rfl, by omega, fun h => absurd h (by simp)⟩
      · obtain rfl : n = m := by omega
        unfold maxLen at hcap
        have key : ∀ i, i < len → ∃ F : List Value, F.length = P.cellsOf e' ∧ (∀ j u, F[j]? = some u → w.cell? (a.add (i * P.cellsOf e' + j)) = some u) ∧ Okv P w w.heap.size n e' F := fun i hi => by
          have hei : elems[i]? = some (elems[i]'(by omega)) := List.getElem?_eq_getElem (by omega)
          have hb1 := hel i hi
          rw [hei, Option.bind_eq_some_iff] at hb1
          obtain ⟨F, hF, hf⟩ := hb1
          obtain ⟨_, hcl, hat⟩ := World.cells?_some hF
          refine ⟨F, hcl, fun j u hu => ?_, okv_of hc n _ _ _ heN hf⟩
          have hj : j < F.length := (List.getElem?_eq_some_iff.1 hu).1
          have := hat j (by omega)
          rw [Go.Deep.add_add] at this
          rw [this]; exact hu
        refine ⟨some a, len, cap, rfl, by omega, fun hp => ⟨a, rfl, ?_, key⟩⟩
        obtain ⟨F, f1, f2, _⟩ := key 0 hp
        have := World.block_lt_of_cell? w _ (f2 0 _ (List.getElem?_eq_getElem (by omega)))
        rwa [block_of_add] at this
    · rename_i fs e
      obtain ⟨xs, m, hm, _, hl, hlen, hf⟩ := DataW.trod_struct e h
      obtain rfl : n = m := by omega
      refine ⟨hl, fun j f hj => ?_⟩
      have h1 := hf j f hj
      have hjl : j < fs.size := (Array.getElem?_eq_some_iff.1 hj).1
      rw [List.getElem?_eq_getElem (by omega)] at h1
      exact okv_of hc n _ _ _ (types_struct hc ht e hj) h1
    · trivial
theorem typesOk : typesB Try.prog Try.prog.types.size = true := by kernel_rfl
theorem fieldsBas40 : ∃ fs, Try.prog.underlying 31 = some (.struct fs) ∧ fs.map (fun f => (f.type, f.offset, Try.prog.cellsOf f.type)) = #[(9, 0, 1), (22, 1, 1), (3, 2, 1), (23, 3, 1), (24, 4, 1), (25, 5, 1), (26, 6, 1), (27, 7, 1), (28, 8, 1), (29, 9, 1), (3, 10, 1)] := ⟨_, Try.underlying31, by kernel_rfl⟩
theorem field_at {fs : Array Field} {P : Program} {l : Array (Nat × Nat × Nat)} (h : fs.map (fun f => (f.type, f.offset, P.cellsOf f.type)) = l) {j : Nat} {x : Nat × Nat × Nat} (hj : l[j]? = some x) : ∃ f, fs[j]? = some f ∧ f.type = x.1 ∧ f.offset = x.2.1 ∧ P.cellsOf f.type = x.2.2 := by
  rw [← h, Array.getElem?_map] at hj
  cases e : fs[j]? with
  | none => rw [e] at hj; cases hj
  | some f =>
    rw [e] at hj
    injection hj with hj
    subst hj
    exact ⟨f, rfl, rfl, rfl, rfl⟩
theorem open_basin40 {v : Value} {d : DataW H} {p : List MemPlace} (hv : Value.okWide Try.prog w r b0 31 v) (h : DataW.Trod enc Try.prog w base spare held 31 v d p) :
    ∃ (X : Bas) (pl : Pl), v = .agg #[.string X.nm, .slice X.a1 X.l1 X.c1, .int .i64 X.cl, .slice X.P pl.length X.cP, .slice X.a4 X.l4 X.c4, .slice X.a5 X.l5 X.c5, .slice X.a6 X.l6 X.c6, .slice X.a7 X.l7 X.c7, .slice X.a8 X.l8 X.c8, .slice X.a9 X.l9 X.c9, .int .i64 X.er] ∧ pl.length ≤ 9223372036854775807 ∧ PlacesAt w w.heap.size X.P pl ∧ X.nm.size ≤ 9223372036854775807 ∧ RT.BasOk w w.heap.size X pl := by
  obtain ⟨X, pl, rfl, hl, hP⟩ := open_basin hv h
  obtain ⟨fuel, hf⟩ := h
  have hO := okv_of typesOk _ _ _ _ (of_decide_eq_true (by kernel_rfl)) hf
  obtain ⟨fs, hu, hm⟩ := fieldsBas40
  obtain ⟨_, m, hF⟩ := Okv.fields hu hO
  have get : ∀ (j : Nat) (x : Nat × Nat × Nat), (#[(9, 0, 1), (22, 1, 1), (3, 2, 1), (23, 3, 1), (24, 4, 1), (25, 5, 1), (26, 6, 1), (27, 7, 1), (28, 8, 1), (29, 9, 1), (3, 10, 1)] : Array (Nat × Nat × Nat))[j]? = some x → Okv Try.prog w w.heap.size m x.1 (((.agg #[.string X.nm, .slice X.a1 X.l1 X.c1, .int .i64 X.cl, .slice X.P pl.length X.cP, .slice X.a4 X.l4 X.c4, .slice X.a5 X.l5 X.c5, .slice X.a6 X.l6 X.c6, .slice X.a7 X.l7 X.c7, .slice X.a8 X.l8 X.c8, .slice X.a9 X.l9 X.c9, .int .i64 X.er] : Value).cells.toList.drop x.2.1).take x.2.2) := fun j x hj => by
    obtain ⟨f, h1, h2, h3, h4⟩ := field_at hm hj
    have q := hF j f h1
    rw [h2, h3] at q
    rw [h2] at h4
    rw [h4] at q
    exact q
  obtain ⟨s, hs, es⟩ := Okv.str Try.underlying9 (get 0 _ rfl)
  have es : [Value.string X.nm] = [Value.string s] := es
  injection es with es _
  injection es with es
  obtain ⟨C1, n1, k1, e1, s1⟩ := RT.BV.Sl.of (e := 9) (s := 1) Try.underlying22 (by kernel_rfl) (by omega) (get 1 _ rfl)
  have e1 : [Value.slice X.a1 X.l1 X.c1] = [Value.slice C1 n1 k1] := e1
  injection e1 with e1 _
  injection e1 with ea1 eb1 ec1
  obtain ⟨C3, n3, k3, e3, s3⟩ := RT.BV.Sl.of (e := 91) (s := 12) Try.underlying23 (by kernel_rfl) (by omega) (get 3 _ rfl)
  have e3 : [Value.slice X.P pl.length X.cP] = [Value.slice C3 n3 k3] := e3
  injection e3 with e3 _
  injection e3 with ea3 eb3 ec3
  obtain ⟨C4, n4, k4, e4, s4⟩ := RT.BV.Sl.of (e := 108) (s := 18) Try.underlying24 (by kernel_rfl) (by omega) (get 4 _ rfl)
  have e4 : [Value.slice X.a4 X.l4 X.c4] = [Value.slice C4 n4 k4] := e4
  injection e4 with e4 _
  injection e4 with ea4 eb4 ec4
  obtain ⟨C5, n5, k5, e5, s5⟩ := RT.BV.Sl.of (e := 110) (s := 7) Try.underlying25 (by kernel_rfl) (by omega) (get 5 _ rfl)
  have e5 : [Value.slice X.a5 X.l5 X.c5] = [Value.slice C5 n5 k5] := e5
  injection e5 with e5 _
  injection e5 with ea5 eb5 ec5
  obtain ⟨C6, n6, k6, e6, s6⟩ := RT.BV.Sl.of (e := 114) (s := 5) Try.underlying26 (by kernel_rfl) (by omega) (get 6 _ rfl)
  have e6 : [Value.slice X.a6 X.l6 X.c6] = [Value.slice C6 n6 k6] := e6
  injection e6 with e6 _
  injection e6 with ea6 eb6 ec6
  obtain ⟨C7, n7, k7, e7, s7⟩ := RT.BV.Sl.of (e := 116) (s := 7) Try.underlying27 (by kernel_rfl) (by omega) (get 7 _ rfl)
  have e7 : [Value.slice X.a7 X.l7 X.c7] = [Value.slice C7 n7 k7] := e7
  injection e7 with e7 _
  injection e7 with ea7 eb7 ec7
  obtain ⟨C8, n8, k8, e8, s8⟩ := RT.BV.Sl.of (e := 112) (s := 2) Try.underlying28 (by kernel_rfl) (by omega) (get 8 _ rfl)
  have e8 : [Value.slice X.a8 X.l8 X.c8] = [Value.slice C8 n8 k8] := e8
  injection e8 with e8 _
  injection e8 with ea8 eb8 ec8
  obtain ⟨C9, n9, k9, e9, s9⟩ := RT.BV.Sl.of (e := 3) (s := 1) Try.underlying29 (by kernel_rfl) (by omega) (get 9 _ rfl)
  have e9 : [Value.slice X.a9 X.l9 X.c9] = [Value.slice C9 n9 k9] := e9
  injection e9 with e9 _
  injection e9 with ea9 eb9 ec9
  refine ⟨X, pl, rfl, hl, hP, by rw [es]; exact hs, ⟨by rw [ea1, eb1]; exact s1, by rw [ea3, eb3]; exact s3, by rw [ea4, eb4]; exact s4, by rw [ea5, eb5]; exact s5, by rw [ea6, eb6]; exact s6, by rw [ea7, eb7]; exact s7, by rw [ea8, eb8]; exact s8, by rw [ea9, eb9]; exact s9⟩⟩
end
end Go.Proofs.Ythoigjkelinjhaa

