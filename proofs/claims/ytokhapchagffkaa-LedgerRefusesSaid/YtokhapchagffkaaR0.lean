/- What the rows share: closed facts of the program; the opened arguments. -/
import Derived.Test.YtokhapchagffkaaKit
import Derived.Test.YtokhapchagffkaaOpen2
import Derived.Test.YtokhapchagffkaaW14
import Derived.Lib.SmallJoins
import Derived.SizedLaws
set_option linter.unusedSimpArgs false
set_option linter.unusedVariables false
namespace Go.Proofs.Ytokhapchagffkaa
open Go.ChangeShapes Go.WideShapes Go.ChangeAt Go.RowKit Go.Deep LG

theorem own : ownKnob Try.prog.godebug = none := by kernel_rfl
theorem laidOut : laidOutB Try.prog = true := by kernel_rfl
theorem cellsEntry : Try.prog.cellsOf 36 = 7 := by kernel_rfl
theorem cellsEnts : Try.prog.cellsOf 22 = 1 := by kernel_rfl
theorem fieldsEntry : ∃ fs, Try.prog.underlying 36 = some (.struct fs) ∧ oneCellFields Try.prog fs = true ∧ fs.size = 7 ∧ (fs.all fun f => f.type == 3) = true := ⟨_, Try.underlying36, by kernel_rfl, by kernel_rfl, by kernel_rfl⟩
theorem wf_in {a : Int} (h : (Lit.int .i64 a).wf = true) : In64 a := by
  simp only [Lit.wf, IntKind.min, IntKind.max, IntKind.signed, IntKind.bits, Bool.and_eq_true, decide_eq_true_eq, if_true] at h
  unfold In64
  omega
section
variable {H : Type} {enc : TypeId × Value → H} {w : World} {base : Nat} {spare : Nat → Bool} {held : Bool} {r : Reach} {b0 : Nat}
theorem open_entsF {fuel : Nat} {cs : List Value} {x : DataW H × List MemPlace} (h : DataW.trod enc Try.prog w base spare held fuel 22 cs = some x) :
    ∃ (C : Option Addr) (cc : Nat) (A : List Et), cs = [.slice C A.length cc] ∧ A.length ≤ 9223372036854775807 ∧ EntsAt w w.heap.size C A ∧ LitsIn A := by
  obtain ⟨fs, he, hone, hsz, hall⟩ := fieldsEntry
  obtain ⟨C, len, cc, rfl, hl, b, off, hC, hc⟩ := open_fields Try.underlying22 he hone (cellsEntry.trans hsz.symm) (by omega) h
  have key : ∀ m : Nat, ∃ z : Int, m < len * 7 → w.cell? ⟨b, off + m, none⟩ = some (.int .i64 z) ∧ In64 z := by
    intro m
    by_cases hm : m < len * 7
    · obtain ⟨f, hf⟩ : ∃ f, fs[m % 7]? = some f := ⟨_, Array.getElem?_eq_getElem (by omega)⟩
      obtain ⟨u, n, y, hu, hy⟩ := hc (m / 7) (by omega) (m % 7) f hf
      have ht := Array.all_eq_true_iff_forall_mem.1 hall f (Array.mem_of_getElem? hf)
      rw [beq_iff_eq] at ht
      rw [ht] at hy
      obtain ⟨z, e, _, hw⟩ := DataW.trod_int Try.underlying3 hy
      simp at e
      subst e
      rw [hsz, show m / 7 * 7 + m % 7 = m by omega] at hu
      exact ⟨z, fun _ => ⟨hu, wf_in hw⟩⟩
    · exact ⟨0, fun h => absurd h hm⟩
  obtain ⟨F, hF⟩ := Classical.skolem.1 key
  let G := fun i => (⟨F (7 * i), F (7 * i + 1), F (7 * i + 2), F (7 * i + 3), F (7 * i + 4), F (7 * i + 5), F (7 * i + 6)⟩ : Et)
  have hA : ((List.range len).map G).length = len := by simp
  refine ⟨C, cc, (List.range len).map G, by rw [hA], by rw [hA]; exact hl, ?_, fun e he => ?_⟩
  · intro hpos
    rw [hA] at hpos
    obtain ⟨e, hb⟩ := hC hpos
    refine ⟨b, off, e, hb, fun k r0 hk j u hj => ?_⟩
    have hkl : k < len := by have := (List.getElem?_eq_some_iff.1 hk).1; omega
    have hr0 : G k = r0 := by simpa [hkl] using hk
    have hj7 : j < 7 := (List.getElem?_eq_some_iff.1 hj).1
    rw [(hF (k * 7 + j) (by omega)).1]
    subst hr0
    rw [show k * 7 + j = 7 * k + j by omega]
    have hlt : ∀ m, m < 7 → (G k).cells[m]? = some (.int .i64 (F (7 * k + m))) := fun m hm => by
      match m, hm with
      | 0, _ => rfl
      | 1, _ => rfl
      | 2, _ => rfl
      | 3, _ => rfl
      | 4, _ => rfl
      | 5, _ => rfl
      | 6, _ => rfl
    rw [hlt j hj7] at hj
    exact hj
  · obtain ⟨k, hk, rfl⟩ := List.mem_map.1 he
    rw [List.mem_range] at hk
    exact (hF (7 * k + 4) (by omega)).2
theorem open_ents {v : Value} {d : DataW H} {p : List MemPlace} (hv : Value.okWide Try.prog w r b0 22 v) (h : DataW.Trod enc Try.prog w base spare held 22 v d p) :
    ∃ (C : Option Addr) (cc : Nat) (A : List Et), v = .slice C A.length cc ∧ A.length ≤ 9223372036854775807 ∧ EntsAt w w.heap.size C A ∧ LitsIn A := by
  obtain ⟨a0, len, cap, rfl⟩ := okWide_slice Try.underlying22 hv
  obtain ⟨fuel, hf⟩ := h
  obtain ⟨C, cc, A, hcs, h1, h2, h3⟩ := open_entsF hf
  simp [Value.cells] at hcs
  obtain ⟨rfl, rfl, rfl⟩ := hcs
  exact ⟨_, _, A, rfl, h1, h2, h3⟩
theorem open_posts {v : Value} {d : DataW H} {p : List MemPlace} (hv : Value.okWide Try.prog w r b0 32 v) (h : DataW.Trod enc Try.prog w base spare held 32 v d p) :
    ∃ (C : Option Addr) (cc : Nat) (ps : List (List Et)), v = .slice C ps.length cc ∧ ps.length ≤ 9223372036854775807 ∧ PostsAt w w.heap.size C ps ∧ (∀ p ∈ ps, p.length ≤ 9223372036854775807) ∧ PsIn ps := by
  obtain ⟨a0, len, cap, rfl⟩ := okWide_slice Try.underlying32 hv
  obtain ⟨fuel, hf⟩ := h
  rcases open_slice Try.underlying32 hf with ⟨hcs, _⟩ | ⟨a, len', cap', m, n, D, Pl, hcs, hb, hl, hm, hmm, _, hel⟩
  · simp [Value.cells] at hcs
    obtain ⟨rfl, rfl, rfl⟩ := hcs
    exact ⟨none, 0, [], rfl, by simp, (fun h => absurd h (by simp)), (fun x hx => nomatch hx), (fun x hx => nomatch hx)⟩
  · simp [Value.cells] at hcs
    obtain ⟨rfl, rfl, rfl⟩ := hcs
    have hml : len ≤ m := by rw [hmm]; split <;> omega
    unfold maxLen at hm
    have key : ∀ i, ∃ p : List Et, i < len → p.length ≤ 9223372036854775807 ∧ LitsIn p ∧ ∃ C cc, w.cell? (a.add i) = some (.slice C p.length cc) ∧ EntsAt w w.heap.size C p := by
      intro i
      by_cases hi : i < len
      · obtain ⟨cs', hc, ht'⟩ := hel i (by omega)
        rw [cellsEnts, Nat.mul_one] at hc
        obtain ⟨_, hcl, hat⟩ := World.cells?_some hc
        obtain ⟨C, cc, A, rfl, h1, h2, h3⟩ := open_entsF ht'
        have := hat 0 (by omega)
        rw [Addr.add_zero'] at this
        exact ⟨A, fun _ => ⟨h1, h3, C, cc, by rw [this]; rfl, h2⟩⟩
      · exact ⟨[], fun h => absurd h hi⟩
    obtain ⟨F, hF⟩ := Classical.skolem.1 key
    have hA : ((List.range len).map F).length = len := by simp
    refine ⟨some a, cap, (List.range len).map F, by rw [hA], by rw [hA]; omega, ?_, fun p hp => ?_, fun p hp => ?_⟩
    · intro hpos
      rw [hA] at hpos
      obtain ⟨_, _, C, cc, hu, _⟩ := hF 0 hpos
      obtain ⟨b, o, e1, hbs⟩ := addr_at hu
      have e2 : a = ⟨b, o, none⟩ := by simpa [Addr.add_zero'] using e1
      subst e2
      refine ⟨b, o, rfl, hbs, fun k p hk => ?_⟩
      have hkl : k < len := by have := (List.getElem?_eq_some_iff.1 hk).1; omega
      have hr0 : F k = p := by simpa [hkl] using hk
      subst hr0
      obtain ⟨_, _, C, cc, hu, hE⟩ := hF k hkl
      rw [Addr.add_lit] at hu
      exact ⟨C, cc, hu, hE⟩
    · obtain ⟨k, hk, rfl⟩ := List.mem_map.1 hp
      rw [List.mem_range] at hk
      exact (hF k hk).1
    · obtain ⟨k, hk, rfl⟩ := List.mem_map.1 hp
      rw [List.mem_range] at hk
      exact (hF k hk).2.1
end
end Go.Proofs.Ytokhapchagffkaa
