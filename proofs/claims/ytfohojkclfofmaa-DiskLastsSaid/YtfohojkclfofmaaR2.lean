/- A list of acts as an argument. -/
import Derived.Test.YtfohojkclfofmaaR0
import Derived.Test.YtfohojkclfofmaaOpen3
import Derived.Test.YtfohojkclfofmaaL4
set_option linter.unusedSimpArgs false
set_option linter.unusedVariables false
namespace Go.Proofs.Ytfohojkclfofmaa
open Go.ChangeShapes Go.WideShapes Go.ChangeAt Go.RowKit Go.Deep DK
theorem bytesInt : Try.prog.bytesOf 3 = 8 := by kernel_rfl
theorem cellsAct : Try.prog.cellsOf 40 = 6 := by kernel_rfl
theorem fieldsAct : ∃ fs, Try.prog.underlying 40 = some (.struct fs) ∧ oneCellFields Try.prog fs = true ∧ fs.size = 6 ∧ fs.map (·.type) = #[3, 3, 3, 3, 9, 22] := ⟨_, Try.underlying40, by kernel_rfl, by kernel_rfl, by kernel_rfl⟩
theorem wf_le {a : Int} (h : (Lit.int .i64 a).wf = true) : a ≤ 9223372036854775807 := by
  simp only [Lit.wf, IntKind.min, IntKind.max, IntKind.signed, IntKind.bits, Bool.and_eq_true, decide_eq_true_eq, if_true] at h
  omega
section
variable {H : Type} {enc : TypeId × Value → H} {w : World} {base : Nat} {spare : Nat → Bool} {held : Bool} {r : Reach} {b0 : Nat}
theorem open_acts {v : Value} {d : DataW H} {p : List MemPlace} (hv : Value.okWide Try.prog w r b0 36 v) (h : DataW.Trod enc Try.prog w base spare held 36 v d p)
    {ts : List TypeId} {ds : List (DataW H)} (hz : (DataW.weightsEach Try.prog ts ds).all (· ≤ reachBytes) = true) {j : Nat} (hj : ts[j]? = some 36) (hd : ds[j]? = some d) :
    ∃ (C : Option Addr) (cc : Nat) (l : List PA), v = .slice C l.length cc ∧ l.length ≤ 9223372036854775807 ∧ Hid (∀ a ∈ l, a.s.length ≤ 140737488355328 ∧ a.keep.length ≤ 140737488355328) ∧ Hid (∀ a ∈ l, a.n ≤ 9223372036854775807) ∧ ActsAt w w.heap.size C l ∧ KeepsAt w w.heap.size l := by
  obtain ⟨fs, he, hone, hsz, hty⟩ := fieldsAct
  obtain ⟨C, len, cc, rfl, hl, b, off, hC, hc⟩ := open_fieldsW_at Try.underlying36 he hone (cellsAct.trans hsz.symm) (by omega) hv h
  have hf : ∀ j, j < 6 → ∃ f, fs[j]? = some f ∧ some f.type = (#[3, 3, 3, 3, 9, 22] : Array Nat)[j]? := fun j hj => by
    refine ⟨fs[j]'(by omega), Array.getElem?_eq_getElem _, ?_⟩
    rw [← hty]; simp [hsz, hj]
  have hbig : ∀ n, n ∈ d.weights Try.prog 36 → n ≤ 140737488355328 := fun n hn => by
    have h1 := List.all_eq_true.1 hz n (DataW.weights_mem_each hj hd n hn)
    have := reachBytes_lt
    simp only [decide_eq_true_eq] at h1
    omega
  have key : ∀ i, ∃ a : PA, i < len → (∀ j, j < 6 → w.cell? ⟨b, off + (i * 6 + j), none⟩ = some (actC a j)) ∧ (a.s.length ≤ 140737488355328 ∧ a.keep.length ≤ 140737488355328) ∧ a.n ≤ 9223372036854775807 ∧ IntsAt w w.heap.size a.A a.keep := by
    intro i
    by_cases hi : i < len
    · obtain ⟨f0, g0, t0⟩ := hf 0 (by omega)
      obtain ⟨f1, g1, t1⟩ := hf 1 (by omega)
      obtain ⟨f2, g2, t2⟩ := hf 2 (by omega)
      obtain ⟨f3, g3, t3⟩ := hf 3 (by omega)
      obtain ⟨f4, g4, t4⟩ := hf 4 (by omega)
      obtain ⟨f5, g5, t5⟩ := hf 5 (by omega)
      obtain ⟨u0, n0, y0, c0, r0, _⟩ := hc i hi 0 f0 g0
      obtain ⟨u1, n1, y1, c1, r1, _⟩ := hc i hi 1 f1 g1
      obtain ⟨u2, n2, y2, c2, r2, _⟩ := hc i hi 2 f2 g2
      obtain ⟨u3, n3, y3, c3, r3, _⟩ := hc i hi 3 f3 g3
      obtain ⟨u4, n4, y4, c4, r4, q4⟩ := hc i hi 4 f4 g4
      obtain ⟨u5, n5, y5, c5, r5, q5⟩ := hc i hi 5 f5 g5
      rw [show f0.type = 3 by simpa using t0] at r0
      rw [show f1.type = 3 by simpa using t1] at r1
      rw [show f2.type = 3 by simpa using t2] at r2
      rw [show f3.type = 3 by simpa using t3] at r3
      rw [show f4.type = 9 by simpa using t4] at r4 q4
      rw [show f5.type = 22 by simpa using t5] at r5 q5
      obtain ⟨z0, e0, _, _⟩ := DataW.trod_int Try.underlying3 r0
      obtain ⟨z1, e1, _, _⟩ := DataW.trod_int Try.underlying3 r1
      obtain ⟨z2, e2, _, _⟩ := DataW.trod_int Try.underlying3 r2
      obtain ⟨z3, e3, _, wf3⟩ := DataW.trod_int Try.underlying3 r3
      obtain ⟨z4, e4, x4, _⟩ := DataW.trod_string Try.underlying9 r4
      obtain ⟨A, c, zs, e5, hI, hlen⟩ := open_cell_ints Try.underlying22 Try.underlying3 cellsInt bytesInt r5
      simp at e0 e1 e2 e3 e4
      subst e0 e1 e2 e3 e4 e5
      rw [hsz] at c0 c1 c2 c3 c4 c5
      refine ⟨⟨z0, z1, z2, z3, z4.data.toList, A, c, zs⟩, fun _ => ⟨fun j hj => ?_, ⟨?_, ?_⟩, wf_le wf3, hI⟩⟩
      · have : j = 0 ∨ j = 1 ∨ j = 2 ∨ j = 3 ∨ j = 4 ∨ j = 5 := by omega
        rcases this with rfl | rfl | rfl | rfl | rfl | rfl
        · exact c0
        · exact c1
        · exact c2
        · exact c3
        · rw [c4]; show _ = some (Value.string (bs z4.data.toList)); rw [bs_of]
        · exact c5
      · exact hbig _ (q4 _ (by rw [x4]; simp [DataW.weights]))
      · show zs.length ≤ _
        by_cases hn : zs = []
        · subst hn; simp
        · obtain ⟨_, z, hz1, hz2⟩ := hlen hn
          exact Nat.le_trans hz2 (hbig z (q5 z hz1))
    · exact ⟨PA.zero, fun h => absurd h hi⟩
  obtain ⟨F, hF⟩ := Classical.skolem.1 key
  have hA : ((List.range len).map F).length = len := by simp
  have hmem : ∀ a ∈ (List.range len).map F, ∃ i, i < len ∧ a = F i := fun a ha => by
    obtain ⟨i, hi, rfl⟩ := List.mem_map.1 ha
    exact ⟨i, List.mem_range.1 hi, rfl⟩
  refine ⟨C, cc, (List.range len).map F, by rw [hA], by rw [hA]; exact hl, fun a ha => ?_, fun a ha => ?_, ?_, fun a ha => ?_⟩
  · obtain ⟨i, hi, rfl⟩ := hmem a ha; exact (hF i hi).2.1
  · obtain ⟨i, hi, rfl⟩ := hmem a ha; exact (hF i hi).2.2.1
  · unfold ActsAt
    rw [hA]
    intro hpos
    obtain ⟨e, hb⟩ := hC (by omega)
    refine ⟨b, off, e, hb, fun j hj => ?_⟩
    have hq : j / 6 < len := by omega
    have := (hF (j / 6) hq).1 (j % 6) (by omega)
    rw [show j / 6 * 6 + j % 6 = j by omega] at this
    rw [this]
    unfold actF
    have kk : ((List.range len).map F).getD (j / 6) PA.zero = F (j / 6) := by simp [List.getD_eq_getElem?_getD, hq]
    rw [kk]
  · obtain ⟨i, hi, rfl⟩ := hmem a ha; exact (hF i hi).2.2.2
end
end Go.Proofs.Ytfohojkclfofmaa
