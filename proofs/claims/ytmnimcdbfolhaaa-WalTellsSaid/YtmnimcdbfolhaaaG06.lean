/- Joined of: R0 R1 R3. -/
import Derived.Lib.SmallJoins
import Derived.SizedLaws
import Derived.Test.YtmnimcdbfolhaaaRows
import Derived.Test.YtmnimcdbfolhaaaKit
import Derived.Test.YtmnimcdbfolhaaaG05
import Derived.Test.YtmnimcdbfolhaaaSM
import Derived.Test.YtmnimcdbfolhaaaX3
/- What the rows share: closed facts of the program. -/
set_option linter.unusedSimpArgs false
set_option linter.unusedVariables false
namespace Go.Proofs.Ytmnimcdbfolhaaa
open Go.ChangeShapes Go.WideShapes Go.ChangeAt Go.RowKit Go.Deep

theorem own : ownKnob Try.prog.godebug = none := by kernel_rfl
theorem laidOut : laidOutB Try.prog = true := by kernel_rfl
theorem cellsInt : Try.prog.cellsOf 3 = 1 := by kernel_rfl
end Go.Proofs.Ytmnimcdbfolhaaa

/- A list of strings as an argument. -/
namespace Go.Proofs.Ytmnimcdbfolhaaa
open Go.ChangeShapes Go.WideShapes Go.ChangeAt Go.RowKit Go.Deep DK
theorem wf_le {a : Int} (h : (Lit.int .i64 a).wf = true) : a ≤ 9223372036854775807 := by
  simp only [Lit.wf, IntKind.min, IntKind.max, IntKind.signed, IntKind.bits, Bool.and_eq_true, decide_eq_true_eq, if_true] at h
  omega
theorem cellsStr : Try.prog.cellsOf 9 = 1 := by kernel_rfl
section
variable {H : Type} {enc : TypeId × Value → H} {w : World} {base : Nat} {spare : Nat → Bool} {held : Bool} {r : Reach} {b0 : Nat}
set_option maxRecDepth 100000 in
theorem open_strs {v : Value} {d : DataW H} {p : List MemPlace} (hv : Value.okWide Try.prog w r b0 22 v) (h : DataW.Trod enc Try.prog w base spare held 22 v d p)
    {ts : List TypeId} {ds : List (DataW H)} (hz : (DataW.weightsEach Try.prog ts ds).all (· ≤ reachBytes) = true) {j : Nat} (hj : ts[j]? = some 22) (hd : ds[j]? = some d) :
    ∃ (C : Option Addr) (cc : Nat) (l : List Bts), v = .slice C l.length cc ∧ l.length ≤ 9223372036854775807 ∧ Hid (∀ x ∈ l, x.length ≤ 140737488355328) ∧ StrsAt w w.heap.size C l := by
  obtain ⟨C, len, cc, ss, rfl, hs, hl, hb, hc⟩ := open_strs_at Try.underlying22 Try.underlying9 cellsStr hv h hz hj hd
  have hml : (ss.map fun s => s.data.toList).length = len := by rw [List.length_map, hs]
  refine ⟨C, cc, ss.map fun s => s.data.toList, by rw [hml], by rw [hml]; exact hl, fun x hx => ?_, fun hp => ?_⟩
  · obtain ⟨s, hs, rfl⟩ := List.mem_map.1 hx
    have := hb s hs
    have h4 : s.data.toList.length = s.size := by simp
    omega
  · rw [hml] at hp ⊢
    obtain ⟨b, o, e, hlt, hcell⟩ := hc hp
    refine ⟨b, o, e, hlt, fun j hj => ?_⟩
    rw [hcell j hj]
    have hjs : j < ss.length := by omega
    simp [strF, List.getD_eq_getElem?_getD, hjs, bs_of]
theorem cap_of {C : Option Addr} {n cc : Nat} {d : DataW H} {p : List MemPlace} (h : DataW.Trod enc Try.prog w base spare held 22 (.slice C n cc) d p) : n ≤ cc ∧ cc ≤ 9223372036854775807 := by
  obtain ⟨fuel, hf⟩ := h
  rcases open_slice Try.underlying22 hf with ⟨hcs, _⟩ | ⟨a, len', cap', m, k, D, Pl, hcs, hb, hl, hm, hmm, _, hel⟩
  · simp [Value.cells] at hcs
    obtain ⟨rfl, rfl, rfl⟩ := hcs
    exact ⟨by omega, by omega⟩
  · simp [Value.cells] at hcs
    obtain ⟨rfl, rfl, rfl⟩ := hcs
    unfold maxLen at hm
    exact ⟨hl, by omega⟩
end
end Go.Proofs.Ytmnimcdbfolhaaa

/- A list of acts as an argument (beside WalTells). -/
namespace Go.Proofs.Ytmnimcdbfolhaaa
open Go.ChangeShapes Go.WideShapes Go.ChangeAt Go.RowKit Go.Deep DK
theorem bytesInt : Try.prog.bytesOf 3 = 8 := by kernel_rfl
theorem bytesStr : Try.prog.bytesOf 9 = 16 := by kernel_rfl
theorem cellsAct : Try.prog.cellsOf 60 = 5 := by kernel_rfl
theorem fieldsAct : ∃ fs, Try.prog.underlying 60 = some (.struct fs) ∧ oneCellFields Try.prog fs = true ∧ fs.size = 5 ∧ fs.map (·.type) = #[3, 9, 22, 3, 43] := ⟨_, Try.underlying60, by kernel_rfl, by kernel_rfl, by kernel_rfl⟩
section
variable {H : Type} {enc : TypeId × Value → H} {w : World} {base : Nat} {spare : Nat → Bool} {held : Bool} {r : Reach} {b0 : Nat}
set_option maxRecDepth 100000 in
theorem open_acts {v : Value} {d : DataW H} {p : List MemPlace} (hv : Value.okWide Try.prog w r b0 49 v) (h : DataW.Trod enc Try.prog w base spare held 49 v d p)
    {ts : List TypeId} {ds : List (DataW H)} (hz : (DataW.weightsEach Try.prog ts ds).all (· ≤ reachBytes) = true) {j : Nat} (hj : ts[j]? = some 49) (hd : ds[j]? = some d) :
    ∃ (C : Option Addr) (cc : Nat) (l : List WA), v = .slice C l.length cc ∧ l.length ≤ 9223372036854775807 ∧ Hid (∀ a ∈ l, a.s.length ≤ 140737488355328 ∧ a.L.length ≤ 140737488355328 ∧ a.K.length ≤ 140737488355328 ∧ ∀ x ∈ a.L, x.length ≤ 140737488355328) ∧ Hid (∀ a ∈ l, a.n ≤ 9223372036854775807) ∧ ActsAt w w.heap.size C l ∧ PartsAt w w.heap.size l := by
  obtain ⟨fs, he, hone, hsz, hty⟩ := fieldsAct
  obtain ⟨C, len, cc, rfl, hl, b, off, hC, hc⟩ := open_fieldsW_at Try.underlying49 he hone (cellsAct.trans hsz.symm) (by omega) hv h
  have hf : ∀ j, j < 5 → ∃ f, fs[j]? = some f ∧ some f.type = (#[3, 9, 22, 3, 43] : Array Nat)[j]? := fun j hj => by
    refine ⟨fs[j]'(by omega), Array.getElem?_eq_getElem _, ?_⟩
    rw [← hty]; simp [hsz, hj]
  have hbig : ∀ n, n ∈ d.weights Try.prog 49 → n ≤ 140737488355328 := fun n hn => by
    have h1 := List.all_eq_true.1 hz n (DataW.weights_mem_each hj hd n hn)
    have := reachBytes_lt
    simp only [decide_eq_true_eq] at h1
    omega
  have key : ∀ i, ∃ a : WA, i < len → (∀ j, j < 5 → w.cell? ⟨b, off + (i * 5 + j), none⟩ = some (actC a j)) ∧ (a.s.length ≤ 140737488355328 ∧ a.L.length ≤ 140737488355328 ∧ a.K.length ≤ 140737488355328 ∧ ∀ x ∈ a.L, x.length ≤ 140737488355328) ∧ a.n ≤ 9223372036854775807 ∧ StrsAt w w.heap.size a.LA a.L ∧ IntsAt w w.heap.size a.KA a.K := by
    intro i
    by_cases hi : i < len
    · obtain ⟨f0, g0, t0⟩ := hf 0 (by omega)
      obtain ⟨f1, g1, t1⟩ := hf 1 (by omega)
      obtain ⟨f2, g2, t2⟩ := hf 2 (by omega)
      obtain ⟨f3, g3, t3⟩ := hf 3 (by omega)
      obtain ⟨f4, g4, t4⟩ := hf 4 (by omega)
      obtain ⟨u0, n0, y0, c0, r0, _⟩ := hc i hi 0 f0 g0
      obtain ⟨u1, n1, y1, c1, r1, q1⟩ := hc i hi 1 f1 g1
      obtain ⟨u2, n2, y2, c2, r2, q2⟩ := hc i hi 2 f2 g2
      obtain ⟨u3, n3, y3, c3, r3, _⟩ := hc i hi 3 f3 g3
      obtain ⟨u4, n4, y4, c4, r4, q4⟩ := hc i hi 4 f4 g4
      rw [show f0.type = 3 by simpa using t0] at r0
      rw [show f1.type = 9 by simpa using t1] at r1 q1
      rw [show f2.type = 22 by simpa using t2] at r2 q2
      rw [show f3.type = 3 by simpa using t3] at r3
      rw [show f4.type = 43 by simpa using t4] at r4 q4
      obtain ⟨z0, e0, _, _⟩ := DataW.trod_int Try.underlying3 r0
      obtain ⟨z1, e1, x1, _⟩ := DataW.trod_string Try.underlying9 r1
      obtain ⟨LA, lc, ss, e2, hL, hLl, hLs⟩ := open_cell_strs Try.underlying22 Try.underlying9 cellsStr bytesStr r2
      obtain ⟨z3, e3, _, wf3⟩ := DataW.trod_int Try.underlying3 r3
      obtain ⟨A, c, zs, e4, hI, hlen⟩ := open_cell_ints Try.underlying43 Try.underlying3 cellsInt bytesInt r4
      simp at e0 e1 e3
      subst e0 e1 e2 e3 e4
      rw [hsz] at c0 c1 c2 c3 c4
      refine ⟨⟨z0, z1.data.toList, LA, lc, ss.map fun s => s.data.toList, z3, A, c, zs⟩, fun _ => ⟨fun j hj => ?_, ⟨?_, ?_, ?_, fun x hx => ?_⟩, wf_le wf3, ?_, hI⟩⟩
      · have : j = 0 ∨ j = 1 ∨ j = 2 ∨ j = 3 ∨ j = 4 := by omega
        rcases this with rfl | rfl | rfl | rfl | rfl
        · exact c0
        · rw [c1]; show _ = some (Value.string (bs z1.data.toList)); rw [bs_of]
        · rw [c2]; show _ = some (Value.slice LA (ss.map fun s => s.data.toList).length lc); rw [List.length_map]
        · exact c3
        · exact c4
      · exact hbig _ (q1 _ (by rw [x1]; simp [DataW.weights]))
      · show (ss.map fun s => s.data.toList).length ≤ _
        rw [List.length_map]
        by_cases hn : ss = []
        · subst hn; simp
        · obtain ⟨z, hz1, hz2⟩ := hLl hn
          exact Nat.le_trans hz2 (hbig z (q2 z hz1))
      · show zs.length ≤ _
        by_cases hn : zs = []
        · subst hn; simp
        · obtain ⟨_, z, hz1, hz2⟩ := hlen hn
          exact Nat.le_trans hz2 (hbig z (q4 z hz1))
      · have hx2 : x ∈ ss.map fun s => s.data.toList := hx
        obtain ⟨s, hs, rfl⟩ := List.mem_map.1 hx2
        obtain ⟨z, hz1, hz2⟩ := hLs s hs
        have h4 : s.data.toList.length = s.size := by simp
        have := hbig z (q2 z hz1)
        omega
      · intro hp
        show ∃ b off, LA = some ⟨b, off, none⟩ ∧ _
        have hml : (ss.map fun s => s.data.toList).length = ss.length := List.length_map _
        have hp2 : 0 < ss.length := by rw [← hml]; exact hp
        obtain ⟨b1, o1, e, hlt, hcell⟩ := hL hp2
        refine ⟨b1, o1, e, hlt, fun j hj => ?_⟩
        have hj2 : j < ss.length := by rw [← hml]; exact hj
        rw [hcell j hj2]
        simp [strF, List.getD_eq_getElem?_getD, hj2, bs_of]
    · exact ⟨WA.zero, fun h => absurd h hi⟩
  obtain ⟨F, hF⟩ := Classical.skolem.1 key
  have hA : ((List.range len).map F).length = len := by simp
  have hmem : ∀ a ∈ (List.range len).map F, ∃ i, i < len ∧ a = F i := fun a ha => by
    obtain ⟨i, hi, rfl⟩ := List.mem_map.1 ha
    exact ⟨i, List.mem_range.1 hi, rfl⟩
  refine ⟨C, cc, (List.range len).map F, by rw [hA], by rw [hA]; exact hl, fun a ha => ?_, fun a ha => ?_, ?_, fun a ha => ?_⟩
  · obtain ⟨i, hi, rfl⟩ := hmem a ha; exact (hF i hi).2.1
  · obtain ⟨i, hi, rfl⟩ := hmem a ha; exact (hF i hi).2.2.1
  · unfold ActsAt
    rw [hA]
    intro hpos
    obtain ⟨e, hb⟩ := hC (by omega)
    refine ⟨b, off, e, hb, fun j hj => ?_⟩
    have hq : j / 5 < len := by omega
    have := (hF (j / 5) hq).1 (j % 5) (by omega)
    rw [show j / 5 * 5 + j % 5 = j by omega] at this
    rw [this]
    unfold actF
    have kk : ((List.range len).map F).getD (j / 5) WA.zero = F (j / 5) := by simp [List.getD_eq_getElem?_getD, hq]
    rw [kk]
  · obtain ⟨i, hi, rfl⟩ := hmem a ha; exact ⟨(hF i hi).2.2.2.1, (hF i hi).2.2.2.2⟩
end
end Go.Proofs.Ytmnimcdbfolhaaa

