/- Joined of: OT. -/
import Derived.Below
import Derived.Test.YthoigjkelinjhaaG04
import Derived.Test.YthoigjkelinjhaaAppAny
/- Arguments opened by their types, however deep: what lies in the cells of a value that reads. -/
set_option linter.unusedSimpArgs false
set_option linter.unusedVariables false
namespace Go.Proofs.Ythoigjkelinjhaa
open Go.ChangeShapes Go.WideShapes Go.Deep Go.RowKit
/-- Cells that hold a value of a type, and what it reaches. -/
def Okv (P : Program) (w : World) (B : Nat) : Nat → TypeId → List Value → Prop
  | 0, _, _ => False
  | n + 1, t, cs => match P.underlying t with
    | some (.int .i64) => ∃ z : Int, (-9223372036854775808 ≤ z ∧ z ≤ 9223372036854775807) ∧ cs = [.int .i64 z]
    | some .string => ∃ s : ByteArray, s.size ≤ 9223372036854775807 ∧ cs = [.string s]
    | some (.slice e) => ∃ C len cap, cs = [.slice C len cap] ∧ len ≤ 9223372036854775807 ∧ (0 < len → ∃ a : Addr, C = some a ∧ a.block < B ∧ ∀ i, i < len → ∃ F : List Value, F.length = P.cellsOf e ∧ (∀ j u, F[j]? = some u → w.cell? (a.add (i * P.cellsOf e + j)) = some u) ∧ Okv P w B n e F)
    | some (.struct fs) => cs.length = P.cellsOf t ∧ ∀ (j : Nat) (f : Field), fs[j]? = some f → Okv P w B n f.type ((cs.drop f.offset).take (P.cellsOf f.type))
    | _ => True
section
variable {P : Program} {w w' : World} {B B' : Nat}
theorem Okv.move (hw : ∀ p : Addr, p.block < B → w'.cell? p = w.cell? p) (hB : B ≤ B') : ∀ (n : Nat) (t : TypeId) (cs : List Value), Okv P w B n t cs → Okv P w' B' n t cs
  | 0, _, _, h => h
  | n + 1, t, cs, h => by
    unfold Okv at h ⊢
    split at h
    · rename_i e; (try rw [e]); exact h
    · rename_i e; (try rw [e]); exact h
    · rename_i e' e; (try rw [e])
      obtain ⟨C, len, cap, h1, h2, h3⟩ := h
      refine ⟨C, len, cap, h1, h2, fun hp => ?_⟩
      obtain ⟨a, k1, k2, k3⟩ := h3 hp
      refine ⟨a, k1, by omega, fun i hi => ?_⟩
      obtain ⟨F, f1, f2, f3⟩ := k3 i hi
      exact ⟨F, f1, fun j u hu => (hw _ (by rw [block_of_add]; exact k2)).trans (f2 j u hu), Okv.move hw hB n _ _ f3⟩
    · rename_i fs e; (try rw [e])
      exact ⟨h.1, fun j f hf => Okv.move hw hB n _ _ (h.2 j f hf)⟩
    · trivial
/-- A slice's elements, each of s cells. -/
def SlT (P : Program) (w : World) (B m : Nat) (e : TypeId) (s : Nat) (C : Option Addr) (len : Nat) : Prop :=
  0 < len → ∃ b off, C = some ⟨b, off, none⟩ ∧ b < B ∧ ∀ i, i < len → ∃ F : List Value, F.length = s ∧ (∀ j u, F[j]? = some u → w.cell? ⟨b, off + (i * s + j), none⟩ = some u) ∧ Okv P w B m e F
theorem SlT.below {m s len : Nat} {e : TypeId} {C : Option Addr} (h : SlT P w B m e s C len) (hb : Below B w w') : SlT P w' B m e s C len := fun hp => by
  obtain ⟨b, off, h1, h2, h3⟩ := h hp
  refine ⟨b, off, h1, h2, fun i hi => ?_⟩
  obtain ⟨F, f1, f2, f3⟩ := h3 i hi
  exact ⟨F, f1, fun j u hu => (hb.cell (p := ⟨b, _, none⟩) h2).trans (f2 j u hu), Okv.move (fun p hp => hb.cell hp) (Nat.le_refl _) _ _ _ f3⟩
theorem SlT.more {m s len : Nat} {e : TypeId} {C : Option Addr} (h : SlT P w B m e s C len) (hB : B ≤ B') : SlT P w B' m e s C len := fun hp => by
  obtain ⟨b, off, h1, h2, h3⟩ := h hp
  refine ⟨b, off, h1, by omega, fun i hi => ?_⟩
  obtain ⟨F, f1, f2, f3⟩ := h3 i hi
  exact ⟨F, f1, f2, Okv.move (fun p _ => rfl) hB _ _ _ f3⟩
theorem SlT.up {m s len : Nat} {e : TypeId} {C : Option Addr} (h : SlT P w w.heap.size m e s C len) (hb : Below w.heap.size w w') : SlT P w' w'.heap.size m e s C len := (h.below hb).more hb.size
theorem Okv.slice {n s : Nat} {t e : TypeId} {cs : List Value} (ht : P.underlying t = some (.slice e)) (hs : P.cellsOf e = s) (h0 : 0 < s) (h : Okv P w B n t cs) : ∃ m C len cap, cs = [.slice C len cap] ∧ len ≤ 9223372036854775807 ∧ SlT P w B m e s C len := by
  cases n with
  | zero => exact h.elim
  | succ n =>
    unfold Okv at h
    rw [ht] at h
    obtain ⟨C, len, cap, h1, h2, h3⟩ := h
    refine ⟨n, C, len, cap, h1, h2, fun hp => ?_⟩
    obtain ⟨a, k1, k2, k3⟩ := h3 hp
    rw [hs] at k3
    obtain ⟨F, f1, f2, f3⟩ := k3 0 hp
    obtain ⟨b, o, e1, _⟩ := addr_at (f2 0 _ (List.getElem?_eq_getElem (by omega)))
    have e2 : a = ⟨b, o, none⟩ := by simpa [Addr.add_zero'] using e1
    subst e2
    refine ⟨b, o, k1, k2, fun i hi => ?_⟩
    obtain ⟨F, f1, f2, f3⟩ := k3 i hi
    exact ⟨F, f1, fun j u hu => by have := f2 j u hu; rwa [Addr.add_lit] at this, f3⟩
theorem Okv.int {n : Nat} {t : TypeId} {cs : List Value} (ht : P.underlying t = some (.int .i64)) (h : Okv P w B n t cs) : ∃ z : Int, (-9223372036854775808 ≤ z ∧ z ≤ 9223372036854775807) ∧ cs = [.int .i64 z] := by
  cases n with
  | zero => exact h.elim
  | succ n => unfold Okv at h; rw [ht] at h; exact h
theorem Okv.str {n : Nat} {t : TypeId} {cs : List Value} (ht : P.underlying t = some .string) (h : Okv P w B n t cs) : ∃ s : ByteArray, s.size ≤ 9223372036854775807 ∧ cs = [.string s] := by
  cases n with
  | zero => exact h.elim
  | succ n => unfold Okv at h; rw [ht] at h; exact h
theorem Okv.fields {n : Nat} {t : TypeId} {fs : Array Field} {cs : List Value} (ht : P.underlying t = some (.struct fs)) (h : Okv P w B n t cs) : cs.length = P.cellsOf t ∧ ∃ m, ∀ (j : Nat) (f : Field), fs[j]? = some f → Okv P w B m f.type ((cs.drop f.offset).take (P.cellsOf f.type)) := by
  cases n with
  | zero => exact h.elim
  | succ n => unfold Okv at h; rw [ht] at h; exact ⟨h.1, n, h.2⟩
theorem wf_in' {a : Int} (h : (Lit.int .i64 a).wf = true) : -9223372036854775808 ≤ a ∧ a ≤ 9223372036854775807 := by
  simp only [Lit.wf, IntKind.min, IntKind.max, IntKind.signed, IntKind.bits, Bool.and_eq_true, decide_eq_true_eq, if_true] at h
  omega
end
section
variable {H : Type} {enc : TypeId × Value → H} {P : Program} {w : World} {base : Nat} {spare : Nat → Bool} {held : Bool}
/-- What reads is of its type. -/
theorem okv_of_trod (hc : ∀ e, (∃ t, P.underlying t = some (.slice e)) → 0 < P.cellsOf e) : ∀ (n : Nat) (t : TypeId) (cs : List Value) (x : DataW H × List MemPlace), DataW.trod enc P w base spare held n t cs = some x → Okv P w w.heap.size n t cs
  | 0, t, cs, x, h => by simp [DataW.trod] at h
  | n + 1, t, cs, x, h => by
    unfold Okv
    split
    · rename_i e
      obtain ⟨z, rfl, _, hz⟩ := DataW.trod_int e h
      exact ⟨z, wf_in' hz, rfl⟩
    · rename_i e
      obtain ⟨s, rfl, _, hs⟩ := DataW.trod_string e h
      exact ⟨s, by unfold maxLen at hs; exact hs, rfl⟩
    · rename_i e' e
      rcases DataW.trod_slice e h with ⟨rfl, _⟩ | ⟨a, len, cap, elems, rest, m, hm, rfl, _, _, hl, hcap, hlen, hel, _, _⟩
      · exact ⟨none, 0, 0, rfl, by omega, fun h => absurd h (by simp)⟩
      · obtain rfl : n = m := by omega
        unfold maxLen at hcap
        have key : ∀ i, i < len → ∃ F : List Value, F.length = P.cellsOf e' ∧ (∀ j u, F[j]? = some u → w.cell? (a.add (i * P.cellsOf e' + j)) = some u) ∧ Okv P w w.heap.size n e' F := fun i hi => by
          have hei : elems[i]? = some (elems[i]'(by omega)) := List.getElem?_eq_getElem (by omega)
          have hb1 := hel i hi
          rw [hei, Option.bind_eq_some_iff] at hb1
          obtain ⟨F, hF, hf⟩ := hb1
          obtain ⟨_, hcl, hat⟩ := World.cells?_some hF
          refine ⟨F, hcl, fun j u hu => ?_, okv_of_trod hc n _ _ _ hf⟩
          have hj : j < F.length := (List.getElem?_eq_some_iff.1 hu).1
          have := hat j (by omega)
          rw [Go.Deep.add_add] at this
          rw [this]; exact hu
        refine ⟨some a, len, cap, rfl, by omega, fun hp => ⟨a, rfl, ?_, key⟩⟩
        obtain ⟨F, f1, f2, _⟩ := key 0 hp
        have h0 := hc e' ⟨t, e⟩
        have := World.block_lt_of_cell? w _ (f2 0 _ (List.getElem?_eq_getElem (by omega)))
        rwa [block_of_add] at this
    · rename_i fs e
      obtain ⟨xs, m, hm, _, hl, hlen, hf⟩ := DataW.trod_struct e h
      obtain rfl : n = m := by omega
      refine ⟨hl, fun j f hj => ?_⟩
      have h1 := hf j f hj
      have hjl : j < fs.size := (Array.getElem?_eq_some_iff.1 hj).1
      rw [List.getElem?_eq_getElem (by omega)] at h1
      exact okv_of_trod hc n _ _ _ h1
    · trivial
end
end Go.Proofs.Ythoigjkelinjhaa

