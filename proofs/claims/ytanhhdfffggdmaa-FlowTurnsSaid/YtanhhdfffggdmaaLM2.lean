/- Plain laws for the changed networks of the statements: lists of arcs as cells, an arc in two parts wherever it stands. -/
import Derived.Test.YtanhhdfffggdmaaLMath
import Derived.Laws.OwnMore
namespace Go.Proofs.Ytanhhdfffggdmaa
open Go.RowKit FM

def arcCells (A : List Arc) : List Value := A.flatMap fun a => [.int .i64 a.1, .int .i64 a.2.1, .int .i64 a.2.2]
theorem arcCells_len (A : List Arc) : (arcCells A).length = A.length * 3 := by
  induction A with
  | nil => rfl
  | cons a A ih => simp [arcCells] at *; omega
theorem arcCells_app (A B : List Arc) : arcCells (A ++ B) = arcCells A ++ arcCells B := by simp [arcCells]
theorem arcCells_get : ∀ (A : List Arc) (j : Nat), j < A.length * 3 → (arcCells A)[j]? = some (arcF A j)
  | [], j, h => by simp at h
  | a :: A, j, h => by
    match j with
    | 0 => rfl
    | 1 => rfl
    | 2 => rfl
    | j + 3 =>
      have ih := arcCells_get A j (by simp at h; omega)
      show (arcCells A)[j]? = _
      rw [ih]
      have e1 : (j + 3) % 3 = j % 3 := by omega
      have e2 : (j + 3) / 3 = j / 3 + 1 := by omega
      simp [arcF, e1, e2]
theorem arcs_of_owns {w : World} {base : Nat} {v : Value} {A : List Arc} (h : w.ownsRow base 37 3 v A.length (arcCells A)) : ∃ C cc, v = .slice C A.length cc ∧ ArcsAt w w.heap.size C A := by
  obtain ⟨_, ⟨rfl, h0⟩ | ⟨g, cap, cur, rfl, h2, h3, h4, h5, h6, h7⟩⟩ := h
  · exact ⟨none, 0, by rw [h0], fun hp => by omega⟩
  · refine ⟨_, cap, rfl, fun hp => ⟨g, 0, rfl, ?_, fun j hj => ?_⟩⟩
    · rcases Nat.lt_or_ge g w.heap.size with q | q
      · exact q
      · rw [Array.getElem?_eq_none q] at h3; cases h3
    · rw [Nat.zero_add, cell_of_row w g j cur 37 (0, 0) h3]
      have e := arcCells_get A j (by omega)
      rw [← h7, List.getElem?_take_of_lt (by omega)] at e
      simpa using e

/-- What an arc becomes: two parts of it, if it is the one and the part fits. -/
def pieces (at_ part : Int) (o : Nat) (a : Arc) : List Arc := if (o : Int) = at_ ∧ 0 ≤ part ∧ part ≤ a.2.2 then [(a.1, a.2.1, part), (a.1, a.2.1, a.2.2 - part)] else [a]
def splitO (at_ part : Int) : Nat → List Arc → List Arc
  | _, [] => []
  | o, a :: A => splitO at_ part (o + 1) A ++ pieces at_ part o a
theorem splitO_no {at_ part : Int} : ∀ (A : List Arc) (o : Nat), at_ < o → splitO at_ part o A = A.reverse
  | [], _, _ => rfl
  | a :: A, o, h => by
    have ih := splitO_no A (o + 1) (at_ := at_) (part := part) (by omega)
    simp only [splitO, ih, List.reverse_cons]
    rw [show pieces at_ part o a = [a] by unfold pieces; rw [if_neg (by omega)]]
theorem splitO_cases {at_ part : Int} : ∀ (A : List Arc) (o : Nat), splitO at_ part o A = A.reverse ∨ ∃ A1 a B, A = A1 ++ a :: B ∧ 0 ≤ part ∧ part ≤ a.2.2 ∧ splitO at_ part o A = splitA A1 B a part
  | [], _ => .inl rfl
  | a :: A, o => by
    by_cases h : (o : Int) = at_ ∧ 0 ≤ part ∧ part ≤ a.2.2
    · refine .inr ⟨[], a, A, rfl, h.2.1, h.2.2, ?_⟩
      simp only [splitO, splitO_no A (o + 1) (at_ := at_) (part := part) (by omega), pieces, if_pos h]
      rfl
    · have e : pieces at_ part o a = [a] := by unfold pieces; rw [if_neg h]
      rcases splitO_cases A (o + 1) (at_ := at_) (part := part) with g | ⟨A1, b, B, rfl, h1, h2, g⟩
      · left; simp [splitO, g, e]
      · right
        refine ⟨a :: A1, b, B, rfl, h1, h2, ?_⟩
        simp [splitO, g, e, splitA]
theorem splitO_drop {at_ part : Int} {A : List Arc} {k : Nat} {a : Arc} (h : A[k]? = some a) : splitO at_ part k (A.drop k) = splitO at_ part (k + 1) (A.drop (k + 1)) ++ pieces at_ part k a := by
  have hk := (List.getElem?_eq_some_iff.1 h).1
  rw [List.drop_eq_getElem_cons hk]
  have : A[k] = a := by rw [List.getElem?_eq_getElem hk] at h; exact Option.some.inj h
  rw [this]; rfl
theorem backA_drop {A : List Arc} {k : Nat} {a : Arc} (h : A[k]? = some a) : backA (A.drop k) = backA (A.drop (k + 1)) ++ [(a.2.1, a.1, a.2.2)] := by
  have hk := (List.getElem?_eq_some_iff.1 h).1
  rw [List.drop_eq_getElem_cons hk]
  have : A[k] = a := by rw [List.getElem?_eq_getElem hk] at h; exact Option.some.inj h
  rw [this]; simp [backA]
theorem split_max {n : Nat} {A : List Arc} {s t at_ part : Int} {f : List Int} {v : Int} {R : Int → Bool} (h : MaxOf n A s t f v R) : ∃ g, MaxOf n (splitO at_ part 0 A) s t g v R := by
  rcases splitO_cases A 0 (at_ := at_) (part := part) with e | ⟨A1, a, B, rfl, h1, h2, e⟩
  · rw [e]; exact maxOf_rev h
  · rw [e]; exact maxOf_split h1 h2 h
theorem splitO_len {at_ part : Int} (A : List Arc) (o : Nat) : (splitO at_ part o A).length ≤ A.length + 1 := by
  rcases splitO_cases A o (at_ := at_) (part := part) with e | ⟨A1, a, B, rfl, h1, h2, e⟩
  · rw [e]; simp
  · rw [e]; simp [splitA]; omega
theorem good_mem {n : Int} {A : List Arc} (h : ∀ (k : Nat) a, A[k]? = some a → good n a) : ∀ a ∈ A, good n a := fun a ha => by
  obtain ⟨k, hk⟩ := List.getElem?_of_mem ha
  exact h k a hk
theorem good_of_mem {n : Int} {A : List Arc} (h : ∀ a ∈ A, good n a) : ∀ (k : Nat) a, A[k]? = some a → good n a := fun _ a hk => h a (List.mem_of_getElem? hk)
theorem split_valid {n s t at_ part : Int} {A : List Arc} (h : Valid n A s t) (hl : A.length ≤ 4000) : Valid n (splitO at_ part 0 A) s t := by
  obtain ⟨v1, v2, v3, v4, v5⟩ := h
  have hg := good_mem v4
  refine ⟨v1, v2, by have := splitO_len (at_ := at_) (part := part) A 0; omega, good_of_mem ?_, v5⟩
  rcases splitO_cases A 0 (at_ := at_) (part := part) with e | ⟨A1, a, B, rfl, h1, h2, e⟩
  · rw [e]; exact fun a ha => hg a (by simpa using ha)
  · rw [e]
    intro b hb
    have ga := hg a (by simp)
    obtain ⟨g1, g2, g3, g4, g5, g6⟩ := ga
    simp only [splitA, List.mem_append, List.mem_reverse, List.mem_cons] at hb
    rcases hb with hb | rfl | rfl | hb
    · exact hg b (by simp [hb])
    · exact ⟨g1, g2, g3, g4, h1, by show part ≤ _; omega⟩
    · exact ⟨g1, g2, g3, g4, by show 0 ≤ a.2.2 - part; omega, by show a.2.2 - part ≤ _; omega⟩
    · exact hg b (by simp [hb])
theorem back_valid {n s t : Int} {A : List Arc} (h : Valid n A s t) : Valid n (backA A) t s := by
  obtain ⟨v1, v2, v3, v4, v5, v6, v7, v8, v9⟩ := h
  have hg := good_mem v4
  refine ⟨v1, v2, by simp [backA]; omega, good_of_mem (fun b hb => ?_), v7, v8, v5, v6, fun e => v9 e.symm⟩
  simp only [backA, List.mem_reverse, List.mem_map] at hb
  obtain ⟨a, ha, rfl⟩ := hb
  obtain ⟨g1, g2, g3, g4, g5, g6⟩ := hg a ha
  exact ⟨g3, g4, g1, g2, g5, g6⟩
/-- One arc with a greater capacity. -/
def more (A : List Arc) (k : Nat) (a : Arc) (d : Int) : List Arc := A.take k ++ (a.1, a.2.1, a.2.2 + d) :: A.drop (k + 1)
theorem arcs_split {A : List Arc} {k : Nat} {a : Arc} (h : A[k]? = some a) : A = A.take k ++ a :: A.drop (k + 1) := by
  have hk := (List.getElem?_eq_some_iff.1 h).1
  have : A[k] = a := by rw [List.getElem?_eq_getElem hk] at h; exact Option.some.inj h
  conv => lhs; rw [← List.take_append_drop k A, List.drop_eq_getElem_cons hk, this]
theorem more_valid {n s t d : Int} {A : List Arc} {k : Nat} {a : Arc} (h : Valid n A s t) (ha : A[k]? = some a) (h0 : 0 ≤ d) (h1 : a.2.2 + d ≤ 1125899906842624) : Valid n (more A k a d) s t := by
  obtain ⟨v1, v2, v3, v4, v5⟩ := h
  have hg := good_mem v4
  have hk := (List.getElem?_eq_some_iff.1 ha).1
  refine ⟨v1, v2, by simp [more]; omega, good_of_mem (fun b hb => ?_), v5⟩
  simp only [more, List.mem_append, List.mem_cons] at hb
  obtain ⟨g1, g2, g3, g4, g5, g6⟩ := hg a (List.mem_of_getElem? ha)
  rcases hb with hb | rfl | hb
  · exact hg b (List.mem_of_mem_take hb)
  · exact ⟨g1, g2, g3, g4, by show 0 ≤ a.2.2 + d; omega, h1⟩
  · exact hg b (List.mem_of_mem_drop hb)
theorem more_cells {A : List Arc} {k : Nat} {a : Arc} {d : Int} (ha : A[k]? = some a) : arcCells (more A k a d) = (arcCells A).set (k * 3 + 2) (.int .i64 (a.2.2 + d)) := by
  have hk := (List.getElem?_eq_some_iff.1 ha).1
  have hl : (arcCells (A.take k)).length = k * 3 := by rw [arcCells_len]; simp; omega
  conv => rhs; rw [arcs_split ha]
  unfold more
  rw [arcCells_app, arcCells_app, List.set_append_right _ _ (by omega), hl, show k * 3 + 2 - k * 3 = 2 by omega]
  rfl
theorem grows_max {n : Nat} {A : List Arc} {k : Nat} {a : Arc} {d : Int} {s t : Int} {f g : List Int} {v w : Int} {R Q : Int → Bool} (hA : inN n A) (hs0 : 0 ≤ s) (hs1 : s < n) (hd : 0 ≤ d) (ha : A[k]? = some a)
    (h : MaxOf n A s t f v R) (h2 : MaxOf n (more A k a d) s t g w Q) : v ≤ w ∧ w ≤ v + d ∧ ((R a.1 && !R a.2.1) = false → w = v) := by
  have e := arcs_split ha
  exact grows (A := A.take k) (B := A.drop (k + 1)) (by rw [← e]; exact hA) hs0 hs1 hd (by rw [← e]; exact h) h2
end Go.Proofs.Ytanhhdfffggdmaa
