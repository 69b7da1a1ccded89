/- Plain facts of the examples of small. -/
import Derived.Test.YtchmplnkddgncaaDoorRP
set_option linter.unusedSimpArgs false
set_option linter.unusedVariables false
namespace Go.Proofs.YtchmplnkddgncaaDoor.RS
open CM RG
def r : Rt := ⟨5, 0, 1900, 0, 100, 401, 930, 0, -1⟩
def q : Rt := ⟨5, 1, 1900, 0, 100, 401, 930, 0, -1⟩
def d1 : Dl := ⟨0, 0, r, 0, 0⟩
def d2 : Dl := ⟨1, 50, ⟨5, 1, 0, 0, 0, 0, 0, 0, 0⟩, 100, 200⟩
def d3 : Dl := ⟨3, 3000, ⟨5, 0, 0, 0, 0, 0, 0, 0, 0⟩, 180, 0⟩
def ls : List Dl := [d1, d2, d3]
theorem day_of {n y m d : Int} (h1 : 1 ≤ m ∧ m ≤ 12 ∧ 1 ≤ d ∧ d ≤ DM.len y m) (h2 : DM.num y m d = n) : monOf n = m ∧ dayOf n = d := by
  have := dateOf_eq (y := y) (m := m) (d := d) h1 h2
  unfold monOf dayOf
  rw [this]
  exact ⟨rfl, rfl⟩
theorem m100 : monOf 100 = 4 ∧ dayOf 100 = 10 := day_of (y := 2000) (by decide) (by decide)
theorem m20 : monOf 20 = 1 ∧ dayOf 20 = 21 := day_of (y := 2000) (by decide) (by decide)
theorem m190 : monOf 190 = 7 ∧ dayOf 190 = 9 := day_of (y := 2000) (by decide) (by decide)
theorem s100 : seasonB r 100 = true := by unfold seasonB; rw [m100.1, m100.2]; decide
theorem s20 : seasonB r 20 = false := by unfold seasonB; rw [m20.1, m20.2]; decide
theorem s190 : seasonB r 190 = true := by unfold seasonB; rw [m190.1, m190.2]; decide
theorem sneg : seasonB r (-1) = false := by unfold seasonB; rw [show wit (-1) 0 699050 = false by decide]; rfl
theorem one (x : Rt) : orderR [x] = [x] := by unfold orderR ST.insSort; simp
theorem rows_yes {day : Int} {K : List Dl} {x y : Rt} (hg : grantsOf K = [x]) (hs : seasonB x day = true) (he : endedB K x.id = false) (hc : changed K x = y) : rowsR day K = [y] := by
  unfold rowsR
  rw [hg, List.filter_cons_of_pos (by rw [hs, he]; rfl), List.filter_nil, List.map_cons, List.map_nil, hc]
theorem rows_no {day : Int} {K : List Dl} {x : Rt} (hg : grantsOf K = [x]) (hs : seasonB x day = false ∨ endedB K x.id = true) : rowsR day K = [] := by
  unfold rowsR
  rw [hg, List.filter_cons_of_neg (by rcases hs with h | h <;> rw [h] <;> simp), List.filter_nil, List.map_nil]
theorem nil_order : orderR [] = [] := rfl
theorem R1 : rosterR 2 2 100 10 ls = [r] := by
  unfold rosterR
  rw [show counted 2 2 100 10 ls = [d1] by decide, rows_yes (x := r) (y := r) (by decide) s100 (by decide) (by decide), one]
theorem R2 : rosterR 2 2 100 50 ls = [q] := by
  unfold rosterR
  rw [show counted 2 2 100 50 ls = [d1, d2] by decide, rows_yes (x := r) (y := q) (by decide) s100 (by decide) (by decide), one]
theorem R3 : rosterR 2 2 20 50 ls = [] := by
  unfold rosterR
  rw [show counted 2 2 20 50 ls = [d1] by decide, rows_no (x := r) (by decide) (.inl s20), nil_order]
theorem R4 : rosterR 2 2 190 2999 ls = [q] := by
  unfold rosterR
  rw [show counted 2 2 190 2999 ls = [d1, d2] by decide, rows_yes (x := r) (y := q) (by decide) s190 (by decide) (by decide), one]
theorem R5 : rosterR 2 2 190 3000 ls = [] := by
  unfold rosterR
  rw [show counted 2 2 190 3000 ls = [d1, d2, d3] by decide, rows_no (x := r) (by decide) (.inr (by decide)), nil_order]
theorem G1 : rightB 2 2 r = true := by decide
theorem G0 : rightB 0 0 r = false := by decide
def o1 : Rt := ⟨0, 0, 2, 0, 0, 0, 0, 0, 0⟩
def o2 : Rt := ⟨4, 0, 1, 0, 0, 0, 0, 0, 0⟩
def o3 : Rt := ⟨3, 0, 1, 0, 0, 0, 0, 0, 0⟩
theorem O1 : orderR [o1, o2, o3] = [o3, o2, o1] := by
  have h21 : ltR o2 o1 = true := by decide
  have h32 : ltR o3 o2 = true := by decide
  unfold orderR ST.insSort
  simp only [List.foldl_cons, List.foldl_nil, ST.merge_nil_left]
  rw [ST.merge_lt _ _ _ _ _ h21, ST.merge_nil_right, ST.merge_lt _ _ _ _ _ h32, ST.merge_nil_right]
end Go.Proofs.YtchmplnkddgncaaDoor.RS
