/- Plain facts of the implementation's Roster: what is kept about an Id. -/
import Derived.Test.YtchmplnkddgncaaDoorRW5
import Derived.Test.YtchmplnkddgncaaDoorMapR
set_option linter.unusedSimpArgs false
set_option linter.unusedVariables false
namespace Go.Proofs.YtchmplnkddgncaaDoor
open Go.RowKit CM RG

def aboutOf (i : Int) (K : List Dl) : List Dl := K.filter (fun d => decide (d.kind ≠ 0) && decide (d.right.id = i))
theorem aboutOf_snoc (i : Int) (K : List Dl) (d : Dl) : aboutOf i (K ++ [d]) = if d.kind ≠ 0 ∧ d.right.id = i then aboutOf i K ++ [d] else aboutOf i K := by
  unfold aboutOf
  rw [List.filter_append]
  by_cases h1 : d.kind = 0 <;> by_cases h2 : d.right.id = i <;> simp [List.filter, h1, h2]
theorem aboutOf_len (i : Int) (K : List Dl) : (aboutOf i K).length ≤ K.length := List.length_filter_le _ _
theorem lastK_about {k : Int} (hk : k ≠ 0) (i : Int) (K : List Dl) : lastK k (aboutOf i K) = lastOf k i K := by
  unfold lastK lastOf aboutOf
  rw [List.filter_filter]
  congr 1
  refine List.filter_congr fun d _ => ?_
  by_cases h1 : d.kind = k
  · simp [h1, hk]
  · simp [h1]
theorem foldl_some {L : List Dl} {b : Option Dl} (h : b.isSome ∨ L ≠ []) : (L.foldl pick b).isSome := by
  rcases pick_is L b with ⟨e, e2⟩ | ⟨x, _, e⟩
  · rw [e]
    rcases e2 with e2 | e2
    · rcases h with h | h
      · exact h
      · exact absurd e2 h
    · exact e2
  · rw [e]; rfl
theorem ended_about (i : Int) (K : List Dl) : endT (aboutOf i K) = endedB K i := by
  unfold endedB
  cases h : lastOf 3 i K with
  | none =>
    have hn := lastOf_none h
    unfold endT
    rw [show (none : Option Dl).isSome = false from rfl, List.any_eq_false]
    intro d hd
    have := List.mem_filter.1 hd
    simp at this
    intro e
    exact hn d this.1 ⟨by simpa using e, this.2.2⟩
  | some d =>
    obtain ⟨h1, h2, h3⟩ := lastOf_mem h
    exact List.any_eq_true.2 ⟨d, List.mem_filter.2 ⟨h1, by simp [h2, h3]⟩, by simpa using h2⟩
theorem change_about (r : Rt) (K : List Dl) : changeL r (aboutOf r.id K) = if endedB K r.id then none else some (changed K r) := by
  unfold changeL changed
  rw [ended_about, lastK_about (by decide), lastK_about (by decide)]
  cases lastOf 1 r.id K <;> cases lastOf 2 r.id K <;> rfl
noncomputable def outT (day : Int) (K : List Dl) (L : List Rt) : List Rt := (L.filter (fun r => seasonB r day && !endedB K r.id)).map (changed K)
theorem outT_snoc (day : Int) (K : List Dl) (L : List Rt) (r : Rt) : outT day K (L ++ [r]) = if seasonB r day = true ∧ endedB K r.id = false then outT day K L ++ [changed K r] else outT day K L := by
  unfold outT
  rw [List.filter_append, List.map_append]
  cases h1 : seasonB r day <;> cases h2 : endedB K r.id <;> simp [List.filter, h1, h2]
theorem outT_len (day : Int) (K : List Dl) (L : List Rt) : (outT day K L).length ≤ L.length := by unfold outT; rw [List.length_map]; exact List.length_filter_le _ _
theorem outT_all (day : Int) (K : List Dl) : outT day K (grantsOf K) = rowsR day K := rfl
end Go.Proofs.YtchmplnkddgncaaDoor
