/- Walks of small functions that look through lists: membership, equality; the bounds. -/
import Derived.Test.YthoigjkelinjhaaW5
set_option linter.unusedSimpArgs false
set_option linter.unusedVariables false
namespace Go.Proofs.Ythoigjkelinjhaa
open Go.RowKit CM
attribute [local go_sem] alloc_drewN setCell_drewN shape_drewN

def BoolEq (b : Bool) (w : World) (e : Ending) (w' : World) : Prop := e = .returned (.bool b) ∧ w = w'
def hasI (l : List Int) (n : Int) : Bool := decide (n ∈ l)
theorem hasI_no {l : List Int} {n : Int} (h : n ∉ l.take l.length) : hasI l n = false := by
  rw [List.take_length] at h; exact decide_eq_false h
theorem not_take_succ {α : Type} {l : List α} {n x : α} {k : Nat} (h : n ∉ l.take k) (hx : l[k]? = some x) (hne : x ≠ n) : n ∉ l.take (k + 1) := by
  rw [List.take_add_one, hx]
  intro hm
  rcases List.mem_append.1 hm with g | g
  · exact h g
  · simp at g; exact hne g.symm
/-- The index of a number, or -1. -/
def IdxIs (l : List Int) (n : Int) (w : World) (e : Ending) (w' : World) : Prop := ∃ i : Int, e = .returned (.int .i64 i) ∧ w = w' ∧ (decide (0 ≤ i) = hasI l n)
theorem radd_any (a b : Int) (w : World) (ha : In64 a) (hb : In64 b) : Calls Try.prog 34 #[.int .i64 a, .int .i64 b] w (IntIs (satA a b) w) := by
  obtain ⟨a1, a2⟩ := ha
  obtain ⟨b1, b2⟩ := hb
  have H : Hid (satA a b = if 0 < b ∧ 9223372036854775807 - b < a then 9223372036854775807 else if b < 0 ∧ a < -9223372036854775808 - b then -9223372036854775808 else a + b) := rfl
  by_cases g1 : 0 < b
  · by_cases g2 : 9223372036854775807 - b < a
    · have H : Hid (satA a b = 9223372036854775807) := by show _ = _; rw [H.out, if_pos ⟨g1, g2⟩]
      go_enter Try.func34, Try.ntmps34
      go_wp2_with fail
      go_ret
      exact ⟨ret_int H.out.symm, rfl⟩
    · have H : Hid (satA a b = a + b) := by show _ = _; rw [H.out, if_neg (fun h => g2 h.2), if_neg (by omega)]
      go_enter Try.func34, Try.ntmps34
      go_wp2_with fail
      go_ret
      exact ⟨ret_int H.out.symm, rfl⟩
  · by_cases g3 : b < 0
    · by_cases g4 : a < -9223372036854775808 - b
      · have H : Hid (satA a b = -9223372036854775808) := by show _ = _; rw [H.out, if_neg (fun h => g1 h.1), if_pos ⟨g3, g4⟩]
        go_enter Try.func34, Try.ntmps34
        go_wp2_with fail
        go_ret
        exact ⟨ret_int H.out.symm, rfl⟩
      · have H : Hid (satA a b = a + b) := by show _ = _; rw [H.out, if_neg (fun h => g1 h.1), if_neg (fun h => g4 h.2)]
        go_enter Try.func34, Try.ntmps34
        go_wp2_with fail
        go_ret
        exact ⟨ret_int H.out.symm, rfl⟩
    · have H : Hid (satA a b = a + b) := by show _ = _; rw [H.out, if_neg (fun h => g1 h.1), if_neg (fun h => g3 h.1)]
      go_enter Try.func34, Try.ntmps34
      go_wp2_with fail
      go_ret
      exact ⟨ret_int H.out.symm, rfl⟩
end Go.Proofs.Ythoigjkelinjhaa
