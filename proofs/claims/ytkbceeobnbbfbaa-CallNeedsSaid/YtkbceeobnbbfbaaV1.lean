/- Walks of small functions that look through lists: membership, equality; the bounds. -/
import Derived.Test.YtkbceeobnbbfbaaW5
set_option linter.unusedSimpArgs false
set_option linter.unusedVariables false
namespace Go.Proofs.Ytkbceeobnbbfbaa
open Go.RowKit CM
attribute [local go_sem] alloc_drewN setCell_drewN shape_drewN

def BoolEq (b : Bool) (w : World) (e : Ending) (w' : World) : Prop := e = .returned (.bool b) ∧ w = w'
def hasI (l : List Int) (n : Int) : Bool := decide (n ∈ l)
theorem hasI_no {l : List Int} {n : Int} (h : n ∉ l.take l.length) : hasI l n = false := by
  rw [List.take_length] at h; exact decide_eq_false h
theorem not_take_succ {α : Type} {l : List α} {n x : α} {k : Nat} (h : n ∉ l.take k) (hx : l[k]? = some x) (hne : x ≠ n) : n ∉ l.take (k + 1) := by
  rw [List.take_add_one, hx]
  intro hm
  rcases List.mem_append.1 hm with g | g
  · exact h g
  · simp at g; exact hne g.symm
theorem has37_any (l : List Int) (C : Option Addr) (cc : Nat) (n : Int) (w : World) {B : Nat} (hC : IntsAt w B C l) (hl : l.length ≤ 9223372036854775807) :
    Calls Try.prog 26 #[.slice C l.length cc, .int .i64 n] w (BoolEq (hasI l n) w) := by
  go_enter Try.func26, Try.ntmps26
  go_wp2_with fail
  go_loop [5] (fun i => ∃ k : Nat, k ≤ l.length ∧ i = .int .i64 k ∧ Hid (n ∉ l.take k)) (fun i => l.length - (intOf i).toNat)
  case atStart => exact ⟨0, Nat.zero_le _, rfl, by show _ ∉ _; simp⟩
  case round =>
    obtain ⟨k, hk, rfl, hn⟩ := hrel
    by_cases hlt : k < l.length
    · obtain ⟨x, hx⟩ : ∃ x, l[k]? = some x := ⟨_, List.getElem?_eq_getElem hlt⟩
      obtain ⟨b, off, rfl, hb, c0⟩ := hC.at_ hx
      by_cases g : x = n
      · have hF : Hid (hasI l n = true) := decide_eq_true (g ▸ List.mem_of_getElem? hx)
        have g1 : (x == n) = true := by simpa using g
        clear hx g
        go_wp2_with fail
        go_ret
        exact ⟨ret_bool hF.out.symm, rfl⟩
      · have hN : Hid (n ∉ l.take (k + 1)) := not_take_succ hn.out hx g
        have g1 : (x == n) = false := by simpa using g
        clear hx
        go_wp2_with fail
        go_round
        case rel => exact ⟨k + 1, by omega, by go_num, hN⟩
        case measure => simp [intOf]; omega
    · have hke : k = l.length := by omega
      subst hke
      have hF : Hid (hasI l n = false) := hasI_no hn.out
      go_wp2_with fail
      go_ret
      exact ⟨ret_bool hF.out.symm, rfl⟩
/-- The index of a number, or -1. -/
def IdxIs (l : List Int) (n : Int) (w : World) (e : Ending) (w' : World) : Prop := ∃ i : Int, e = .returned (.int .i64 i) ∧ w = w' ∧ (decide (0 ≤ i) = hasI l n)
theorem index_any (l : List Int) (C : Option Addr) (cc : Nat) (n : Int) (w : World) {B : Nat} (hC : IntsAt w B C l) (hl : l.length ≤ 9223372036854775807) :
    Calls Try.prog 43 #[.slice C l.length cc, .int .i64 n] w (IdxIs l n w) := by
  go_enter Try.func43, Try.ntmps43
  go_wp2_with fail
  go_loop [8] (fun i => ∃ k : Nat, k ≤ l.length ∧ i = .int .i64 k ∧ Hid (n ∉ l.take k)) (fun i => l.length - (intOf i).toNat)
  case atStart => exact ⟨0, Nat.zero_le _, rfl, by show _ ∉ _; simp⟩
  case round =>
    obtain ⟨k, hk, rfl, hn⟩ := hrel
    by_cases hlt : k < l.length
    · obtain ⟨x, hx⟩ : ∃ x, l[k]? = some x := ⟨_, List.getElem?_eq_getElem hlt⟩
      obtain ⟨b, off, rfl, hb, c0⟩ := hC.at_ hx
      by_cases g : x = n
      · have hF : Hid (hasI l n = true) := decide_eq_true (g ▸ List.mem_of_getElem? hx)
        have g1 : (n == x) = true := by simpa using g.symm
        clear hx g
        go_wp2_with fail
        go_ret
        exact ⟨k, rfl, rfl, by rw [hF.out]; simp⟩
      · have hN : Hid (n ∉ l.take (k + 1)) := not_take_succ hn.out hx g
        have g1 : (n == x) = false := by simpa using fun e => g e.symm
        clear hx
        go_wp2_with fail
        go_round
        case rel => exact ⟨k + 1, by omega, by go_num, hN⟩
        case measure => simp [intOf]; omega
    · have hke : k = l.length := by omega
      subst hke
      have hF : Hid (hasI l n = false) := hasI_no hn.out
      go_wp2_with fail
      go_ret
      exact ⟨-1, rfl, rfl, by rw [hF.out]; rfl⟩
theorem contains_any (l : List Int) (C : Option Addr) (cc : Nat) (n : Int) (w : World) {B : Nat} (hC : IntsAt w B C l) (hl : l.length ≤ 9223372036854775807) :
    Calls Try.prog 29 #[.slice C l.length cc, .int .i64 n] w (BoolEq (hasI l n) w) := by
  have K1 := Lib.hid (fun wx (hq : IntsAt wx B C l) => index_any l C cc n wx hq hl)
  go_enter Try.func29, Try.ntmps29
  go_wp2_with (first | (go_at_call 43; ((with_reducible refine (K1.out _ hC).mono ?_); rintro e1 w1 ⟨i, rfl, rfl, hi⟩; have hi := Lib.hid hi)) | fail)
  go_ret
  exact ⟨rfl, rfl⟩
theorem radd_any (a b : Int) (w : World) (ha : In64 a) (hb : In64 b) : Calls Try.prog 47 #[.int .i64 a, .int .i64 b] w (IntIs (satA a b) w) := by
  obtain ⟨a1, a2⟩ := ha
  obtain ⟨b1, b2⟩ := hb
  have H : Hid (satA a b = if 0 < b ∧ 9223372036854775807 - b < a then 9223372036854775807 else if b < 0 ∧ a < -9223372036854775808 - b then -9223372036854775808 else a + b) := rfl
  by_cases g1 : 0 < b
  · by_cases g2 : 9223372036854775807 - b < a
    · have H : Hid (satA a b = 9223372036854775807) := by show _ = _; rw [H.out, if_pos ⟨g1, g2⟩]
      go_enter Try.func47, Try.ntmps47
      go_wp2_with fail
      go_ret
      exact ⟨ret_int H.out.symm, rfl⟩
    · have H : Hid (satA a b = a + b) := by show _ = _; rw [H.out, if_neg (fun h => g2 h.2), if_neg (by omega)]
      go_enter Try.func47, Try.ntmps47
      go_wp2_with fail
      go_ret
      exact ⟨ret_int H.out.symm, rfl⟩
  · by_cases g3 : b < 0
    · by_cases g4 : a < -9223372036854775808 - b
      · have H : Hid (satA a b = -9223372036854775808) := by show _ = _; rw [H.out, if_neg (fun h => g1 h.1), if_pos ⟨g3, g4⟩]
        go_enter Try.func47, Try.ntmps47
        go_wp2_with fail
        go_ret
        exact ⟨ret_int H.out.symm, rfl⟩
      · have H : Hid (satA a b = a + b) := by show _ = _; rw [H.out, if_neg (fun h => g1 h.1), if_neg (fun h => g4 h.2)]
        go_enter Try.func47, Try.ntmps47
        go_wp2_with fail
        go_ret
        exact ⟨ret_int H.out.symm, rfl⟩
    · have H : Hid (satA a b = a + b) := by show _ = _; rw [H.out, if_neg (fun h => g1 h.1), if_neg (fun h => g3 h.1)]
      go_enter Try.func47, Try.ntmps47
      go_wp2_with fail
      go_ret
      exact ⟨ret_int H.out.symm, rfl⟩
end Go.Proofs.Ytkbceeobnbbfbaa
