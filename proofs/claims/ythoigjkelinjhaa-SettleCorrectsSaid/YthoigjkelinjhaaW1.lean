/- Walks of the small functions: a place's index, sums, the least number, membership. -/
import Derived.Test.YthoigjkelinjhaaPMem
import Derived.Test.YthoigjkelinjhaaArr
import Derived.Test.YthoigjkelinjhaaCR
import Derived.Test.YthoigjkelinjhaaRows
set_option linter.unusedSimpArgs false
set_option linter.unusedVariables false
namespace Go.Proofs.Ythoigjkelinjhaa
open Go.RowKit CM
attribute [local go_sem] alloc_drewN setCell_drewN shape_drewN

def BoolIs (b : Bool) (w : World) (e : Ending) (w' : World) : Prop := e = .returned (.bool b) ∧ Below w.heap.size w w'
def IntIs (n : Int) (w : World) (e : Ending) (w' : World) : Prop := e = .returned (.int .i64 n) ∧ w = w'
theorem isPl_neg {pl : Pl} {p : Int} (h : ¬ 0 ≤ p) : isPl pl p = false := by unfold isPl; rw [decide_eq_false h]; rfl
theorem isPl_pos {pl : Pl} {p : Int} (h : 0 ≤ p) : isPl pl p = decide (p < pl.length) := by unfold isPl; rw [decide_eq_true h]; rfl
theorem isPlace_any (X : Bas) (pl : Pl) (p : Int) (w : World) (hl : pl.length ≤ 9223372036854775807) : Calls Try.prog 39 #[.agg #[.string X.nm, .slice X.a1 X.l1 X.c1, .int .i64 X.cl, .slice X.P pl.length X.cP, .slice X.a4 X.l4 X.c4, .slice X.a5 X.l5 X.c5, .slice X.a6 X.l6 X.c6, .slice X.a7 X.l7 X.c7, .slice X.a8 X.l8 X.c8, .slice X.a9 X.l9 X.c9, .int .i64 X.er], .int .i64 p] w (BoolIs (isPl pl p) w) := by
  by_cases h : 0 ≤ p
  · have H := Lib.hid (isPl_pos (pl := pl) h)
    go_enter Try.func39, Try.ntmps39
    go_wp2_with fail
    go_ret
    exact ⟨ret_bool H.out.symm, (Below.refl _ _).alloc (Nat.le_refl _) _⟩
  · have H := Lib.hid (isPl_neg (pl := pl) h)
    go_enter Try.func39, Try.ntmps39
    go_wp2_with fail
    go_ret
    exact ⟨ret_bool H.out.symm, (Below.refl _ _).alloc (Nat.le_refl _) _⟩
def In64 (a : Int) : Prop := -9223372036854775808 ≤ a ∧ a ≤ 9223372036854775807
theorem add_any (a b : Int) (w : World) (ha : In64 a) (hb : In64 b) : Calls Try.prog 38 #[.int .i64 a, .int .i64 b] w (IntIs (satA a b) w) := by
  obtain ⟨a1, a2⟩ := ha
  obtain ⟨b1, b2⟩ := hb
  have H : Hid (satA a b = if 0 < b ∧ 9223372036854775807 - b < a then 9223372036854775807 else if b < 0 ∧ a < -9223372036854775808 - b then -9223372036854775808 else a + b) := rfl
  by_cases g1 : 0 < b
  · by_cases g2 : 9223372036854775807 - b < a
    · have H : Hid (satA a b = 9223372036854775807) := by show _ = _; rw [H.out, if_pos ⟨g1, g2⟩]
      go_enter Try.func38, Try.ntmps38
      go_wp2_with fail
      go_ret
      exact ⟨ret_int H.out.symm, rfl⟩
    · have H : Hid (satA a b = a + b) := by show _ = _; rw [H.out, if_neg (fun h => g2 h.2), if_neg (by omega)]
      go_enter Try.func38, Try.ntmps38
      go_wp2_with fail
      go_ret
      exact ⟨ret_int H.out.symm, rfl⟩
  · by_cases g3 : b < 0
    · by_cases g4 : a < -9223372036854775808 - b
      · have H : Hid (satA a b = -9223372036854775808) := by show _ = _; rw [H.out, if_neg (fun h => g1 h.1), if_pos ⟨g3, g4⟩]
        go_enter Try.func38, Try.ntmps38
        go_wp2_with fail
        go_ret
        exact ⟨ret_int H.out.symm, rfl⟩
      · have H : Hid (satA a b = a + b) := by show _ = _; rw [H.out, if_neg (fun h => g1 h.1), if_neg (fun h => g4 h.2)]
        go_enter Try.func38, Try.ntmps38
        go_wp2_with fail
        go_ret
        exact ⟨ret_int H.out.symm, rfl⟩
    · have H : Hid (satA a b = a + b) := by show _ = _; rw [H.out, if_neg (fun h => g1 h.1), if_neg (fun h => g3 h.1)]
      go_enter Try.func38, Try.ntmps38
      go_wp2_with fail
      go_ret
      exact ⟨ret_int H.out.symm, rfl⟩
/-- The least of a number and a list. -/
def leastI (n : Int) (l : List Int) : Int := l.foldl (fun a x => if x < a then x else a) n
theorem leastI_snoc (n : Int) (l : List Int) (k : Nat) (x : Int) (h : l[k]? = some x) : leastI n (l.take (k + 1)) = if x < leastI n (l.take k) then x else leastI n (l.take k) := by
  unfold leastI
  rw [List.take_add_one, h, List.foldl_append]; rfl
theorem least_any (n : Int) (C : Option Addr) (cc : Nat) (l : List Int) (w : World) {B : Nat} (hC : IntsAt w B C l) (hl : l.length ≤ 9223372036854775807) : Calls Try.prog 23 #[.int .i64 n, .slice C l.length cc] w (IntIs (leastI n l) w) := by
  go_enter Try.func23, Try.ntmps23
  go_wp2_with fail
  go_loop [0, 9] (fun a i => ∃ (k : Nat) (m : Int), k ≤ l.length ∧ i = .int .i64 k ∧ a = .int .i64 m ∧ Hid (m = leastI n (l.take k))) (fun _ i => l.length - (intOf i).toNat)
  case atStart => exact ⟨0, n, Nat.zero_le _, rfl, rfl, rfl⟩
  case round =>
    obtain ⟨k, m, hk, rfl, rfl, hm⟩ := hrel
    by_cases hlt : k < l.length
    · obtain ⟨x, hx⟩ : ∃ x, l[k]? = some x := ⟨_, List.getElem?_eq_getElem hlt⟩
      obtain ⟨b, off, rfl, hb, c0⟩ := hC.at_ hx
      have hs := leastI_snoc n l k x hx
      rw [← hm.out] at hs
      clear hx hm
      by_cases g : x < m
      · have hs : Hid (x = leastI n (l.take (k + 1))) := by show _ = _; rw [hs, if_pos g]
        have e1 : (if x < m then x else m) = x := if_pos g
        have e2 : min m x = x := by omega
        go_wp2_with fail
        clear e1 e2
        go_round
        case rel => exact ⟨k + 1, x, by omega, by go_num, rfl, hs⟩
        case measure => simp [intOf]; omega
      · have hs : Hid (m = leastI n (l.take (k + 1))) := by show _ = _; rw [hs, if_neg g]
        have e1 : (if x < m then x else m) = m := if_neg g
        have e2 : min m x = m := by omega
        go_wp2_with fail
        clear e1 e2
        go_round
        case rel => exact ⟨k + 1, m, by omega, by go_num, rfl, hs⟩
        case measure => simp [intOf]; omega
    · have hke : k = l.length := by omega
      have hmE : Hid (m = leastI n l) := by show _ = _; rw [hm.out, hke, List.take_length]
      clear hm
      subst hke
      go_wp2_with fail
      go_ret
      exact ⟨ret_int hmE.out, rfl⟩
end Go.Proofs.Ythoigjkelinjhaa
