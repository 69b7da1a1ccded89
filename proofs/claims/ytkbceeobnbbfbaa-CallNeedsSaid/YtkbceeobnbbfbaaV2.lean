/- Walks of the functions that compare lists. -/
import Derived.Test.YtkbceeobnbbfbaaW5
set_option linter.unusedSimpArgs false
set_option linter.unusedVariables false
namespace Go.Proofs.Ytkbceeobnbbfbaa
open Go.RowKit CM
attribute [local go_sem] alloc_drewN setCell_drewN shape_drewN

def SameL {α : Type} [DecidableEq α] (A B : List α) : Bool := decide (A = B)
theorem sameL_len {α : Type} [DecidableEq α] {A B : List α} (h : A.length ≠ B.length) : SameL A B = false := decide_eq_false (fun e => h (by rw [e]))
theorem sameL_no {α : Type} [DecidableEq α] {A B : List α} {k : Nat} {x y : α} (h1 : A[k]? = some x) (h2 : B[k]? = some y) (h : x ≠ y) : SameL A B = false :=
  decide_eq_false (fun e => h (by rw [e, h2] at h1; exact (Option.some.inj h1).symm))
theorem sameL_yes {α : Type} [DecidableEq α] {A B : List α} (hl : A.length = B.length) (h : A.take A.length = B.take A.length) : SameL A B = true := by
  rw [List.take_length, hl, List.take_length] at h; exact decide_eq_true h
theorem take_both {α : Type} {A B : List α} {k : Nat} {x : α} (h : A.take k = B.take k) (h1 : A[k]? = some x) (h2 : B[k]? = some x) : A.take (k + 1) = B.take (k + 1) := by
  rw [List.take_add_one, List.take_add_one, h, h1, h2]
def SameIs {α : Type} [DecidableEq α] (A B : List α) (w : World) (e : Ending) (w' : World) : Prop := e = .returned (.bool (SameL A B)) ∧ ∃ n, w' = w.drewN n
set_option maxHeartbeats 1000000 in
theorem sameInts_any (A E : List Int) (C D : Option Addr) (cc dc : Nat) (w : World) {B : Nat} (hC : IntsAt w B C A) (hD : IntsAt w B D E) (hl : A.length ≤ 9223372036854775807) (hl2 : E.length ≤ 9223372036854775807) :
    Calls Try.prog 12 #[.slice C A.length cc, .slice D E.length dc] w (SameIs A E w) := by
  by_cases hle : A.length = E.length
  case neg =>
    have Hn := Lib.hid (sameL_len hle)
    have hl1 : (A.length != E.length) = true := by simp; exact hle
    have hl2 : ((A.length : Int) != (E.length : Int)) = true := by simp; omega
    go_enter Try.func12, Try.ntmps12
    go_wp2_with fail
    go_ret
    exact ⟨ret_bool Hn.out.symm, 0, rfl⟩
  have Hl := Lib.hid hle
  rw [← hle]
  clear hle hl2
  go_enter Try.func12, Try.ntmps12
  go_wp2_with fail
  go_loopw [5] (fun i wr => ∃ k m : Nat, k ≤ A.length ∧ i = .int .i64 k ∧ Hid (A.take k = E.take k) ∧ wr = w.drewN m) (fun i _ => A.length - (intOf i).toNat)
  case atStart => exact ⟨0, 0, Nat.zero_le _, rfl, rfl, rfl⟩
  case round =>
    obtain ⟨k, m, hk, rfl, hm, hwr⟩ := hrel
    subst hwr
    by_cases hlt : k < A.length
    · obtain ⟨x, hx⟩ : ∃ x, A[k]? = some x := ⟨_, List.getElem?_eq_getElem hlt⟩
      obtain ⟨y, hy⟩ : ∃ y, E[k]? = some y := ⟨_, List.getElem?_eq_getElem (by have := Hl.out; omega)⟩
      obtain ⟨b, off, rfl, hb, c0⟩ := hC.at_ hx
      obtain ⟨b2, off2, rfl, hb2, d0⟩ := hD.at_ hy
      have hk0 : 0 ≤ (k : Int) ∧ (k : Int) < (A.length : Int) := by omega
      by_cases g : x = y
      · have hN : Hid (A.take (k + 1) = E.take (k + 1)) := take_both hm.out hx (g ▸ hy)
        have g1 : (x != y) = false := by simpa using g
        clear hx hy g
        go_upto_region 6 with fail
        go_quiet (fail)
        go_wp2_with fail
        go_roundw
        case rel => exact ⟨k + 1, _, by omega, by go_num, hN, rfl⟩
        case measure => simp [intOf]; omega
      · have hN : Hid (SameL A E = false) := sameL_no hx hy g
        have g1 : (x != y) = true := by simpa using g
        clear hx hy
        go_upto_region 6 with fail
        go_quiet (fail)
        go_wp2_with fail
        go_ret
        exact ⟨ret_bool hN.out.symm, _, World.drewN_drewN _ _ _⟩
    · have hke : k = A.length := by omega
      subst hke
      have hN : Hid (SameL A E = true) := sameL_yes Hl.out hm.out
      go_wp2_with fail
      go_ret
      exact ⟨ret_bool hN.out.symm, _, rfl⟩
set_option maxHeartbeats 1000000 in
theorem same38_any (A E : List (Int × Int)) (C D : Option Addr) (cc dc : Nat) (w : World) {B : Nat} (hC : PairsAt w B C A) (hD : PairsAt w B D E) (hl : A.length ≤ 9223372036854775807) (hl2 : E.length ≤ 9223372036854775807) :
    Calls Try.prog 15 #[.slice C A.length cc, .slice D E.length dc] w (SameIs A E w) := by
  by_cases hle : A.length = E.length
  case neg =>
    have Hn := Lib.hid (sameL_len hle)
    have hl1 : (A.length != E.length) = true := by simp; exact hle
    have hl2 : ((A.length : Int) != (E.length : Int)) = true := by simp; omega
    go_enter Try.func15, Try.ntmps15
    go_wp2_with fail
    go_ret
    exact ⟨ret_bool Hn.out.symm, 0, rfl⟩
  have Hl := Lib.hid hle
  rw [← hle]
  clear hle hl2
  go_enter Try.func15, Try.ntmps15
  go_wp2_with fail
  go_loopw [5] (fun i wr => ∃ k m : Nat, k ≤ A.length ∧ i = .int .i64 k ∧ Hid (A.take k = E.take k) ∧ wr = w.drewN m) (fun i _ => A.length - (intOf i).toNat)
  case atStart => exact ⟨0, 0, Nat.zero_le _, rfl, rfl, rfl⟩
  case round =>
    obtain ⟨k, m, hk, rfl, hm, hwr⟩ := hrel
    subst hwr
    by_cases hlt : k < A.length
    · obtain ⟨x, hx⟩ : ∃ x, A[k]? = some x := ⟨_, List.getElem?_eq_getElem hlt⟩
      obtain ⟨y, hy⟩ : ∃ y, E[k]? = some y := ⟨_, List.getElem?_eq_getElem (by have := Hl.out; omega)⟩
      obtain ⟨b, off, rfl, hb, c0, c1⟩ := hC.at_ hx
      obtain ⟨b2, off2, rfl, hb2, d0, d1⟩ := hD.at_ hy
      have hk0 : 0 ≤ (k : Int) ∧ (k : Int) < (A.length : Int) := by omega
      by_cases g : x = y
      · have hN : Hid (A.take (k + 1) = E.take (k + 1)) := take_both hm.out hx (g ▸ hy)
        have g1 : (x.1 == y.1) = true := by simp [g]
        have g2 : (x.2 == y.2) = true := by simp [g]
        clear hx hy g
        go_upto_region 6 with fail
        go_quiet (fail)
        go_wp2_with fail
        go_roundw
        case rel => exact ⟨k + 1, _, by omega, by go_num, hN, rfl⟩
        case measure => simp [intOf]; omega
      · have hN : Hid (SameL A E = false) := sameL_no hx hy g
        clear hx hy
        by_cases h1 : x.1 = y.1
        · have g1 : (x.1 == y.1) = true := by simp [h1]
          have g2 : (x.2 == y.2) = false := by
            rw [Bool.eq_false_iff]; intro h; simp at h; exact g (Prod.ext h1 h)
          clear h1 g
          go_upto_region 6 with fail
          go_quiet (fail)
          go_wp2_with fail
          go_ret
          exact ⟨ret_bool hN.out.symm, _, World.drewN_drewN _ _ _⟩
        · have g1 : (x.1 == y.1) = false := by simpa using h1
          clear h1 g
          go_upto_region 6 with fail
          go_quiet (fail)
          go_wp2_with fail
          go_ret
          exact ⟨ret_bool hN.out.symm, _, World.drewN_drewN _ _ _⟩
    · have hke : k = A.length := by omega
      subst hke
      have hN : Hid (SameL A E = true) := sameL_yes Hl.out hm.out
      go_wp2_with fail
      go_ret
      exact ⟨ret_bool hN.out.symm, _, rfl⟩
set_option maxHeartbeats 1000000 in
theorem same37_any (A E : List (Int × Int)) (C D : Option Addr) (cc dc : Nat) (w : World) {B : Nat} (hC : PairsAt w B C A) (hD : PairsAt w B D E) (hl : A.length ≤ 9223372036854775807) (hl2 : E.length ≤ 9223372036854775807) :
    Calls Try.prog 24 #[.slice C A.length cc, .slice D E.length dc] w (SameIs A E w) := by
  by_cases hle : A.length = E.length
  case neg =>
    have Hn := Lib.hid (sameL_len hle)
    have hl1 : (A.length != E.length) = true := by simp; exact hle
    have hl2 : ((A.length : Int) != (E.length : Int)) = true := by simp; omega
    go_enter Try.func24, Try.ntmps24
    go_wp2_with fail
    go_ret
    exact ⟨ret_bool Hn.out.symm, 0, rfl⟩
  have Hl := Lib.hid hle
  rw [← hle]
  clear hle hl2
  go_enter Try.func24, Try.ntmps24
  go_wp2_with fail
  go_loopw [5] (fun i wr => ∃ k m : Nat, k ≤ A.length ∧ i = .int .i64 k ∧ Hid (A.take k = E.take k) ∧ wr = w.drewN m) (fun i _ => A.length - (intOf i).toNat)
  case atStart => exact ⟨0, 0, Nat.zero_le _, rfl, rfl, rfl⟩
  case round =>
    obtain ⟨k, m, hk, rfl, hm, hwr⟩ := hrel
    subst hwr
    by_cases hlt : k < A.length
    · obtain ⟨x, hx⟩ : ∃ x, A[k]? = some x := ⟨_, List.getElem?_eq_getElem hlt⟩
      obtain ⟨y, hy⟩ : ∃ y, E[k]? = some y := ⟨_, List.getElem?_eq_getElem (by have := Hl.out; omega)⟩
      obtain ⟨b, off, rfl, hb, c0, c1⟩ := hC.at_ hx
      obtain ⟨b2, off2, rfl, hb2, d0, d1⟩ := hD.at_ hy
      have hk0 : 0 ≤ (k : Int) ∧ (k : Int) < (A.length : Int) := by omega
      by_cases g : x = y
      · have hN : Hid (A.take (k + 1) = E.take (k + 1)) := take_both hm.out hx (g ▸ hy)
        have g1 : (x.1 == y.1) = true := by simp [g]
        have g2 : (x.2 == y.2) = true := by simp [g]
        clear hx hy g
        go_upto_region 6 with fail
        go_quiet (fail)
        go_wp2_with fail
        go_roundw
        case rel => exact ⟨k + 1, _, by omega, by go_num, hN, rfl⟩
        case measure => simp [intOf]; omega
      · have hN : Hid (SameL A E = false) := sameL_no hx hy g
        clear hx hy
        by_cases h1 : x.1 = y.1
        · have g1 : (x.1 == y.1) = true := by simp [h1]
          have g2 : (x.2 == y.2) = false := by
            rw [Bool.eq_false_iff]; intro h; simp at h; exact g (Prod.ext h1 h)
          clear h1 g
          go_upto_region 6 with fail
          go_quiet (fail)
          go_wp2_with fail
          go_ret
          exact ⟨ret_bool hN.out.symm, _, World.drewN_drewN _ _ _⟩
        · have g1 : (x.1 == y.1) = false := by simpa using h1
          clear h1 g
          go_upto_region 6 with fail
          go_quiet (fail)
          go_wp2_with fail
          go_ret
          exact ⟨ret_bool hN.out.symm, _, World.drewN_drewN _ _ _⟩
    · have hke : k = A.length := by omega
      subst hke
      have hN : Hid (SameL A E = true) := sameL_yes Hl.out hm.out
      go_wp2_with fail
      go_ret
      exact ⟨ret_bool hN.out.symm, _, rfl⟩
end Go.Proofs.Ytkbceeobnbbfbaa
