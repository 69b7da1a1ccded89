/- Walks of Same, same, many. (Printed by gen_rw13.py.) -/
import Derived.Deep.Cut
import Derived.Test.YtchmplnkddgncaaDoorRW12
set_option linter.unusedSimpArgs false
set_option linter.unusedVariables false
namespace Go.Proofs.YtchmplnkddgncaaDoor
open Go.RowKit CM RG
attribute [local go_sem] alloc_drewN setCell_drewN shape_drewN

def SameL {α : Type} [DecidableEq α] (A B : List α) : Bool := decide (A = B)
theorem sameL_len {α : Type} [DecidableEq α] {A B : List α} (h : A.length ≠ B.length) : SameL A B = false := decide_eq_false (fun e => h (by rw [e]))
theorem sameL_no {α : Type} [DecidableEq α] {A B : List α} {k : Nat} {x y : α} (h1 : A[k]? = some x) (h2 : B[k]? = some y) (h : x ≠ y) : SameL A B = false :=
  decide_eq_false (fun e => h (by rw [e, h2] at h1; exact (Option.some.inj h1).symm))
theorem sameL_yes {α : Type} [DecidableEq α] {A B : List α} (hl : A.length = B.length) (h : A.take A.length = B.take A.length) : SameL A B = true := by
  rw [List.take_length, hl, List.take_length] at h; exact decide_eq_true h
theorem take_both {α : Type} {A B : List α} {k : Nat} {x : α} (h : A.take k = B.take k) (h1 : A[k]? = some x) (h2 : B[k]? = some x) : A.take (k + 1) = B.take (k + 1) := by
  rw [List.take_add_one, List.take_add_one, h, h1, h2]
def SameIs {α : Type} [DecidableEq α] (A B : List α) (w : World) (e : Ending) (w' : World) : Prop := e = .returned (.bool (SameL A B)) ∧ ∃ n, w' = w.drewN n
set_option maxHeartbeats 4000000 in
theorem same_any (A E : List Rt) (C D : Option Addr) (cc dc : Nat) (w : World) {B : Nat} (hC : RightsAt w B C A) (hD : RightsAt w B D E) (hl : A.length ≤ 9223372036854775807) (hl2 : E.length ≤ 9223372036854775807) :
    Calls Tryd.prog 18 #[.slice C A.length cc, .slice D E.length dc] w (SameIs A E w) := by
  by_cases hle : A.length = E.length
  case neg =>
    have Hn := Lib.hid (sameL_len hle)
    have hl1 : (A.length != E.length) = true := by simp; exact hle
    have hl2 : ((A.length : Int) != (E.length : Int)) = true := by simp; omega
    go_enter Tryd.func18, Tryd.ntmps18
    go_wp2_with fail
    go_ret
    exact ⟨ret_bool Hn.out.symm, 0, rfl⟩
  have Hl := Lib.hid hle
  rw [← hle]
  clear hle hl2
  go_enter Tryd.func18, Tryd.ntmps18
  go_wp2_with fail
  go_loopw [5] (fun i wr => ∃ k m : Nat, k ≤ A.length ∧ i = .int .i64 k ∧ Hid (A.take k = E.take k) ∧ wr = w.drewN m) (fun i _ => A.length - (intOf i).toNat)
  case atStart => exact ⟨0, 0, Nat.zero_le _, rfl, rfl, rfl⟩
  case round =>
    obtain ⟨k, m, hk, rfl, hm, hwr⟩ := hrel
    subst hwr
    by_cases hlt : k < A.length
    · obtain ⟨x, hx⟩ : ∃ x, A[k]? = some x := ⟨_, List.getElem?_eq_getElem hlt⟩
      obtain ⟨y, hy⟩ : ∃ y, E[k]? = some y := ⟨_, List.getElem?_eq_getElem (by have := Hl.out; omega)⟩
      obtain ⟨b, off, rfl, hb, c0, c1, c2, c3, c4, c5, c6, c7, c8⟩ := hC.at_ hx
      obtain ⟨b2, off2, rfl, hb2, d0, d1, d2, d3, d4, d5, d6, d7, d8⟩ := hD.at_ hy
      have hk0 : 0 ≤ (k : Int) ∧ (k : Int) < (A.length : Int) := by omega
      by_cases g : x = y
      · subst g
        have hN : Hid (A.take (k + 1) = E.take (k + 1)) := take_both hm.out hx hy
        clear hx hy
        go_upto_region 6 with fail
        go_quiet (fail)
        go_wp2_with fail
        go_roundw
        case rel => exact ⟨k + 1, _, by omega, by go_num, hN, rfl⟩
        case measure => simp [intOf]; omega
      · by_cases e0 : x.id = y.id
        case neg =>
          have hN : Hid (SameL A E = false) := sameL_no hx hy g
          have q0 : (x.id == y.id) = false := by simpa using e0
          clear e0
          clear hx hy g
          go_upto_region 6 with fail
          go_quiet (fail)
          go_wp2_with fail
          go_ret
          exact ⟨ret_bool hN.out.symm, _, World.drewN_drewN _ _ _⟩
        by_cases e1 : x.owner = y.owner
        case neg =>
          have hN : Hid (SameL A E = false) := sameL_no hx hy g
          have q0 : (x.id == y.id) = true := by simpa using e0
          have q1 : (x.owner == y.owner) = false := by simpa using e1
          clear e0
          clear e1
          clear hx hy g
          go_upto_region 6 with fail
          go_quiet (fail)
          go_wp2_with fail
          go_ret
          exact ⟨ret_bool hN.out.symm, _, World.drewN_drewN _ _ _⟩
        by_cases e2 : x.date = y.date
        case neg =>
          have hN : Hid (SameL A E = false) := sameL_no hx hy g
          have q0 : (x.id == y.id) = true := by simpa using e0
          have q1 : (x.owner == y.owner) = true := by simpa using e1
          have q2 : (x.date == y.date) = false := by simpa using e2
          clear e0
          clear e1
          clear e2
          clear hx hy g
          go_upto_region 6 with fail
          go_quiet (fail)
          go_wp2_with fail
          go_ret
          exact ⟨ret_bool hN.out.symm, _, World.drewN_drewN _ _ _⟩
        by_cases e3 : x.place = y.place
        case neg =>
          have hN : Hid (SameL A E = false) := sameL_no hx hy g
          have q0 : (x.id == y.id) = true := by simpa using e0
          have q1 : (x.owner == y.owner) = true := by simpa using e1
          have q2 : (x.date == y.date) = true := by simpa using e2
          have q3 : (x.place == y.place) = false := by simpa using e3
          clear e0
          clear e1
          clear e2
          clear e3
          clear hx hy g
          go_upto_region 6 with fail
          go_quiet (fail)
          go_wp2_with fail
          go_ret
          exact ⟨ret_bool hN.out.symm, _, World.drewN_drewN _ _ _⟩
        by_cases e4 : x.rate = y.rate
        case neg =>
          have hN : Hid (SameL A E = false) := sameL_no hx hy g
          have q0 : (x.id == y.id) = true := by simpa using e0
          have q1 : (x.owner == y.owner) = true := by simpa using e1
          have q2 : (x.date == y.date) = true := by simpa using e2
          have q3 : (x.place == y.place) = true := by simpa using e3
          have q4 : (x.rate == y.rate) = false := by simpa using e4
          clear e0
          clear e1
          clear e2
          clear e3
          clear e4
          clear hx hy g
          go_upto_region 6 with fail
          go_quiet (fail)
          go_wp2_with fail
          go_ret
          exact ⟨ret_bool hN.out.symm, _, World.drewN_drewN _ _ _⟩
        by_cases e5 : x.from1 = y.from1
        case neg =>
          have hN : Hid (SameL A E = false) := sameL_no hx hy g
          have q0 : (x.id == y.id) = true := by simpa using e0
          have q1 : (x.owner == y.owner) = true := by simpa using e1
          have q2 : (x.date == y.date) = true := by simpa using e2
          have q3 : (x.place == y.place) = true := by simpa using e3
          have q4 : (x.rate == y.rate) = true := by simpa using e4
          have q5 : (x.from1 == y.from1) = false := by simpa using e5
          clear e0
          clear e1
          clear e2
          clear e3
          clear e4
          clear e5
          clear hx hy g
          go_upto_region 6 with fail
          go_quiet (fail)
          go_wp2_with fail
          go_ret
          exact ⟨ret_bool hN.out.symm, _, World.drewN_drewN _ _ _⟩
        by_cases e6 : x.until1 = y.until1
        case neg =>
          have hN : Hid (SameL A E = false) := sameL_no hx hy g
          have q0 : (x.id == y.id) = true := by simpa using e0
          have q1 : (x.owner == y.owner) = true := by simpa using e1
          have q2 : (x.date == y.date) = true := by simpa using e2
          have q3 : (x.place == y.place) = true := by simpa using e3
          have q4 : (x.rate == y.rate) = true := by simpa using e4
          have q5 : (x.from1 == y.from1) = true := by simpa using e5
          have q6 : (x.until1 == y.until1) = false := by simpa using e6
          clear e0
          clear e1
          clear e2
          clear e3
          clear e4
          clear e5
          clear e6
          clear hx hy g
          go_upto_region 6 with fail
          go_quiet (fail)
          go_wp2_with fail
          go_ret
          exact ⟨ret_bool hN.out.symm, _, World.drewN_drewN _ _ _⟩
        by_cases e7 : x.back = y.back
        case neg =>
          have hN : Hid (SameL A E = false) := sameL_no hx hy g
          have q0 : (x.id == y.id) = true := by simpa using e0
          have q1 : (x.owner == y.owner) = true := by simpa using e1
          have q2 : (x.date == y.date) = true := by simpa using e2
          have q3 : (x.place == y.place) = true := by simpa using e3
          have q4 : (x.rate == y.rate) = true := by simpa using e4
          have q5 : (x.from1 == y.from1) = true := by simpa using e5
          have q6 : (x.until1 == y.until1) = true := by simpa using e6
          have q7 : (x.back == y.back) = false := by simpa using e7
          clear e0
          clear e1
          clear e2
          clear e3
          clear e4
          clear e5
          clear e6
          clear e7
          clear hx hy g
          go_upto_region 6 with fail
          go_quiet (fail)
          go_wp2_with fail
          go_ret
          exact ⟨ret_bool hN.out.symm, _, World.drewN_drewN _ _ _⟩
        by_cases e8 : x.backTo = y.backTo
        case neg =>
          have hN : Hid (SameL A E = false) := sameL_no hx hy g
          have q0 : (x.id == y.id) = true := by simpa using e0
          have q1 : (x.owner == y.owner) = true := by simpa using e1
          have q2 : (x.date == y.date) = true := by simpa using e2
          have q3 : (x.place == y.place) = true := by simpa using e3
          have q4 : (x.rate == y.rate) = true := by simpa using e4
          have q5 : (x.from1 == y.from1) = true := by simpa using e5
          have q6 : (x.until1 == y.until1) = true := by simpa using e6
          have q7 : (x.back == y.back) = true := by simpa using e7
          have q8 : (x.backTo == y.backTo) = false := by simpa using e8
          clear e0
          clear e1
          clear e2
          clear e3
          clear e4
          clear e5
          clear e6
          clear e7
          clear e8
          clear hx hy g
          go_upto_region 6 with fail
          go_quiet (fail)
          go_wp2_with fail
          go_ret
          exact ⟨ret_bool hN.out.symm, _, World.drewN_drewN _ _ _⟩
        exact absurd (by cases x; cases y; simp_all) g
    · have hke : k = A.length := by omega
      subst hke
      have hN : Hid (SameL A E = true) := sameL_yes Hl.out hm.out
      go_wp2_with fail
      go_ret
      exact ⟨ret_bool hN.out.symm, _, rfl⟩
set_option maxHeartbeats 4000000 in
theorem rsame_any (A E : List Rt) (C D : Option Addr) (cc dc : Nat) (w : World) {B : Nat} (hC : RightsAt w B C A) (hD : RightsAt w B D E) (hl : A.length ≤ 9223372036854775807) (hl2 : E.length ≤ 9223372036854775807) :
    Calls Tryd.prog 13 #[.slice C A.length cc, .slice D E.length dc] w (SameIs A E w) := by
  by_cases hle : A.length = E.length
  case neg =>
    have Hn := Lib.hid (sameL_len hle)
    have hl1 : (A.length != E.length) = true := by simp; exact hle
    have hl2 : ((A.length : Int) != (E.length : Int)) = true := by simp; omega
    go_enter Tryd.func13, Tryd.ntmps13
    go_wp2_with fail
    go_ret
    exact ⟨ret_bool Hn.out.symm, 0, rfl⟩
  have Hl := Lib.hid hle
  rw [← hle]
  clear hle hl2
  go_enter Tryd.func13, Tryd.ntmps13
  go_wp2_with fail
  go_loopw [5] (fun i wr => ∃ k m : Nat, k ≤ A.length ∧ i = .int .i64 k ∧ Hid (A.take k = E.take k) ∧ wr = w.drewN m) (fun i _ => A.length - (intOf i).toNat)
  case atStart => exact ⟨0, 0, Nat.zero_le _, rfl, rfl, rfl⟩
  case round =>
    obtain ⟨k, m, hk, rfl, hm, hwr⟩ := hrel
    subst hwr
    by_cases hlt : k < A.length
    · obtain ⟨x, hx⟩ : ∃ x, A[k]? = some x := ⟨_, List.getElem?_eq_getElem hlt⟩
      obtain ⟨y, hy⟩ : ∃ y, E[k]? = some y := ⟨_, List.getElem?_eq_getElem (by have := Hl.out; omega)⟩
      obtain ⟨b, off, rfl, hb, c0, c1, c2, c3, c4, c5, c6, c7, c8⟩ := hC.at_ hx
      obtain ⟨b2, off2, rfl, hb2, d0, d1, d2, d3, d4, d5, d6, d7, d8⟩ := hD.at_ hy
      have hk0 : 0 ≤ (k : Int) ∧ (k : Int) < (A.length : Int) := by omega
      by_cases g : x = y
      · subst g
        have hN : Hid (A.take (k + 1) = E.take (k + 1)) := take_both hm.out hx hy
        clear hx hy
        go_upto_region 6 with fail
        go_quiet (fail)
        go_wp2_with fail
        go_roundw
        case rel => exact ⟨k + 1, _, by omega, by go_num, hN, rfl⟩
        case measure => simp [intOf]; omega
      · by_cases e0 : x.id = y.id
        case neg =>
          have hN : Hid (SameL A E = false) := sameL_no hx hy g
          have q0 : (x.id == y.id) = false := by simpa using e0
          clear e0
          clear hx hy g
          go_upto_region 6 with fail
          go_quiet (fail)
          go_wp2_with fail
          go_ret
          exact ⟨ret_bool hN.out.symm, _, World.drewN_drewN _ _ _⟩
        by_cases e1 : x.owner = y.owner
        case neg =>
          have hN : Hid (SameL A E = false) := sameL_no hx hy g
          have q0 : (x.id == y.id) = true := by simpa using e0
          have q1 : (x.owner == y.owner) = false := by simpa using e1
          clear e0
          clear e1
          clear hx hy g
          go_upto_region 6 with fail
          go_quiet (fail)
          go_wp2_with fail
          go_ret
          exact ⟨ret_bool hN.out.symm, _, World.drewN_drewN _ _ _⟩
        by_cases e2 : x.date = y.date
        case neg =>
          have hN : Hid (SameL A E = false) := sameL_no hx hy g
          have q0 : (x.id == y.id) = true := by simpa using e0
          have q1 : (x.owner == y.owner) = true := by simpa using e1
          have q2 : (x.date == y.date) = false := by simpa using e2
          clear e0
          clear e1
          clear e2
          clear hx hy g
          go_upto_region 6 with fail
          go_quiet (fail)
          go_wp2_with fail
          go_ret
          exact ⟨ret_bool hN.out.symm, _, World.drewN_drewN _ _ _⟩
        by_cases e3 : x.place = y.place
        case neg =>
          have hN : Hid (SameL A E = false) := sameL_no hx hy g
          have q0 : (x.id == y.id) = true := by simpa using e0
          have q1 : (x.owner == y.owner) = true := by simpa using e1
          have q2 : (x.date == y.date) = true := by simpa using e2
          have q3 : (x.place == y.place) = false := by simpa using e3
          clear e0
          clear e1
          clear e2
          clear e3
          clear hx hy g
          go_upto_region 6 with fail
          go_quiet (fail)
          go_wp2_with fail
          go_ret
          exact ⟨ret_bool hN.out.symm, _, World.drewN_drewN _ _ _⟩
        by_cases e4 : x.rate = y.rate
        case neg =>
          have hN : Hid (SameL A E = false) := sameL_no hx hy g
          have q0 : (x.id == y.id) = true := by simpa using e0
          have q1 : (x.owner == y.owner) = true := by simpa using e1
          have q2 : (x.date == y.date) = true := by simpa using e2
          have q3 : (x.place == y.place) = true := by simpa using e3
          have q4 : (x.rate == y.rate) = false := by simpa using e4
          clear e0
          clear e1
          clear e2
          clear e3
          clear e4
          clear hx hy g
          go_upto_region 6 with fail
          go_quiet (fail)
          go_wp2_with fail
          go_ret
          exact ⟨ret_bool hN.out.symm, _, World.drewN_drewN _ _ _⟩
        by_cases e5 : x.from1 = y.from1
        case neg =>
          have hN : Hid (SameL A E = false) := sameL_no hx hy g
          have q0 : (x.id == y.id) = true := by simpa using e0
          have q1 : (x.owner == y.owner) = true := by simpa using e1
          have q2 : (x.date == y.date) = true := by simpa using e2
          have q3 : (x.place == y.place) = true := by simpa using e3
          have q4 : (x.rate == y.rate) = true := by simpa using e4
          have q5 : (x.from1 == y.from1) = false := by simpa using e5
          clear e0
          clear e1
          clear e2
          clear e3
          clear e4
          clear e5
          clear hx hy g
          go_upto_region 6 with fail
          go_quiet (fail)
          go_wp2_with fail
          go_ret
          exact ⟨ret_bool hN.out.symm, _, World.drewN_drewN _ _ _⟩
        by_cases e6 : x.until1 = y.until1
        case neg =>
          have hN : Hid (SameL A E = false) := sameL_no hx hy g
          have q0 : (x.id == y.id) = true := by simpa using e0
          have q1 : (x.owner == y.owner) = true := by simpa using e1
          have q2 : (x.date == y.date) = true := by simpa using e2
          have q3 : (x.place == y.place) = true := by simpa using e3
          have q4 : (x.rate == y.rate) = true := by simpa using e4
          have q5 : (x.from1 == y.from1) = true := by simpa using e5
          have q6 : (x.until1 == y.until1) = false := by simpa using e6
          clear e0
          clear e1
          clear e2
          clear e3
          clear e4
          clear e5
          clear e6
          clear hx hy g
          go_upto_region 6 with fail
          go_quiet (fail)
          go_wp2_with fail
          go_ret
          exact ⟨ret_bool hN.out.symm, _, World.drewN_drewN _ _ _⟩
        by_cases e7 : x.back = y.back
        case neg =>
          have hN : Hid (SameL A E = false) := sameL_no hx hy g
          have q0 : (x.id == y.id) = true := by simpa using e0
          have q1 : (x.owner == y.owner) = true := by simpa using e1
          have q2 : (x.date == y.date) = true := by simpa using e2
          have q3 : (x.place == y.place) = true := by simpa using e3
          have q4 : (x.rate == y.rate) = true := by simpa using e4
          have q5 : (x.from1 == y.from1) = true := by simpa using e5
          have q6 : (x.until1 == y.until1) = true := by simpa using e6
          have q7 : (x.back == y.back) = false := by simpa using e7
          clear e0
          clear e1
          clear e2
          clear e3
          clear e4
          clear e5
          clear e6
          clear e7
          clear hx hy g
          go_upto_region 6 with fail
          go_quiet (fail)
          go_wp2_with fail
          go_ret
          exact ⟨ret_bool hN.out.symm, _, World.drewN_drewN _ _ _⟩
        by_cases e8 : x.backTo = y.backTo
        case neg =>
          have hN : Hid (SameL A E = false) := sameL_no hx hy g
          have q0 : (x.id == y.id) = true := by simpa using e0
          have q1 : (x.owner == y.owner) = true := by simpa using e1
          have q2 : (x.date == y.date) = true := by simpa using e2
          have q3 : (x.place == y.place) = true := by simpa using e3
          have q4 : (x.rate == y.rate) = true := by simpa using e4
          have q5 : (x.from1 == y.from1) = true := by simpa using e5
          have q6 : (x.until1 == y.until1) = true := by simpa using e6
          have q7 : (x.back == y.back) = true := by simpa using e7
          have q8 : (x.backTo == y.backTo) = false := by simpa using e8
          clear e0
          clear e1
          clear e2
          clear e3
          clear e4
          clear e5
          clear e6
          clear e7
          clear e8
          clear hx hy g
          go_upto_region 6 with fail
          go_quiet (fail)
          go_wp2_with fail
          go_ret
          exact ⟨ret_bool hN.out.symm, _, World.drewN_drewN _ _ _⟩
        exact absurd (by cases x; cases y; simp_all) g
    · have hke : k = A.length := by omega
      subst hke
      have hN : Hid (SameL A E = true) := sameL_yes Hl.out hm.out
      go_wp2_with fail
      go_ret
      exact ⟨ret_bool hN.out.symm, _, rfl⟩

def cntR (l : List Rt) (r : Rt) : Nat := (l.filter (fun x => decide (x = r))).length
theorem cnt_snoc (l : List Rt) (x r : Rt) : cntR (l ++ [x]) r = cntR l r + (if x = r then 1 else 0) := by
  unfold cntR
  rw [List.filter_append, List.length_append]
  by_cases h : x = r <;> simp [List.filter, h]
theorem cnt_perm {l l' : List Rt} (h : l.Perm l') (r : Rt) : cntR l r = cntR l' r := (h.filter _).length_eq
set_option maxHeartbeats 4000000 in
theorem many_any (A : List Rt) (y : Rt) (C : Option Addr) (cc : Nat) (w : World) {B : Nat} (hC : RightsAt w B C A) (hB : B ≤ w.heap.size) (hl : A.length ≤ 1000000) :
    Calls Tryd.prog 19 #[.slice C A.length cc, .agg #[.int .i64 y.id, .int .i64 y.owner, .int .i64 y.date, .int .i64 y.place, .int .i64 y.rate, .int .i64 y.from1, .int .i64 y.until1, .int .i64 y.back, .int .i64 y.backTo]] w (IntBe (cntR A y) w) := by
  obtain ⟨F, hF⟩ : ∃ F : Nat → Nat, F = fun k => cntR (A.take k) y := ⟨_, rfl⟩
  have hF0 : Hid (F 0 = 0) := by show _ = _; rw [hF]; rfl
  have hFe : Hid (cntR A y = F A.length) := by show _ = _; rw [hF]; simp only [List.take_length]
  have hFs : Hid (∀ k x, A[k]? = some x → F (k + 1) = F k + (if x = y then 1 else 0)) := fun k x h => by rw [hF]; show cntR (A.take (k + 1)) y = _; rw [List.take_add_one, h]; exact cnt_snoc _ x y
  have hFl : Hid (∀ k, F k ≤ A.length) := fun k => by rw [hF]; exact Nat.le_trans (List.length_filter_le _ _) (by rw [List.length_take]; omega)
  clear hF
  have hB0 : Below w.heap.size w (w.alloc (.cells (Value.cells (.agg #[.int .i64 y.id, .int .i64 y.owner, .int .i64 y.date, .int .i64 y.place, .int .i64 y.rate, .int .i64 y.from1, .int .i64 y.until1, .int .i64 y.back, .int .i64 y.backTo])) 33)) := (Below.refl _ _).alloc (Nat.le_refl _) _
  simp only [Value.cells] at hB0
  go_enter Tryd.func19, Tryd.ntmps19
  go_wp2_with fail
  obtain ⟨W0, hW0⟩ : ∃ W0, W0 = w.alloc (.cells (Value.cells (.agg #[.int .i64 y.id, .int .i64 y.owner, .int .i64 y.date, .int .i64 y.place, .int .i64 y.rate, .int .i64 y.from1, .int .i64 y.until1, .int .i64 y.back, .int .i64 y.backTo])) 33) := ⟨_, rfl⟩
  have hbx : BoxRt W0 w.heap.size y := by rw [hW0]; exact heap_alloc_new w _
  have hz0 : w.heap.size < W0.heap.size := by rw [hW0]; simp
  simp only [Value.cells] at hW0
  rw [← hW0] at hB0 ⊢
  clear hW0
  obtain ⟨d0, d1, d2, d3, d4, d5, d6, d7, d8⟩ := hbx.cells
  go_loopw [5, 6] (fun s5 i wr => ∃ k m : Nat, k ≤ A.length ∧ i = .int .i64 k ∧ s5 = .int .i64 (F k) ∧ wr = W0.drewN m) (fun _ i _ => A.length - (intOf i).toNat)
  case atStart => exact ⟨0, 0, Nat.zero_le _, rfl, by rw [hF0.out]; rfl, rfl⟩
  case round =>
    obtain ⟨k, m, hk, rfl, rfl, hwr⟩ := hrel
    subst hwr
    by_cases hlt : k < A.length
    · obtain ⟨x, hx⟩ : ∃ x, A[k]? = some x := ⟨_, List.getElem?_eq_getElem hlt⟩
      obtain ⟨b, off, rfl, hb, c0, c1, c2, c3, c4, c5, c6, c7, c8⟩ := (hC.below (hB0.mono hB)).at_ hx
      have hk0 : 0 ≤ (k : Int) ∧ (k : Int) < (A.length : Int) := by omega
      have HS := Lib.hid (hFs.out k x hx)
      have hfl := hFl.out k
      by_cases g : x = y
      · have HN : Hid (F (k + 1) = F k + 1) := by show _ = _; rw [HS.out, if_pos g]
        subst g
        clear hx HS
        go_upto_region 5 with fail
        go_quiet (fail)
        go_wp2_with fail
        go_roundw
        case rel => exact ⟨k + 1, _, by omega, by go_num, by rw [HN.out]; go_num, rfl⟩
        case measure => simp [intOf]; omega
      · have HN : Hid (F (k + 1) = F k) := by show _ = _; rw [HS.out, if_neg g]; rfl
        by_cases e0 : x.id = y.id
        case neg =>
          have q0 : (x.id == y.id) = false := by simpa using e0
          clear e0
          clear hx HS g
          go_upto_region 5 with fail
          go_quiet (fail)
          go_wp2_with fail
          go_roundw
          case rel => exact ⟨k + 1, _, by omega, by go_num, by rw [HN.out], rfl⟩
          case measure => simp [intOf]; omega
        by_cases e1 : x.owner = y.owner
        case neg =>
          have q0 : (x.id == y.id) = true := by simpa using e0
          have q1 : (x.owner == y.owner) = false := by simpa using e1
          clear e0
          clear e1
          clear hx HS g
          go_upto_region 5 with fail
          go_quiet (fail)
          go_wp2_with fail
          go_roundw
          case rel => exact ⟨k + 1, _, by omega, by go_num, by rw [HN.out], rfl⟩
          case measure => simp [intOf]; omega
        by_cases e2 : x.date = y.date
        case neg =>
          have q0 : (x.id == y.id) = true := by simpa using e0
          have q1 : (x.owner == y.owner) = true := by simpa using e1
          have q2 : (x.date == y.date) = false := by simpa using e2
          clear e0
          clear e1
          clear e2
          clear hx HS g
          go_upto_region 5 with fail
          go_quiet (fail)
          go_wp2_with fail
          go_roundw
          case rel => exact ⟨k + 1, _, by omega, by go_num, by rw [HN.out], rfl⟩
          case measure => simp [intOf]; omega
        by_cases e3 : x.place = y.place
        case neg =>
          have q0 : (x.id == y.id) = true := by simpa using e0
          have q1 : (x.owner == y.owner) = true := by simpa using e1
          have q2 : (x.date == y.date) = true := by simpa using e2
          have q3 : (x.place == y.place) = false := by simpa using e3
          clear e0
          clear e1
          clear e2
          clear e3
          clear hx HS g
          go_upto_region 5 with fail
          go_quiet (fail)
          go_wp2_with fail
          go_roundw
          case rel => exact ⟨k + 1, _, by omega, by go_num, by rw [HN.out], rfl⟩
          case measure => simp [intOf]; omega
        by_cases e4 : x.rate = y.rate
        case neg =>
          have q0 : (x.id == y.id) = true := by simpa using e0
          have q1 : (x.owner == y.owner) = true := by simpa using e1
          have q2 : (x.date == y.date) = true := by simpa using e2
          have q3 : (x.place == y.place) = true := by simpa using e3
          have q4 : (x.rate == y.rate) = false := by simpa using e4
          clear e0
          clear e1
          clear e2
          clear e3
          clear e4
          clear hx HS g
          go_upto_region 5 with fail
          go_quiet (fail)
          go_wp2_with fail
          go_roundw
          case rel => exact ⟨k + 1, _, by omega, by go_num, by rw [HN.out], rfl⟩
          case measure => simp [intOf]; omega
        by_cases e5 : x.from1 = y.from1
        case neg =>
          have q0 : (x.id == y.id) = true := by simpa using e0
          have q1 : (x.owner == y.owner) = true := by simpa using e1
          have q2 : (x.date == y.date) = true := by simpa using e2
          have q3 : (x.place == y.place) = true := by simpa using e3
          have q4 : (x.rate == y.rate) = true := by simpa using e4
          have q5 : (x.from1 == y.from1) = false := by simpa using e5
          clear e0
          clear e1
          clear e2
          clear e3
          clear e4
          clear e5
          clear hx HS g
          go_upto_region 5 with fail
          go_quiet (fail)
          go_wp2_with fail
          go_roundw
          case rel => exact ⟨k + 1, _, by omega, by go_num, by rw [HN.out], rfl⟩
          case measure => simp [intOf]; omega
        by_cases e6 : x.until1 = y.until1
        case neg =>
          have q0 : (x.id == y.id) = true := by simpa using e0
          have q1 : (x.owner == y.owner) = true := by simpa using e1
          have q2 : (x.date == y.date) = true := by simpa using e2
          have q3 : (x.place == y.place) = true := by simpa using e3
          have q4 : (x.rate == y.rate) = true := by simpa using e4
          have q5 : (x.from1 == y.from1) = true := by simpa using e5
          have q6 : (x.until1 == y.until1) = false := by simpa using e6
          clear e0
          clear e1
          clear e2
          clear e3
          clear e4
          clear e5
          clear e6
          clear hx HS g
          go_upto_region 5 with fail
          go_quiet (fail)
          go_wp2_with fail
          go_roundw
          case rel => exact ⟨k + 1, _, by omega, by go_num, by rw [HN.out], rfl⟩
          case measure => simp [intOf]; omega
        by_cases e7 : x.back = y.back
        case neg =>
          have q0 : (x.id == y.id) = true := by simpa using e0
          have q1 : (x.owner == y.owner) = true := by simpa using e1
          have q2 : (x.date == y.date) = true := by simpa using e2
          have q3 : (x.place == y.place) = true := by simpa using e3
          have q4 : (x.rate == y.rate) = true := by simpa using e4
          have q5 : (x.from1 == y.from1) = true := by simpa using e5
          have q6 : (x.until1 == y.until1) = true := by simpa using e6
          have q7 : (x.back == y.back) = false := by simpa using e7
          clear e0
          clear e1
          clear e2
          clear e3
          clear e4
          clear e5
          clear e6
          clear e7
          clear hx HS g
          go_upto_region 5 with fail
          go_quiet (fail)
          go_wp2_with fail
          go_roundw
          case rel => exact ⟨k + 1, _, by omega, by go_num, by rw [HN.out], rfl⟩
          case measure => simp [intOf]; omega
        by_cases e8 : x.backTo = y.backTo
        case neg =>
          have q0 : (x.id == y.id) = true := by simpa using e0
          have q1 : (x.owner == y.owner) = true := by simpa using e1
          have q2 : (x.date == y.date) = true := by simpa using e2
          have q3 : (x.place == y.place) = true := by simpa using e3
          have q4 : (x.rate == y.rate) = true := by simpa using e4
          have q5 : (x.from1 == y.from1) = true := by simpa using e5
          have q6 : (x.until1 == y.until1) = true := by simpa using e6
          have q7 : (x.back == y.back) = true := by simpa using e7
          have q8 : (x.backTo == y.backTo) = false := by simpa using e8
          clear e0
          clear e1
          clear e2
          clear e3
          clear e4
          clear e5
          clear e6
          clear e7
          clear e8
          clear hx HS g
          go_upto_region 5 with fail
          go_quiet (fail)
          go_wp2_with fail
          go_roundw
          case rel => exact ⟨k + 1, _, by omega, by go_num, by rw [HN.out], rfl⟩
          case measure => simp [intOf]; omega
        exact absurd (by cases x; cases y; simp_all) g
    · have hke : k = A.length := by omega
      subst hke
      go_wp2_with fail
      go_ret
      exact ⟨by rw [hFe.out]; rfl, below_drewN hB0 m⟩
end Go.Proofs.YtchmplnkddgncaaDoor
