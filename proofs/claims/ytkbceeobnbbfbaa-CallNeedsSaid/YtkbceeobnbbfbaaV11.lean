/- Walks of the reference's Has (excuses), few, modest, fork. -/
import Derived.Test.YtkbceeobnbbfbaaV8
set_option linter.unusedSimpArgs false
set_option linter.unusedVariables false
namespace Go.Proofs.Ytkbceeobnbbfbaa
open Go.RowKit CM
attribute [local go_sem] alloc_drewN setCell_drewN shape_drewN

def hasE (l : List (Int × Int)) (x : Int × Int) : Bool := decide (x ∈ l)
theorem hasE_no {l : List (Int × Int)} {n : Int × Int} (h : n ∉ l.take l.length) : hasE l n = false := by rw [List.take_length] at h; exact decide_eq_false h
set_option maxHeartbeats 1000000 in
theorem has38_any (l : List (Int × Int)) (C : Option Addr) (cc : Nat) (n : Int × Int) (w : World) {B : Nat} (hC : PairsAt w B C l) (hB : B ≤ w.heap.size) (hl : l.length ≤ 9223372036854775807) :
    Calls Try.prog 39 #[.slice C l.length cc, .agg #[.int .i64 n.1, .int .i64 n.2]] w (BoolIs (hasE l n) w) := by
  go_enter Try.func39, Try.ntmps39
  go_wp2_with fail
  go_loopw [5] (fun i wr => ∃ k m : Nat, k ≤ l.length ∧ i = .int .i64 k ∧ Hid (n ∉ l.take k) ∧ wr = (w.alloc (.cells #[.int .i64 n.1, .int .i64 n.2] 60)).drewN m) (fun i _ => l.length - (intOf i).toNat)
  case atStart => exact ⟨0, 0, Nat.zero_le _, rfl, by show _ ∉ _; simp, rfl⟩
  case round =>
    obtain ⟨k, m, hk, rfl, hn, hwr⟩ := hrel
    subst hwr
    by_cases hlt : k < l.length
    case neg =>
      have hke : k = l.length := by omega
      subst hke
      have hF : Hid (hasE l n = false) := hasE_no hn.out
      go_wp2_with fail
      go_ret
      exact ⟨ret_bool hF.out.symm, below_drewN ((Below.refl _ _).alloc (Nat.le_refl _) _) _⟩
    obtain ⟨x, hx⟩ : ∃ x, l[k]? = some x := ⟨_, List.getElem?_eq_getElem hlt⟩
    obtain ⟨b, off, rfl, hb, c0, c1⟩ := hC.at_ hx
    have hbw : b < w.heap.size := by omega
    have hk0 : 0 ≤ (k : Int) ∧ (k : Int) < (l.length : Int) := by omega
    by_cases g : x = n
    · have hF : Hid (hasE l n = true) := decide_eq_true (g ▸ List.mem_of_getElem? hx)
      have g1 : (x.1 == n.1) = true := by simp [g]
      have g2 : (x.2 == n.2) = true := by simp [g]
      clear hx g
      go_upto_region 4 with fail
      go_quiet (fail)
      go_wp2_with fail
      go_ret
      exact ⟨ret_bool hF.out.symm, below_drewN (below_drewN ((Below.refl _ _).alloc (Nat.le_refl _) _) _) _⟩
    · have hN : Hid (n ∉ l.take (k + 1)) := not_take_succ hn.out hx g
      clear hx
      by_cases h1 : x.1 = n.1
      · have g1 : (x.1 == n.1) = true := by simp [h1]
        have g2 : (x.2 == n.2) = false := by
          rw [Bool.eq_false_iff]; intro h; simp at h; exact g (Prod.ext h1 h)
        clear h1 g
        go_upto_region 4 with fail
        go_quiet (fail)
        go_wp2_with fail
        go_roundw
        case rel => exact ⟨k + 1, _, by omega, by go_num, hN, rfl⟩
        case measure => simp [intOf]; omega
      · have g1 : (x.1 == n.1) = false := by simpa using h1
        clear h1 g
        go_upto_region 4 with fail
        go_quiet (fail)
        go_wp2_with fail
        go_roundw
        case rel => exact ⟨k + 1, _, by omega, by go_num, hN, rfl⟩
        case measure => simp [intOf]; omega
def fewB (pl : Pl) (r g : Nat) : Bool := decide (pl.length ≤ 16) && (decide (r ≤ 14) && decide (g ≤ 20))
theorem few_any (X : Bas) (pl : Pl) (C : Option Addr) (r cr : Nat) (D : Option Addr) (g cg : Nat) (w : World) : Calls Try.prog 9 #[.agg #[.string X.nm, .slice X.a1 X.l1 X.c1, .int .i64 X.cl, .slice X.P pl.length X.cP, .slice X.a4 X.l4 X.c4, .slice X.a5 X.l5 X.c5, .slice X.a6 X.l6 X.c6, .slice X.a7 X.l7 X.c7, .slice X.a8 X.l8 X.c8, .slice X.a9 X.l9 X.c9, .int .i64 X.er], .slice C r cr, .slice D g cg] w (BoolIs (fewB pl r g) w) := by
  have e : fewB pl r g = (decide (pl.length ≤ 16) && (decide (r ≤ 14) && decide (g ≤ 20))) := rfl
  by_cases h1 : pl.length ≤ 16
  case neg =>
    have hF : Hid (fewB pl r g = false) := Lib.hid (by rw [e, decide_eq_false h1]; rfl)
    have d1 : decide (pl.length ≤ 16) = false := decide_eq_false h1
    clear e
    go_enter Try.func9, Try.ntmps9
    go_wp2_with fail
    go_ret
    exact ⟨ret_bool hF.out.symm, (Below.refl _ _).alloc (Nat.le_refl _) _⟩
  have d1 : decide (pl.length ≤ 16) = true := decide_eq_true h1
  by_cases h2 : r ≤ 14
  case neg =>
    have hF : Hid (fewB pl r g = false) := Lib.hid (by rw [e, decide_eq_false h2]; simp)
    have d2 : decide (r ≤ 14) = false := decide_eq_false h2
    clear e
    go_enter Try.func9, Try.ntmps9
    go_wp2_with fail
    go_ret
    exact ⟨ret_bool hF.out.symm, (Below.refl _ _).alloc (Nat.le_refl _) _⟩
  have d2 : decide (r ≤ 14) = true := decide_eq_true h2
  have hF : Hid (fewB pl r g = decide (g ≤ 20)) := Lib.hid (by rw [e, d1, d2]; rfl)
  clear e
  go_enter Try.func9, Try.ntmps9
  go_wp2_with fail
  go_ret
  exact ⟨ret_bool (by rw [hF.out]; exact decide_eq_decide.2 (by omega)), (Below.refl _ _).alloc (Nat.le_refl _) _⟩
/-- modest's answer at the first k. -/
def modP (S : List Int) (n : Nat) : Prop := ∀ p, p < n → supF S p ≤ 1125899906842624
def modB (S : List Int) : Bool := decide (∀ p, p < min S.length 16 → supF S p ≤ 1125899906842624) && decide (posSum (supF S) (min S.length 16) ≤ 1125899906842624)
theorem posSum_bd (S : List Int) : ∀ n, n ≤ 16 → modP S n → 0 ≤ posSum (supF S) n ∧ posSum (supF S) n ≤ (n : Int) * 1125899906842624
  | 0, _, _ => ⟨Int.le_refl _, by simp [posSum]⟩
  | n + 1, h, hm => by
    have ih := posSum_bd S n (by omega) (fun p hp => hm p (by omega))
    have h1 := hm n (by omega)
    have e : posSum (supF S) (n + 1) = posSum (supF S) n + max 0 (supF S n) := rfl
    rw [e]
    have e2 : ((n + 1 : Nat) : Int) * 1125899906842624 = (n : Int) * 1125899906842624 + 1125899906842624 := by push_cast; omega
    omega
set_option maxHeartbeats 1000000 in
theorem modest_any (S : List Int) (C : Option Addr) (cc : Nat) (w : World) {B : Nat} (hC : IntsAt w B C S) (hl : S.length ≤ 9223372036854775807) : Calls Try.prog 22 #[.slice C S.length cc] w (BoolEq (modB S) w) := by
  go_enter Try.func22, Try.ntmps22
  go_wp2_with fail
  go_loop [3, 4] (fun n i => ∃ (k : Nat) (N : Int), k ≤ S.length ∧ k ≤ 16 ∧ i = .int .i64 k ∧ n = .int .i64 N ∧ Hid (N = posSum (supF S) k) ∧ Hid (modP S k)) (fun _ i => S.length - (intOf i).toNat)
  case atStart => exact ⟨0, 0, Nat.zero_le _, Nat.zero_le _, rfl, rfl, rfl, fun p hp => absurd hp (Nat.not_lt_zero _)⟩
  case round =>
    obtain ⟨k, N, hk, hk16, rfl, rfl, hN, hm⟩ := hrel
    have hbd := posSum_bd S k hk16 hm.out
    rw [← hN.out] at hbd
    have fin : min S.length 16 = k → Hid (modB S = decide (N ≤ 1125899906842624)) := fun e => by
      show _ = _
      unfold modB
      rw [e, hN.out, decide_eq_true (show ∀ p, p < k → supF S p ≤ 1125899906842624 from hm.out)]; rfl
    by_cases h1 : k < S.length
    case neg =>
      have hF := fin (by omega)
      clear fin
      go_wp2_with fail
      go_ret
      exact ⟨ret_bool hF.out.symm, rfl⟩
    by_cases h2 : k < 16
    case neg =>
      have hF := fin (by omega)
      have d2 : decide ((k : Int) < 16) = false := decide_eq_false (by omega)
      have d3 : decide (k < 16) = false := decide_eq_false h2
      clear fin
      go_wp2_with fail
      go_ret
      exact ⟨ret_bool hF.out.symm, rfl⟩
    obtain ⟨s, hx⟩ : ∃ s, S[k]? = some s := ⟨_, List.getElem?_eq_getElem h1⟩
    obtain ⟨b, off, rfl, hb, c0⟩ := hC.at_ hx
    have hsF : supF S k = s := by unfold supF; rw [List.getD_eq_getElem?_getD, hx]; rfl
    have d2 : decide (k < 16) = true := decide_eq_true h2
    clear hx fin
    by_cases h3 : s ≤ 1125899906842624
    case neg =>
      have hF : Hid (modB S = false) := by
        show _ = _
        unfold modB
        rw [decide_eq_false (fun h => h3 (by rw [← hsF]; exact h k (by omega)))]; rfl
      clear hsF hN hm
      go_wp2_with fail
      go_ret
      exact ⟨ret_bool hF.out.symm, rfl⟩
    obtain ⟨m, hmx⟩ : ∃ m, m = max 0 s := ⟨_, rfl⟩
    have e2 : max 0 s = m := hmx.symm
    have e3 : (if s < 0 then 0 else s) = m := by rw [hmx]; split <;> omega
    have e4 : (if (0 : Int) < s then s else 0) = m := by rw [hmx]; split <;> omega
    have hm0 : 0 ≤ m ∧ m ≤ 1125899906842624 := by omega
    have hN2 : Hid (N + m = posSum (supF S) (k + 1)) := by show _ = posSum (supF S) k + max 0 (supF S k); rw [hsF, e2, hN.out]
    have hm2 : Hid (modP S (k + 1)) := fun p hp => by
      by_cases g : p < k
      · exact hm.out p g
      · rw [show p = k by omega, hsF]; exact h3
    have hbd2 : N + m ≤ 9223372036854775807 := by omega
    clear hsF hN hm hmx
    go_wp2_with fail
    clear e2 e3 e4
    go_round
    case rel => exact ⟨k + 1, N + m, by omega, by omega, by go_num, rfl, hN2, hm2⟩
    case measure => simp [intOf]; omega
end Go.Proofs.Ytkbceeobnbbfbaa
