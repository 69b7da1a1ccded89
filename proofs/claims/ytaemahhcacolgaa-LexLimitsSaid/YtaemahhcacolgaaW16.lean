/- The walk of Same. -/
import Derived.Test.YtaemahhcacolgaaW15
namespace Go.Proofs.Ytaemahhcacolgaa
open Go.RowKit LX
attribute [local go_sem] alloc_drewN setCell_drewN shape_drewN

def pr (q : Bool) (t : MTok) : MTok := (t.1, t.2.1, if q then t.2.2 else 0)
def sameT (q : Bool) (A B : List MTok) : Bool := decide (A.map (pr q) = B.map (pr q))
def SameIs (q : Bool) (A B : List MTok) (w : World) (e : Ending) (w' : World) : Prop := e = .returned (.bool (sameT q A B)) ∧ Below w.heap.size w w'
theorem sameT_no {q : Bool} {A B : List MTok} {k : Nat} {s t : MTok} (h1 : A[k]? = some s) (h2 : B[k]? = some t) (h : pr q s ≠ pr q t) : sameT q A B = false := by
  unfold sameT
  refine decide_eq_false (fun e => h ?_)
  have := congrArg (fun l : List MTok => l[k]?) e
  simpa [h1, h2] using this
theorem sameT_len {q : Bool} {A B : List MTok} (h : A.length ≠ B.length) : sameT q A B = false := by
  unfold sameT
  refine decide_eq_false (fun e => h ?_)
  simpa using congrArg List.length e
theorem sameT_yes {q : Bool} {A B : List MTok} (hl : A.length = B.length) (h : ∀ (k : Nat) s t, A[k]? = some s → B[k]? = some t → pr q s = pr q t) : sameT q A B = true := by
  unfold sameT
  refine decide_eq_true (List.ext_getElem (by simpa using hl) (fun k h1 h2 => ?_))
  simp only [List.length_map] at h1 h2
  simp only [List.getElem_map]
  exact h k _ _ (List.getElem?_eq_getElem h1) (List.getElem?_eq_getElem h2)
theorem bs_eq {x y : List UInt8} : bs x = bs y ↔ x = y := ⟨fun h => by rw [← bs_list x, h, bs_list], fun h => by rw [h]⟩
set_option maxHeartbeats 1000000 in
theorem same_any (C D : Option Addr) (cc dc : Nat) (A B : List MTok) (q : Bool) (w : World) {M N : Nat} (hC : ToksAt w M C A) (hD : ToksAt w N D B) (hlA : A.length ≤ 9223372036854775807) (hlB : B.length ≤ 9223372036854775807) :
    Calls Try.prog 12 #[.slice C A.length cc, .slice D B.length dc, .bool q] w (SameIs q A B w) := by
  by_cases hl : A.length = B.length
  case neg =>
    have Hn := Lib.hid (sameT_len (q := q) hl)
    have hl1 : (A.length != B.length) = true := by simp; exact hl
    have hl2 : ((A.length : Int) != (B.length : Int)) = true := by simp; omega
    go_enter Try.func12, Try.ntmps12
    go_wp2_with fail
    go_ret
    exact ⟨ret_bool Hn.out.symm, Below.refl _ _⟩
  have Hl := Lib.hid hl
  rw [← hl]
  clear hl hlB
  go_enter Try.func12, Try.ntmps12
  go_wp2_with fail
  go_loopw [7] (fun i wr => ∃ k m : Nat, k ≤ A.length ∧ i = .int .i64 k ∧ Hid (∀ (j : Nat) s t, j < k → A[j]? = some s → B[j]? = some t → pr q s = pr q t) ∧ wr = w.drewN m) (fun i _ => A.length - (intOf i).toNat)
  case atStart => exact ⟨0, 0, Nat.zero_le _, rfl, fun j _ _ hj => absurd hj (Nat.not_lt_zero _), rfl⟩
  case round =>
    obtain ⟨k, m, hk, rfl, hm, hwr⟩ := hrel
    subst hwr
    by_cases hlt : k < A.length
    · obtain ⟨b1, o1, x1, y1, z1, rfl, hb1, ha1, c0, c1, c2⟩ := hC.at_ hlt
      obtain ⟨b2, o2, x2, y2, z2, rfl, hb2, ha2, d0, d1, d2⟩ := hD.at_ (k := k) (by have := Hl.out; omega)
      have hk0 : 0 ≤ (k : Int) ∧ (k : Int) < (A.length : Int) := by omega
      have no : pr q (x1, y1, z1) ≠ pr q (x2, y2, z2) → Hid (sameT q A B = false) := fun h => sameT_no ha1.out ha2.out h
      have yes : pr q (x1, y1, z1) = pr q (x2, y2, z2) → Hid (∀ (j : Nat) s t, j < k + 1 → A[j]? = some s → B[j]? = some t → pr q s = pr q t) := fun h => fun j s t hj h1 h2 => by
        by_cases g : j < k
        · exact hm.out j s t g h1 h2
        · obtain rfl : j = k := by omega
          rw [ha1.out] at h1
          rw [ha2.out] at h2
          obtain rfl := Option.some.inj h1
          obtain rfl := Option.some.inj h2
          exact h
      by_cases h1 : x1 = x2
      case neg =>
        have HN := no (fun e => h1 (by injection e))
        have e1 : (x1 != x2) = true := by simp; exact h1
        clear no yes hm
        go_wp2_with fail
        go_quiet (fail)
        go_wp2_with fail
        go_ret
        exact ⟨ret_bool HN.out.symm, below_drewN (below_drewN (Below.refl _ _) _) _⟩
      subst h1
      by_cases h2 : y1 = y2
      case neg =>
        have e1 : ((bs y1).toList == (bs y2).toList) = false := by rw [beq_eq_false_iff_ne, ByteArray.toList_eq, ByteArray.toList_eq, bs_list, bs_list]; exact h2
        have HN := no (fun e => h2 (by injection e with _ e; injection e))
        clear no yes hm
        go_wp2_with fail
        go_quiet (fail)
        go_wp2_with fail
        go_ret
        exact ⟨ret_bool HN.out.symm, below_drewN (below_drewN (Below.refl _ _) _) _⟩
      subst h2
      cases q
      case false =>
        have HY := yes rfl
        clear no yes hm
        go_wp2_with fail
        go_quiet (fail)
        go_wp2_with fail
        go_roundw
        case rel => exact ⟨k + 1, _, by omega, by go_num, HY, rfl⟩
        case measure => simp [intOf]; omega
      by_cases h3 : z1 = z2
      case neg =>
        have e2 : (z1 != z2) = true := by simp; exact h3
        have HN := no (fun e => h3 (by injection e with _ e; injection e))
        clear no yes hm
        go_wp2_with fail
        go_quiet (fail)
        go_wp2_with fail
        go_ret
        exact ⟨ret_bool HN.out.symm, below_drewN (below_drewN (Below.refl _ _) _) _⟩
      subst h3
      have HY := yes rfl
      clear no yes hm
      go_wp2_with fail
      go_quiet (fail)
      go_wp2_with fail
      go_roundw
      case rel => exact ⟨k + 1, _, by omega, by go_num, HY, rfl⟩
      case measure => simp [intOf]; omega
    · obtain rfl : A.length = k := by omega
      have HY : Hid (sameT q A B = true) := sameT_yes Hl.out (fun j s t h1 h2 => hm.out j s t (by have := (List.getElem?_eq_some_iff.1 h1).1; exact this) h1 h2)
      clear hm
      go_wp2_with fail
      go_ret
      exact ⟨ret_bool HY.out.symm, below_drewN (Below.refl _ _) _⟩
end Go.Proofs.Ytaemahhcacolgaa
