/- Walks of the reference's tests of a network. -/
import Derived.Test.YtanhhdfffggdmaaY1
namespace Go.Proofs.Ytanhhdfffggdmaa
open Go.RowKit FM

def nodeB (n v : Int) : Bool := decide (0 ≤ v) && decide (v < n)
theorem node_true {n v : Int} (h0 : 0 ≤ v) (h1 : v < n) : nodeB n v = true := by simp [nodeB, h0, h1]
theorem node_false {n v : Int} (h : ¬ (0 ≤ v ∧ v < n)) : nodeB n v = false := by
  unfold nodeB
  by_cases a : 0 ≤ v
  · have b : ¬ v < n := fun b => h ⟨a, b⟩
    simp [b]
  · simp [a]
theorem node_any (n v : Int) (w : World) : Calls Try.prog 28 #[.int .i64 n, .int .i64 v] w fun e w' => e = .returned (.bool (nodeB n v)) ∧ w = w' := by
  by_cases h0 : 0 ≤ v
  · by_cases h1 : v < n
    · have H := Lib.hid (node_true h0 h1)
      go_enter Try.func28, Try.ntmps28
      go_wp2_with fail
      go_ret
      exact ⟨ret_bool H.out.symm, rfl⟩
    · have H := Lib.hid (node_false (n := n) (v := v) (fun h => h1 h.2))
      go_enter Try.func28, Try.ntmps28
      go_wp2_with fail
      go_ret
      exact ⟨ret_bool H.out.symm, rfl⟩
  · have H := Lib.hid (node_false (n := n) (v := v) (fun h => h0 h.1))
    go_enter Try.func28, Try.ntmps28
    go_wp2_with fail
    go_ret
    exact ⟨ret_bool H.out.symm, rfl⟩
theorem node_yes {n v : Int} (h0 : 0 ≤ v) (h1 : v < n) (w : World) : Calls Try.prog 28 #[.int .i64 n, .int .i64 v] w fun e w' => e = .returned (.bool true) ∧ w = w' := by
  have h := node_any n v w
  rw [node_true h0 h1] at h
  exact h
theorem node_no {n v : Int} (h : ¬ (0 ≤ v ∧ v < n)) (w : World) : Calls Try.prog 28 #[.int .i64 n, .int .i64 v] w fun e w' => e = .returned (.bool false) ∧ w = w' := by
  have k := node_any n v w
  rw [node_false h] at k
  exact k
def RValidIs (n : Int) (A : List Arc) (s t : Int) (w : World) (e : Ending) (w' : World) : Prop := e = .returned (.bool (validB n A s t)) ∧ w = w'
theorem RValidIs.no {n : Int} {A : List Arc} {s t : Int} {w : World} (h : ¬ Valid n A s t) : RValidIs n A s t w (.returned (.bool false)) w := ⟨by rw [validB_false h], rfl⟩

set_option maxHeartbeats 1000000 in
theorem rvalid_any (n s t : Int) (C : Option Addr) (cc : Nat) (A : List Arc) (w : World) {B : Nat} (hC : ArcsAt w B C A) (hlen : A.length ≤ 9223372036854775807) :
    Calls Try.prog 22 #[.int .i64 n, .slice C A.length cc, .int .i64 s, .int .i64 t] w (RValidIs n A s t w) := by
  by_cases h1 : 1 ≤ n
  case neg =>
    have hv : Hid (¬ Valid n A s t) := fun h => h1 h.1
    go_enter Try.func22, Try.ntmps22
    go_wp2_with fail
    go_ret
    exact .no hv.out
  by_cases h2 : n ≤ 256
  case neg =>
    have hv : Hid (¬ Valid n A s t) := fun h => h2 h.2.1
    go_enter Try.func22, Try.ntmps22
    go_wp2_with fail
    go_ret
    exact .no hv.out
  by_cases h3 : A.length ≤ 4096
  case neg =>
    have hv : Hid (¬ Valid n A s t) := fun h => h3 h.2.2.1
    have h3' : (4096 : Int) < (A.length : Int) := by omega
    go_enter Try.func22, Try.ntmps22
    go_wp2_with fail
    go_ret
    exact .no hv.out
  clear hlen
  by_cases h4 : s = t
  · have hv : Hid (¬ Valid n A s t) := fun h => h.2.2.2.2.2.2.2.2 h4
    subst h4
    go_enter Try.func22, Try.ntmps22
    go_wp2_with fail
    go_ret
    exact .no hv.out
  have h4' : (s == t) = false := by simp; exact h4
  by_cases h5 : 0 ≤ s ∧ s < n
  case neg =>
    have hv : Hid (¬ Valid n A s t) := fun h => h5 ⟨h.2.2.2.2.1, h.2.2.2.2.2.1⟩
    have k := Lib.hid (node_no h5 w)
    clear h5
    go_enter Try.func22, Try.ntmps22
    go_wp2_with (go_at_call 28; refine k.out.mono ?_; rintro e1 w1 ⟨rfl, rfl⟩)
    go_ret
    exact .no hv.out
  by_cases h6 : 0 ≤ t ∧ t < n
  case neg =>
    have hv : Hid (¬ Valid n A s t) := fun h => h6 ⟨h.2.2.2.2.2.2.1, h.2.2.2.2.2.2.2.1⟩
    have k := Lib.hid (And.intro (node_yes h5.1 h5.2 w) (node_no h6 w))
    clear h6 h5
    go_enter Try.func22, Try.ntmps22
    go_wp2_with (go_at_call 28; (first | ((with_reducible refine k.out.1.mono ?_); rintro e1 w1 ⟨rfl, rfl⟩) | ((with_reducible refine k.out.2.mono ?_); rintro e1 w1 ⟨rfl, rfl⟩) | fail))
    go_ret
    exact .no hv.out
  have k := Lib.hid (And.intro (node_yes h5.1 h5.2 w) (node_yes h6.1 h6.2 w))
  have H56 := Lib.hid (And.intro h5 (And.intro h6 h4))
  clear h5 h6 h4
  go_enter Try.func22, Try.ntmps22
  go_wp2_with (go_at_call 28; (first | ((with_reducible refine k.out.1.mono ?_); rintro e1 w1 ⟨rfl, rfl⟩) | ((with_reducible refine k.out.2.mono ?_); rintro e1 w1 ⟨rfl, rfl⟩) | fail))
  go_loop [9] (fun i => ∃ k : Nat, k ≤ A.length ∧ i = .int .i64 k ∧ Hid (∀ (j : Nat) a, j < k → A[j]? = some a → good n a)) (fun i => A.length - (intOf i).toNat)
  case atStart => exact ⟨0, Nat.zero_le _, rfl, fun j a hj => absurd hj (Nat.not_lt_zero _)⟩
  case round =>
    obtain ⟨k, hk, rfl, hg⟩ := hrel
    by_cases hlt : k < A.length
    · obtain ⟨b, off, x, y, z, rfl, hbb, ha, c0, c1, c2⟩ := hC.at_ hlt
      have no : ¬ good n (x, y, z) → Hid (¬ Valid n A s t) := fun hgd => fun h => hgd (h.2.2.2.1 k _ ha.out)
      by_cases g1 : 0 ≤ x ∧ x < n
      case neg =>
        have hv := no (fun g => g1 ⟨g.1, g.2.1⟩)
        have q := Lib.hid (node_no g1 w)
        clear no g1 hg
        go_wp2_with (go_at_call 28; refine q.out.mono ?_; rintro e1 w1 ⟨rfl, rfl⟩)
        go_ret
        exact .no hv.out
      by_cases g2 : 0 ≤ y ∧ y < n
      case neg =>
        have hv := no (fun g => g2 ⟨g.2.2.1, g.2.2.2.1⟩)
        have q := Lib.hid (And.intro (node_yes g1.1 g1.2 w) (node_no g2 w))
        clear no g1 g2 hg
        go_wp2_with (go_at_call 28; (first | ((with_reducible refine q.out.1.mono ?_); rintro e1 w1 ⟨rfl, rfl⟩) | ((with_reducible refine q.out.2.mono ?_); rintro e1 w1 ⟨rfl, rfl⟩) | fail))
        go_ret
        exact .no hv.out
      have q := Lib.hid (And.intro (node_yes g1.1 g1.2 w) (node_yes g2.1 g2.2 w))
      by_cases g3 : 0 ≤ z
      case neg =>
        have hv := no (fun g => g3 g.2.2.2.2.1)
        clear no g1 g2 hg
        go_wp2_with (go_at_call 28; (first | ((with_reducible refine q.out.1.mono ?_); rintro e1 w1 ⟨rfl, rfl⟩) | ((with_reducible refine q.out.2.mono ?_); rintro e1 w1 ⟨rfl, rfl⟩) | fail))
        go_ret
        exact .no hv.out
      by_cases g4 : z ≤ 1125899906842624
      case neg =>
        have hv := no (fun g => g4 g.2.2.2.2.2)
        clear no g1 g2 hg
        go_wp2_with (go_at_call 28; (first | ((with_reducible refine q.out.1.mono ?_); rintro e1 w1 ⟨rfl, rfl⟩) | ((with_reducible refine q.out.2.mono ?_); rintro e1 w1 ⟨rfl, rfl⟩) | fail))
        go_ret
        exact .no hv.out
      have hg' : Hid (∀ (j : Nat) a, j < k + 1 → A[j]? = some a → good n a) := by
        intro j a hj hja
        by_cases g : j < k
        · exact hg.out j a g hja
        · obtain rfl : j = k := by omega
          rw [ha.out] at hja
          obtain rfl := Option.some.inj hja
          exact ⟨g1.1, g1.2, g2.1, g2.2, g3, g4⟩
      clear no g1 g2 hg
      go_wp2_with (go_at_call 28; (first | ((with_reducible refine q.out.1.mono ?_); rintro e1 w1 ⟨rfl, rfl⟩) | ((with_reducible refine q.out.2.mono ?_); rintro e1 w1 ⟨rfl, rfl⟩) | fail))
      go_round
      case rel => exact ⟨k + 1, by omega, by go_num, hg'⟩
      case measure => simp [intOf]; omega
    · have hv : Hid (Valid n A s t) := ⟨h1, h2, h3, fun j a hj => hg.out j a (by have := (List.getElem?_eq_some_iff.1 hj).1; omega) hj, H56.out.1.1, H56.out.1.2, H56.out.2.1.1, H56.out.2.1.2, H56.out.2.2⟩
      clear hg
      go_wp2_with fail
      go_ret
      exact ⟨by rw [validB_true hv.out]; rfl, rfl⟩
end Go.Proofs.Ytanhhdfffggdmaa
