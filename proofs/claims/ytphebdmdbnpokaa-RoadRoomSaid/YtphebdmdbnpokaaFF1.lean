/- Walks of flow.valid and its like: the tests of a network. -/
import Derived.Test.YtphebdmdbnpokaaRows
import Derived.Test.YtphebdmdbnpokaaMem
import Derived.Test.YtphebdmdbnpokaaFMath5
set_option linter.unusedSimpArgs false
set_option linter.unusedVariables false
namespace Go.Proofs.Ytphebdmdbnpokaa.FL
open Go.RowKit FM

/-- A slice of arcs: three cells each. -/
def arcF (A : List Arc) (j : Nat) : Value := .int .i64 (match j % 3 with | 0 => (A.getD (j / 3) dA).1 | 1 => (A.getD (j / 3) dA).2.1 | _ => (A.getD (j / 3) dA).2.2)
def ArcsAt (w : World) (B : Nat) (C : Option Addr) (A : List Arc) : Prop := CellsAt w B C (3 * A.length) (arcF A)
theorem ArcsAt.at_ {w : World} {B : Nat} {C : Option Addr} {A : List Arc} (h : ArcsAt w B C A) {k : Nat} (hk : k < A.length) : ∃ b off x y z, C = some ⟨b, off, none⟩ ∧ b < B ∧ Hid (A[k]? = some (x, y, z)) ∧
    w.cell? ⟨b, off + k * 3, none⟩ = some (.int .i64 x) ∧ w.cell? ⟨b, off + k * 3 + 1, none⟩ = some (.int .i64 y) ∧ w.cell? ⟨b, off + k * 3 + 2, none⟩ = some (.int .i64 z) := by
  obtain ⟨b, off, e, hb, hc⟩ := h (by omega)
  have c0 := hc (k * 3) (by omega)
  have c1 := hc (k * 3 + 1) (by omega)
  have c2 := hc (k * 3 + 2) (by omega)
  have m0 : (k * 3) % 3 = 0 := by omega
  have m1 : (k * 3 + 1) % 3 = 1 := by omega
  have m2 : (k * 3 + 2) % 3 = 2 := by omega
  have d0 : (k * 3) / 3 = k := by omega
  have d1 : (k * 3 + 1) / 3 = k := by omega
  have d2 : (k * 3 + 2) / 3 = k := by omega
  simp only [arcF, m0, m1, m2, d0, d1, d2] at c0 c1 c2
  refine ⟨b, off, (A.getD k dA).1, (A.getD k dA).2.1, (A.getD k dA).2.2, e, hb, ?_, c0, c1, c2⟩
  show A[k]? = _
  simp [List.getD, List.getElem?_eq_getElem hk]

theorem ArcsAt.below {w w' : World} {B : Nat} {C : Option Addr} {A : List Arc} (h : ArcsAt w B C A) (hb : Below B w w') : ArcsAt w' B C A := CellsAt.below h hb
theorem ArcsAt.more {w : World} {B B' : Nat} {C : Option Addr} {A : List Arc} (h : ArcsAt w B C A) (hB : B ≤ B') : ArcsAt w B' C A := CellsAt.more h hB
def good (n : Int) (a : Arc) : Prop := 0 ≤ a.1 ∧ a.1 < n ∧ 0 ≤ a.2.1 ∧ a.2.1 < n ∧ 0 ≤ a.2.2 ∧ a.2.2 ≤ 1125899906842624
def Valid (n : Int) (A : List Arc) (s t : Int) : Prop := 1 ≤ n ∧ n ≤ 256 ∧ A.length ≤ 4096 ∧ (∀ (k : Nat) a, A[k]? = some a → good n a) ∧ 0 ≤ s ∧ s < n ∧ 0 ≤ t ∧ t < n ∧ s ≠ t
noncomputable def validB (n : Int) (A : List Arc) (s t : Int) : Bool := @decide (Valid n A s t) (Classical.propDecidable _)
theorem validB_true {n : Int} {A : List Arc} {s t : Int} (h : Valid n A s t) : validB n A s t = true := @decide_eq_true _ (Classical.propDecidable _) h
theorem validB_false {n : Int} {A : List Arc} {s t : Int} (h : ¬ Valid n A s t) : validB n A s t = false := @decide_eq_false _ (Classical.propDecidable _) h
theorem validB_of {n : Int} {A : List Arc} {s t : Int} (h : validB n A s t = true) : Valid n A s t := @of_decide_eq_true _ (Classical.propDecidable _) h

def ValidIs (n : Int) (A : List Arc) (s t : Int) (w : World) (e : Ending) (w' : World) : Prop := e = .returned (.bool (validB n A s t)) ∧ Below w.heap.size w w'
theorem ValidIs.no {n : Int} {A : List Arc} {s t : Int} {w w' : World} (h : ¬ Valid n A s t) (hb : Below w.heap.size w w') : ValidIs n A s t w (.returned (.bool false)) w' := ⟨by rw [validB_false h], hb⟩

set_option maxHeartbeats 1000000 in
theorem valid_any (n s t : Int) (C : Option Addr) (cc : Nat) (A : List Arc) (w : World) (hC : ArcsAt w w.heap.size C A) (hlen : A.length ≤ 9223372036854775807) :
    Calls Try.prog 33 #[.int .i64 n, .slice C A.length cc, .int .i64 s, .int .i64 t] w (ValidIs n A s t w) := by
  by_cases h1 : 1 ≤ n
  case neg =>
    have hv : Hid (¬ Valid n A s t) := fun h => h1 h.1
    go_enter Try.func33, Try.ntmps33
    go_wp2
    go_ret
    exact .no hv.out (Below.refl _ _)
  by_cases h2 : n ≤ 256
  case neg =>
    have hv : Hid (¬ Valid n A s t) := fun h => h2 h.2.1
    go_enter Try.func33, Try.ntmps33
    go_wp2
    go_ret
    exact .no hv.out (Below.refl _ _)
  by_cases h3 : A.length ≤ 4096
  case neg =>
    have hv : Hid (¬ Valid n A s t) := fun h => h3 h.2.2.1
    have h3' : (4096 : Int) < (A.length : Int) := by omega
    go_enter Try.func33, Try.ntmps33
    go_wp2
    go_ret
    exact .no hv.out (Below.refl _ _)
  clear hlen
  go_enter Try.func33, Try.ntmps33
  go_wp2
  go_loopw [10, 24, 26, 27] (fun _ i _ _ wr => ∃ k : Nat, k ≤ A.length ∧ i = .int .i64 k ∧ Hid (∀ (j : Nat) a, j < k → A[j]? = some a → good n a) ∧ Below w.heap.size w wr) (fun _ i _ _ _ => A.length - (intOf i).toNat)
  case atStart => exact ⟨0, Nat.zero_le _, rfl, fun j a hj => absurd hj (by omega), Below.refl _ _⟩
  case round =>
    obtain ⟨k, hk, rfl, hg, hb⟩ := hrel
    by_cases hlt : k < A.length
    · obtain ⟨b, off, x, y, z, rfl, hbb, ha, c0, c1, c2⟩ := (hC.below hb).at_ hlt
      by_cases hgd : good n (x, y, z)
      · have hg' : Hid (∀ (j : Nat) a, j < k + 1 → A[j]? = some a → good n a) := by
          intro j a hj hja
          by_cases g : j < k
          · exact hg.out j a g hja
          · obtain rfl : j = k := by omega
            rw [ha.out] at hja
            obtain rfl := Option.some.inj hja
            exact hgd
        have hb2 := hb.alloc hb.size (.cells #[.int .i64 x, .int .i64 y, .int .i64 z] 66)
        obtain ⟨g0, g1, g2, g3, g4, g5⟩ := hgd
        have g0 : 0 ≤ x := g0
        have g1 : x < n := g1
        have g2 : 0 ≤ y := g2
        have g3 : y < n := g3
        have g4 : 0 ≤ z := g4
        have g5 : z ≤ 1125899906842624 := g5
        go_wp2
        go_roundw
        case rel => exact ⟨k + 1, by omega, by go_num, hg', hb2⟩
        case measure => simp [intOf]; omega
      · have hv : Hid (¬ Valid n A s t) := fun h => hgd (h.2.2.2.1 k _ ha.out)
        have hgd' : Hid (¬ (0 ≤ x ∧ x < n ∧ 0 ≤ y ∧ y < n ∧ 0 ≤ z ∧ z ≤ 1125899906842624)) := hgd
        have hb2 := hb.alloc hb.size (.cells #[.int .i64 x, .int .i64 y, .int .i64 z] 66)
        clear hgd hg
        go_wp2
        all_goals first | (go_ret; exact .no hv.out hb2) | (exfalso; refine hgd'.out ⟨?_, ?_, ?_, ?_, ?_, ?_⟩ <;> omega)
    · have hall : Hid (∀ (k : Nat) a, A[k]? = some a → good n a) := fun j a hj => hg.out j a (by
        have := (List.getElem?_eq_some_iff.1 hj).1; omega) hj
      clear hg
      by_cases g0 : 0 ≤ s
      case neg =>
        have hv : Hid (¬ Valid n A s t) := fun h => g0 (h.2.2.2.2.1)
        go_wp2
        go_ret
        exact .no hv.out hb
      by_cases g1 : s < n
      case neg =>
        have hv : Hid (¬ Valid n A s t) := fun h => g1 (h.2.2.2.2.2.1)
        go_wp2
        go_ret
        exact .no hv.out hb
      by_cases g2 : 0 ≤ t
      case neg =>
        have hv : Hid (¬ Valid n A s t) := fun h => g2 (h.2.2.2.2.2.2.1)
        go_wp2
        go_ret
        exact .no hv.out hb
      by_cases g3 : t < n
      case neg =>
        have hv : Hid (¬ Valid n A s t) := fun h => g3 (h.2.2.2.2.2.2.2.1)
        go_wp2
        go_ret
        exact .no hv.out hb
      by_cases g4 : s = t
      · subst g4
        have hv : Hid (¬ Valid n A s s) := fun h => h.2.2.2.2.2.2.2.2 rfl
        have g4' : (s != s) = false := by simp
        go_wp2
        go_ret
        exact .no hv.out hb
      · have hv : Hid (Valid n A s t) := ⟨h1, h2, h3, hall.out, g0, g1, g2, g3, g4⟩
        have g4' : (s != t) = true := by rw [bne_iff_ne]; exact g4
        go_wp2
        go_ret
        exact ⟨by rw [validB_true hv.out]; rfl, hb⟩
end Go.Proofs.Ytphebdmdbnpokaa.FL
