/- The walk of few. -/
import Derived.Test.YtaemahhcacolgaaW14
namespace Go.Proofs.Ytaemahhcacolgaa
open Go.RowKit LX

def FewIs (A : List MTok) (w : World) (e : Ending) (w' : World) : Prop := e = .returned (.bool (fewT A)) ∧ w = w'
theorem few_any (C : Option Addr) (cc : Nat) (A : List MTok) (w : World) {B : Nat} (hC : ToksAt w B C A) (hl : A.length ≤ 9223372036854775807) :
    Calls Try.prog 9 #[.slice C A.length cc] w (FewIs A w) := by
  by_cases h2 : A.length ≤ 200
  case neg =>
    have HF : Hid (fewT A = false) := by show (decide _ && _) = false; rw [decide_eq_false h2]; rfl
    have e1 : (200 : Int) < (A.length : Int) := by omega
    go_enter Try.func9, Try.ntmps9
    go_wp2_with fail
    go_ret
    exact ⟨ret_bool HF.out.symm, rfl⟩
  have e1 : ¬ (200 : Int) < (A.length : Int) := by omega
  go_enter Try.func9, Try.ntmps9
  go_wp2_with fail
  go_loop [3] (fun i => ∃ k : Nat, k ≤ A.length ∧ i = .int .i64 k ∧ Hid (∀ j t, j < k → A[j]? = some t → t.2.1.length ≤ 600)) (fun i => A.length - (intOf i).toNat)
  case atStart => exact ⟨0, Nat.zero_le _, rfl, fun j _ hj => absurd hj (Nat.not_lt_zero _)⟩
  case round =>
    obtain ⟨k, hk, rfl, hm⟩ := hrel
    by_cases hlt : k < A.length
    · obtain ⟨b, off, x, y, z, rfl, hb, ha, c0, c1, c2⟩ := hC.at_ hlt
      have hsz : (bs y).size = y.length := rfl
      by_cases h6 : y.length ≤ 600
      · have hm' : Hid (∀ j t, j < k + 1 → A[j]? = some t → t.2.1.length ≤ 600) := fun j t hj ht => by
          by_cases g : j < k
          · exact hm.out j t g ht
          · obtain rfl : j = k := by omega
            rw [ha.out] at ht
            obtain rfl := Option.some.inj ht
            exact h6
        clear hm
        go_wp2_with fail
        go_round
        case rel => exact ⟨k + 1, by omega, by go_num, hm'⟩
        case measure => simp [intOf]; omega
      · have HF : Hid (fewT A = false) := by
          show (_ && List.all A _) = false
          rw [show A.all (fun t => decide (t.2.1.length ≤ 600)) = false from ?_, Bool.and_false]
          rw [List.all_eq_false]
          exact ⟨_, List.mem_of_getElem? ha.out, by simpa using h6⟩
        clear hm
        go_wp2_with fail
        go_ret
        exact ⟨ret_bool HF.out.symm, rfl⟩
    · have HF : Hid (fewT A = true) := by
        show (decide _ && List.all A _) = true
        rw [decide_eq_true h2, Bool.true_and, List.all_eq_true]
        intro t ht
        obtain ⟨j, hj⟩ := List.getElem?_of_mem ht
        exact decide_eq_true (hm.out j t (by have := (List.getElem?_eq_some_iff.1 hj).1; omega) hj)
      clear hm
      go_wp2_with fail
      go_ret
      exact ⟨ret_bool HF.out.symm, rfl⟩
end Go.Proofs.Ytaemahhcacolgaa
