/- The plain law of ways: no walk is earlier than the way. -/
import Derived.Test.YtphebdmdbnpokaaS3
import Derived.Test.YtphebdmdbnpokaaR6
set_option linter.unusedSimpArgs false
set_option linter.unusedVariables false
namespace Go.Proofs.Ytphebdmdbnpokaa
open RD
namespace RD
section
variable {N P nT : Nat} {VS : Vs} {R : List Rd} {town : Nat}
theorem getLast_getD : ∀ (l : List Int) (h : l ≠ []), l.getD (l.length - 1) 0 = l.getLast h := fun l h => by
  rw [List.getLast_eq_getElem, List.getD_eq_getElem?_getD, List.getElem?_eq_getElem (by have := List.length_pos_iff.2 h; omega)]; rfl
theorem travS_at {l : List Int} (h : 0 ≤ travS N P nT VS R town l) : ∃ v : Nat, nT ≤ v ∧ v < N ∧ At N P VS R town v (travS N P nT VS R town l).toNat := by
  unfold travS at h ⊢
  by_cases h1 : l.length < 2 ∨ l.getD 0 0 ≠ town
  · rw [if_pos h1] at h; omega
  · rw [if_neg h1] at h ⊢
    by_cases h2 : trav N P VS R (l.getD 0 0) 0 (l.drop 1) < 0
    · rw [if_pos h2] at h; omega
    · rw [if_neg h2] at h ⊢
      by_cases h3 : l.getD (l.length - 1) 0 < nT ∨ (N : Int) ≤ l.getD (l.length - 1) 0
      · rw [if_pos h3] at h; omega
      · rw [if_neg h3]
        have h1a : 2 ≤ l.length := by omega
        have h1b : l.getD 0 0 = town := by
          by_cases e : l.getD 0 0 = town
          · exact e
          · exact absurd (.inr e) h1
        match l, h1a, h1b, h2, h3 with
        | u :: m, _, hu, h2, h3 =>
          obtain rfl : u = (town : Int) := hu
          have := trav_at (N := N) (P := P) (VS := VS) (R := R) (town := town) (l := m) (u := (town : Int)) (now := 0) (by rw [Int.toNat_natCast]; exact .start) (by simpa using h2)
          refine ⟨(((town : Int) :: m).getLast (by simp)).toNat, ?_, ?_, by simpa using this⟩
          · rw [getLast_getD _ (by simp)] at h3; omega
          · rw [getLast_getD _ (by simp)] at h3; omega
theorem travS_chain {v : Nat} {l : List Nat} (hv : nT ≤ v) (hvN : v < N) (ht : town < nT) (hc : Chain (bef N P VS (arr N P VS R town) R) town v l) {h : Nat} (a : IsArr N P VS R town v h) : travS N P nT VS R town (intsOf l) = h := by
  obtain ⟨m, e1, e2, e3⟩ := chain_trav hc a
  rw [e1]
  have hm : m ≠ [] := by
    rintro rfl
    simp at e3; omega
  have hl : 1 ≤ m.length := List.length_pos_iff.2 hm
  unfold travS
  rw [if_neg (by rintro (g | g)
                 · simp at g; omega
                 · exact g rfl)]
  have d0 : ((town : Int) :: m).getD 0 0 = town := rfl
  have d1 : ((town : Int) :: m).drop 1 = m := rfl
  rw [d0, d1, e2, if_neg (by omega), getLast_getD _ (by simp), e3, if_neg (by omega)]
theorem ways_no_walk (hN : nT ≤ N) {l : List Nat} (h : WayR N P nT VS R town l false) (ht : town < nT) (m : List Int) : travS N P nT VS R town m < 0 := by
  rcases h with ⟨_, _, h⟩ | ⟨h, _⟩
  · by_cases q : travS N P nT VS R town m < 0
    · exact q
    · obtain ⟨v, h1, h2, ha⟩ := travS_at (by omega : 0 ≤ travS N P nT VS R town m)
      rw [Int.toNat_natCast] at h
      rcases h with h | h | h
      · omega
      · omega
      · rcases best_cases (arr N P VS R town) nT (N - nT) with ⟨_, hb⟩ | ⟨b, hb, _⟩
        · have := hb v h1 (by omega)
          have := at_le ha
          omega
        · omega
  · cases h
theorem ways_walk (hN : nT ≤ N) {l : List Nat} (h : WayR N P nT VS R town l true) : l.Nodup ∧ l.length ≤ N ∧ 0 ≤ travS N P nT VS R town (intsOf l) ∧ ∀ m, 0 ≤ travS N P nT VS R town m → travS N P nT VS R town (intsOf l) ≤ travS N P nT VS R town m := by
  rcases h with ⟨h, _⟩ | ⟨_, _, h2, b, hb, hc⟩
  · cases h
  · rw [Int.toNat_natCast] at hb hc
    have ht : town < nT := by omega
    rcases best_cases (arr N P VS R town) nT (N - nT) with ⟨e, _⟩ | ⟨b', e, q1, q2, q3, q4⟩
    · omega
    · obtain rfl : b = b' := by omega
      have a := arr_isarr q3
      have hd := chain_asc hc a
      have hs := travS_chain q1 (by omega) ht hc a
      refine ⟨hd.2.1, chain_len (by omega) hc a, by omega, fun m hm => ?_⟩
      obtain ⟨v, v1, v2, ha⟩ := travS_at hm
      have hle := at_le ha
      have := q4 v v1 (by omega) hle.1
      omega
end
end RD
end Go.Proofs.Ytphebdmdbnpokaa
