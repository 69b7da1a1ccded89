/- The plain law of floods: lower volumes shut nothing. -/
import Derived.Test.YtphebdmdbnpokaaLW0
import Derived.Test.YtphebdmdbnpokaaR7
set_option linter.unusedSimpArgs false
set_option linter.unusedVariables false
namespace Go.Proofs.Ytphebdmdbnpokaa
open RD FM
namespace RD
section
variable {N P nT : Nat} {lo hi : Vs} {R : List Rd}
theorem WayR.town {VS : Vs} {tn : Int} {l : List Nat} (h : WayR N P nT VS R tn l true) : ∃ t : Nat, tn = t ∧ t < nT := by
  rcases h with ⟨h, _⟩ | ⟨_, h1, h2, _⟩
  · cases h
  · exact ⟨tn.toNat, by omega, by omega⟩
theorem floods_ways (hN : nT ≤ N) (hL : Lower lo hi) {tn : Int} {l m : List Nat} {one : Bool} (h1 : WayR N P nT lo R tn l one) (h2 : WayR N P nT hi R tn m true) : one = true ∧ travS N P nT lo R tn (intsOf l) ≤ travS N P nT hi R tn (intsOf m) := by
  obtain ⟨t, rfl, ht⟩ := h2.town
  obtain ⟨_, _, hp, _⟩ := ways_walk hN h2
  obtain ⟨v, v1, v2, ha⟩ := travS_at hp
  have ha := hL.at_ ha
  have hle := at_le ha
  rcases h1 with ⟨_, _, h⟩ | ⟨rfl, _, _, b, hb, hc⟩
  · rw [Int.toNat_natCast] at h
    rcases h with h | h | h
    · omega
    · omega
    · rcases best_cases (arr N P lo R t) nT (N - nT) with ⟨_, hb⟩ | ⟨b, hb, _⟩
      · have := hb v v1 (by omega); omega
      · omega
  · refine ⟨rfl, ?_⟩
    rw [Int.toNat_natCast] at hb hc
    rcases best_cases (arr N P lo R t) nT (N - nT) with ⟨e, _⟩ | ⟨b', e, q1, q2, q3, q4⟩
    · omega
    · obtain rfl : b = b' := by omega
      have a := arr_isarr q3
      have hs := travS_chain q1 (by omega) ht hc a
      have := q4 v v1 (by omega) hle.1
      omega
theorem way_len (hN : nT ≤ N) {VS : Vs} {tn : Int} {l : List Nat} {ok : Bool} (h : WayR N P nT VS R tn l ok) : l.length ≤ N := by
  cases ok
  · rcases h with ⟨_, rfl, _⟩ | ⟨h, _⟩
    · simp
    · cases h
  · obtain ⟨t, rfl, _⟩ := h.town
    exact (ways_walk hN h).2.1
theorem Lower.pass0 (hL : Lower lo hi) {r : Rd} (h : passB r (hi.getD 0 []) = true) : passB r (lo.getD 0 []) = true := by
  refine passB_mono (fun p => ?_) h
  by_cases h0 : 0 < lo.length
  · exact (hL.2 0 h0).2 p
  · have h1 : lo = [] := List.length_eq_zero_iff.1 (by omega)
    have h2 : hi = [] := List.length_eq_zero_iff.1 (by have := hL.1; omega)
    rw [h1, h2]; exact Int.le_refl _
end
theorem openB_mono {N P : Nat} {R : List Rd} {lo hi : Vs} (hL : Lower lo hi) {k : Nat} (h : openB N P R k (hi.getD 0 []) = true) : openB N P R k (lo.getD 0 []) = true := by
  by_cases hk : k < R.length
  · have hr : R[k]? = some (R[k]) := List.getElem?_eq_getElem hk
    rw [openB_at hr, Bool.and_eq_true] at h ⊢
    exact ⟨h.1, hL.pass0 h.2⟩
  · rw [openB_out (by omega)] at h; cases h
end RD
theorem room_mono {X : Bs} {lo hi : Vs} (hL : Lower lo hi) {hours : Int} {f f' : List Int} {v v' : Int} {Q Q' : Int → Bool}
    (m : MaxOf (X.N + 2) (roomNet X (hi.getD 0 []) hours) X.N ((X.N : Int) + 1) f v Q) (m' : MaxOf (X.N + 2) (roomNet X (lo.getD 0 []) hours) X.N ((X.N : Int) + 1) f' v' Q') : v ≤ v' :=
  net_mono (rfl : X.N = X.T.length + X.S.length) (fun r h => by
    unfold opB at h ⊢
    rw [Bool.and_eq_true] at h ⊢
    exact ⟨h.1, hL.pass0 h.2⟩) (fun r h => opB_us h) (limH_bd hours).1 (Int.le_refl _) (limH_bd hours).2 m m'
end Go.Proofs.Ytphebdmdbnpokaa
