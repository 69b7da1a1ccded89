/- Joined of: LW0 LF0. -/
import Derived.Test.YtphebdmdbnpokaaS3
import Derived.Test.YtphebdmdbnpokaaR6
import Derived.Test.YtphebdmdbnpokaaR7
/- The plain law of ways: no walk is earlier than the way. -/
set_option linter.unusedSimpArgs false
set_option linter.unusedVariables false
namespace Go.Proofs.Ytphebdmdbnpokaa
open RD
namespace RD
section
variable {N P nT : Nat} {VS : Vs} {R : List Rd} {town : Nat}
theorem getLast_getD : ∀ (l : List Int) (h : l ≠ []), l.getD (l.length - 1) 0 = l.getLast h := fun l h => by
  rw [List.getLast_eq_getElem, List.getD_eq_getElem?_getD, List.getElem?_eq_getElem (by have := List.length_pos_iff.2 h; omega)]; rfl
theorem travS_at {l : List Int} (h : 0 ≤ travS N P nT VS R town l) : ∃ v : Nat, nT ≤ v ∧ v < N ∧ At N P VS R town v (travS N P nT VS R town l).toNat := by
  unfold travS at h ⊢
  by_cases h1 : l.length < 2 ∨ l.getD 0 0 ≠ town
  · rw [if_pos h1] at h; omega
  · rw [if_neg h1] at h ⊢
    by_cases h2 : trav N P VS R (l.getD 0 0) 0 (l.drop 1) < 0
    · rw [if_pos h2] at h; omega
    · rw [if_neg h2] at h ⊢
      by_cases h3 : l.getD (l.length - 1) 0 < nT ∨ (N : Int) ≤ l.getD (l.length - 1) 0
      · rw [if_pos h3] at h; omega
      · rw [if_neg h3]
        have h1a : 2 ≤ l.length := by omega
        have h1b : l.getD 0 0 = town := by
          by_cases e : l.getD 0 0 = town
          · exact e
          · exact absurd (.inr e) h1
        match l, h1a, h1b, h2, h3 with
        | u :: m, _, hu, h2, h3 =>
          obtain rfl : u = (town : Int) := hu
          have := trav_at (N := N) (P := P) (VS := VS) (R := R) (town := town) (l := m) (u := (town : Int)) (now := 0) (by rw [Int.toNat_natCast]; exact .start) (by simpa using h2)
          refine ⟨(((town : Int) :: m).getLast (by simp)).toNat, ?_, ?_, by simpa using this⟩
          · rw [getLast_getD _ (by simp)] at h3; omega
          · rw [getLast_getD _ (by simp)] at h3; omega
theorem travS_chain {v : Nat} {l : List Nat} (hv : nT ≤ v) (hvN : v < N) (ht : town < nT) (hc : Chain (bef N P VS (arr N P VS R town) R) town v l) {h : Nat} (a : IsArr N P VS R town v h) : travS N P nT VS R town (intsOf l) = h := by
  obtain ⟨m, e1, e2, e3⟩ := chain_trav hc a
  rw [e1]
  have hm : m ≠ [] := by
    rintro rfl
    simp at e3; omega
  have hl : 1 ≤ m.length := List.length_pos_iff.2 hm
  unfold travS
  rw [if_neg (by rintro (g | g)
                 · simp at g; omega
                 · exact g rfl)]
  have d0 : ((town : Int) :: m).getD 0 0 = town := rfl
  have d1 : ((town : Int) :: m).drop 1 = m := rfl
  rw [d0, d1, e2, if_neg (by omega), getLast_getD _ (by simp), e3, if_neg (by omega)]
theorem ways_no_walk (hN : nT ≤ N) {l : List Nat} (h : WayR N P nT VS R town l false) (ht : town < nT) (m : List Int) : travS N P nT VS R town m < 0 := by
  rcases h with ⟨_, _, h⟩ | ⟨h, _⟩
  · by_cases q : travS N P nT VS R town m < 0
    · exact q
    · obtain ⟨v, h1, h2, ha⟩ := travS_at (by omega : 0 ≤ travS N P nT VS R town m)
      rw [Int.toNat_natCast] at h
      rcases h with h | h | h
      · omega
      · omega
      · rcases best_cases (arr N P VS R town) nT (N - nT) with ⟨_, hb⟩ | ⟨b, hb, _⟩
        · have := hb v h1 (by omega)
          have := at_le ha
          omega
        · omega
  · cases h
theorem ways_walk (hN : nT ≤ N) {l : List Nat} (h : WayR N P nT VS R town l true) : l.Nodup ∧ l.length ≤ N ∧ 0 ≤ travS N P nT VS R town (intsOf l) ∧ ∀ m, 0 ≤ travS N P nT VS R town m → travS N P nT VS R town (intsOf l) ≤ travS N P nT VS R town m := by
  rcases h with ⟨h, _⟩ | ⟨_, _, h2, b, hb, hc⟩
  · cases h
  · rw [Int.toNat_natCast] at hb hc
    have ht : town < nT := by omega
    rcases best_cases (arr N P VS R town) nT (N - nT) with ⟨e, _⟩ | ⟨b', e, q1, q2, q3, q4⟩
    · omega
    · obtain rfl : b = b' := by omega
      have a := arr_isarr q3
      have hd := chain_asc hc a
      have hs := travS_chain q1 (by omega) ht hc a
      refine ⟨hd.2.1, chain_len (by omega) hc a, by omega, fun m hm => ?_⟩
      obtain ⟨v, v1, v2, ha⟩ := travS_at hm
      have hle := at_le ha
      have := q4 v v1 (by omega) hle.1
      omega
end
end RD
end Go.Proofs.Ytphebdmdbnpokaa

/- The plain law of floods: lower volumes shut nothing. -/
namespace Go.Proofs.Ytphebdmdbnpokaa
open RD FM
namespace RD
section
variable {N P nT : Nat} {lo hi : Vs} {R : List Rd}
theorem WayR.town {VS : Vs} {tn : Int} {l : List Nat} (h : WayR N P nT VS R tn l true) : ∃ t : Nat, tn = t ∧ t < nT := by
  rcases h with ⟨h, _⟩ | ⟨_, h1, h2, _⟩
  · cases h
  · exact ⟨tn.toNat, by omega, by omega⟩
theorem floods_ways (hN : nT ≤ N) (hL : Lower lo hi) {tn : Int} {l m : List Nat} {one : Bool} (h1 : WayR N P nT lo R tn l one) (h2 : WayR N P nT hi R tn m true) : one = true ∧ travS N P nT lo R tn (intsOf l) ≤ travS N P nT hi R tn (intsOf m) := by
  obtain ⟨t, rfl, ht⟩ := h2.town
  obtain ⟨_, _, hp, _⟩ := ways_walk hN h2
  obtain ⟨v, v1, v2, ha⟩ := travS_at hp
  have ha := hL.at_ ha
  have hle := at_le ha
  rcases h1 with ⟨_, _, h⟩ | ⟨rfl, _, _, b, hb, hc⟩
  · rw [Int.toNat_natCast] at h
    rcases h with h | h | h
    · omega
    · omega
    · rcases best_cases (arr N P lo R t) nT (N - nT) with ⟨_, hb⟩ | ⟨b, hb, _⟩
      · have := hb v v1 (by omega); omega
      · omega
  · refine ⟨rfl, ?_⟩
    rw [Int.toNat_natCast] at hb hc
    rcases best_cases (arr N P lo R t) nT (N - nT) with ⟨e, _⟩ | ⟨b', e, q1, q2, q3, q4⟩
    · omega
    · obtain rfl : b = b' := by omega
      have a := arr_isarr q3
      have hs := travS_chain q1 (by omega) ht hc a
      have := q4 v v1 (by omega) hle.1
      omega
theorem way_len (hN : nT ≤ N) {VS : Vs} {tn : Int} {l : List Nat} {ok : Bool} (h : WayR N P nT VS R tn l ok) : l.length ≤ N := by
  cases ok
  · rcases h with ⟨_, rfl, _⟩ | ⟨h, _⟩
    · simp
    · cases h
  · obtain ⟨t, rfl, _⟩ := h.town
    exact (ways_walk hN h).2.1
theorem Lower.pass0 (hL : Lower lo hi) {r : Rd} (h : passB r (hi.getD 0 []) = true) : passB r (lo.getD 0 []) = true := by
  refine passB_mono (fun p => ?_) h
  by_cases h0 : 0 < lo.length
  · exact (hL.2 0 h0).2 p
  · have h1 : lo = [] := List.length_eq_zero_iff.1 (by omega)
    have h2 : hi = [] := List.length_eq_zero_iff.1 (by have := hL.1; omega)
    rw [h1, h2]; exact Int.le_refl _
end
theorem openB_mono {N P : Nat} {R : List Rd} {lo hi : Vs} (hL : Lower lo hi) {k : Nat} (h : openB N P R k (hi.getD 0 []) = true) : openB N P R k (lo.getD 0 []) = true := by
  by_cases hk : k < R.length
  · have hr : R[k]? = some (R[k]) := List.getElem?_eq_getElem hk
    rw [openB_at hr, Bool.and_eq_true] at h ⊢
    exact ⟨h.1, hL.pass0 h.2⟩
  · rw [openB_out (by omega)] at h; cases h
end RD
theorem room_mono {X : Bs} {lo hi : Vs} (hL : Lower lo hi) {hours : Int} {f f' : List Int} {v v' : Int} {Q Q' : Int → Bool}
    (m : MaxOf (X.N + 2) (roomNet X (hi.getD 0 []) hours) X.N ((X.N : Int) + 1) f v Q) (m' : MaxOf (X.N + 2) (roomNet X (lo.getD 0 []) hours) X.N ((X.N : Int) + 1) f' v' Q') : v ≤ v' :=
  net_mono (rfl : X.N = X.T.length + X.S.length) (fun r h => by
    unfold opB at h ⊢
    rw [Bool.and_eq_true] at h ⊢
    exact ⟨h.1, hL.pass0 h.2⟩) (fun r h => opB_us h) (limH_bd hours).1 (Int.le_refl _) (limH_bd hours).2 m m'
end Go.Proofs.Ytphebdmdbnpokaa

