/- The walk of the reference's token, the last case; all of it. -/
import Derived.Test.YtaemahhcacolgaaW12
namespace Go.Proofs.Ytaemahhcacolgaa
open Go.RowKit LX

theorem tokL_sign (s : ByteArray) (a : Nat) (ha : a < s.size) (hc1 : letterB (s[a].toNat : Int) = false) (hc2 : digitB (s[a].toNat : Int) = false) (hc : (s[a].toNat : Int) ≠ 34) : SgnL s a (signN (s.data.toList.drop a)) := by
  unfold SgnL
  have h := drop_cons s a ha
  rcases tokL_cases s[a] (s.data.toList.drop (a + 1)) with ⟨q, _⟩ | ⟨_, q, _⟩ | ⟨_, _, q, _⟩ | ⟨_, _, _, e⟩
  · have q : letterB (s[a].toNat : Int) = true := q; rw [hc1] at q; cases q
  · have q : digitB (s[a].toNat : Int) = true := q; rw [hc2] at q; cases q
  · exact absurd ((byte_eq (n := 34) (by omega)).1 q) hc
  · rw [← h] at e; exact e
set_option maxHeartbeats 1000000 in
theorem rtoken_sign (s : ByteArray) (a : Nat) (w : World) (hs : s.size ≤ 1000000) (ha : a < s.size) (hc1 : letterB (s[a].toNat : Int) = false) (hc2 : digitB (s[a].toNat : Int) = false) (hc : (s[a].toNat : Int) ≠ 34) :
    Calls Try.prog 18 #[.string s, .int .i64 a] w (RTokIs s a w) := by
  have hL := tokL_sign s a ha hc1 hc2 hc
  have K1 := fun wx => rletter_any (s[a].toNat : Int) wx
  simp only [hc1] at K1
  have K1 := Lib.hid K1
  have K0 := fun wx => rdigit_any (s[a].toNat : Int) wx
  simp only [hc2] at K0
  have K0 := Lib.hid K0
  have K2 := fun wx => rsigned_any s a wx hs ha
  unfold SgIs at K2
  have hle := signN_le (s.data.toList.drop a)
  simp only [List.length_drop, Array.length_toList] at hle
  have hsz : s.data.size = s.size := rfl
  obtain ⟨n, hn⟩ : ∃ n, signN (s.data.toList.drop a) = n := ⟨_, rfl⟩
  rw [hn] at hL hle
  simp only [hn] at K2
  have K2 := Lib.hid K2
  have HL := Lib.hid hL
  clear hn hc1 hc2 hL
  go_enter Try.func18, Try.ntmps18
  go_wp2_with (first | (go_at_call 24; ((with_reducible refine (K1.out _).mono ?_); rintro e1 w1 ⟨rfl, rfl⟩)) | (go_at_call 26; ((with_reducible refine (K0.out _).mono ?_); rintro e1 w1 ⟨rfl, rfl⟩)) | (go_at_call 29; ((with_reducible refine (K2.out _).mono ?_); rintro e1 w1 ⟨rfl, rfl⟩)) | fail)
  refine bodyPost_ret (v := .tuple #[.agg #[.int .i64 3, .string (s.extract a (a + n)), .int .i64 a], .int .i64 n]) (by simp [results, Try.results18, go_sem]) rfl ?_
  by_cases h0 : 0 < n
  · exact rtok_yes s a w _ ((Below.refl _ _).alloc (Nat.le_refl _) _) _ HL.out (decide_eq_true h0) _ _ _ rfl (by rw [ext_bs]; congr 2; omega) rfl
  · obtain rfl : n = 0 := by omega
    exact rtok_no s a w _ ((Below.refl _ _).alloc (Nat.le_refl _) _) _ HL.out rfl _
theorem rtoken_any (s : ByteArray) (a : Nat) (w : World) (hs : s.size ≤ 1000000) (ha : a < s.size) : Calls Try.prog 18 #[.string s, .int .i64 a] w (RTokIs s a w) := by
  cases h1 : letterB (s[a].toNat : Int)
  · cases h2 : digitB (s[a].toNat : Int)
    · by_cases h3 : (s[a].toNat : Int) = 34
      · exact rtoken_str s a w hs ha h3
      · exact rtoken_sign s a w hs ha h1 h2 h3
    · exact rtoken_digit s a w hs ha h1 h2
  · exact rtoken_letter s a w hs ha h1
end Go.Proofs.Ytaemahhcacolgaa
