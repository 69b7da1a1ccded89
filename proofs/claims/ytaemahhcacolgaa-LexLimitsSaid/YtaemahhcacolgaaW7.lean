/- The walk of token, the last cases; all of it. -/
import Derived.Test.YtaemahhcacolgaaW6
namespace Go.Proofs.Ytaemahhcacolgaa
open Go.RowKit LX

def StrL (s : ByteArray) (a m : Nat) (b : Bool) : Prop := tokL (s.data.toList.drop a) = ⟨2, (s.data.toList.drop (a + 1)).take m, m + 2, b⟩
set_option maxHeartbeats 1000000 in
theorem token_str (s : ByteArray) (a : Nat) (w : World) (hs : s.size ≤ 1000000) (ha : a < s.size) (hc : (s[a].toNat : Int) = 34) :
    Calls Try.prog 22 #[.string s, .int .i64 a] w (TokIs s a w) := by
  have hc1 : letterB (s[a].toNat : Int) = false := by rw [hc]; rfl
  have hc2 : digitB (s[a].toNat : Int) = false := by rw [hc]; rfl
  have e34 : s[a] = 34 := (byte_eq (n := 34) (by omega)).2 hc
  have hL : StrL s a (run (on strB) (s.data.toList.drop (a + 1))) (decide ((s.data.toList.drop (a + 1))[run (on strB) (s.data.toList.drop (a + 1))]? = some 34 ∧ run (on strB) (s.data.toList.drop (a + 1)) ≤ 500)) := by
    unfold StrL
    have h := drop_cons s a ha
    rcases tokL_cases s[a] (s.data.toList.drop (a + 1)) with ⟨q, _⟩ | ⟨_, q, _⟩ | ⟨_, _, _, e⟩ | ⟨_, _, q, _⟩
    · have q : letterB (s[a].toNat : Int) = true := q; rw [hc1] at q; cases q
    · have q : digitB (s[a].toNat : Int) = true := q; rw [hc2] at q; cases q
    · rw [← h] at e; exact e
    · exact absurd e34 q
  have K1 := fun wx => letter_any 34 wx
  simp only [show letterB 34 = false from rfl] at K1
  have K1 := Lib.hid K1
  have K0 := fun wx => digit_any 34 wx
  simp only [show digitB 34 = false from rfl] at K0
  have K0 := Lib.hid K0
  have K2 := fun wx => run_str s (a + 1) wx (by omega) (by omega)
  unfold RunIs at K2
  have hle := run_le (on strB) (s.data.toList.drop (a + 1))
  simp only [List.length_drop, Array.length_toList] at hle
  have hsz : s.data.size = s.size := rfl
  obtain ⟨m, hm⟩ : ∃ m, run (on strB) (s.data.toList.drop (a + 1)) = m := ⟨_, rfl⟩
  rw [hm] at hL hle
  simp only [hm, Int.natCast_add, Int.natCast_one] at K2
  have K2 := Lib.hid K2
  clear hm hc1 hc2 e34
  by_cases h1 : a + 1 + m < s.size
  case neg =>
    have HL : Hid (StrL s a m false) := by
      rw [drop_none s (a + 1) m (by omega), decide_eq_false (fun h => by cases h.1)] at hL
      exact hL
    clear hL
    go_enter Try.func22, Try.ntmps22
    go_wp2_with (first | (go_at_call 35; ((with_reducible refine (K1.out _).mono ?_); rintro e1 w1 ⟨rfl, rfl⟩)) | (go_at_call 37; ((with_reducible refine (K0.out _).mono ?_); rintro e1 w1 ⟨rfl, rfl⟩)) | (go_at_call 33; ((with_reducible refine (K2.out _).mono ?_); rintro e1 w1 ⟨rfl, rfl⟩)) | fail)
    refine bodyPost_ret (v := .tuple #[.agg #[.int .i64 2, .string (s.extract (a + 1) (a + 1 + m)), .int .i64 a], .int .i64 ((a : Int) + 1 + m + 1), .bool false]) (by simp [results, Try.results22, go_sem]) rfl ?_
    exact tok_is s a w _ ((Below.refl _ _).alloc (Nat.le_refl _) _) _ HL _ _ _ _ rfl (by rw [ext_bs]; congr 2; omega) (by simp; omega) rfl
  by_cases h2 : (s[a + 1 + m].toNat : Int) = 34
  case neg =>
    have HL : Hid (StrL s a m false) := by
      rw [drop_get s (a + 1) m h1, decide_eq_false (fun h => h2 (by rw [Option.some.inj h.1]; rfl))] at hL
      exact hL
    clear hL
    go_enter Try.func22, Try.ntmps22
    go_wp2_with (first | (go_at_call 35; ((with_reducible refine (K1.out _).mono ?_); rintro e1 w1 ⟨rfl, rfl⟩)) | (go_at_call 37; ((with_reducible refine (K0.out _).mono ?_); rintro e1 w1 ⟨rfl, rfl⟩)) | (go_at_call 33; ((with_reducible refine (K2.out _).mono ?_); rintro e1 w1 ⟨rfl, rfl⟩)) | fail)
    refine bodyPost_ret (v := .tuple #[.agg #[.int .i64 2, .string (s.extract (a + 1) (a + 1 + m)), .int .i64 a], .int .i64 ((a : Int) + 1 + m + 1), .bool false]) (by simp [results, Try.results22, go_sem]) rfl ?_
    exact tok_is s a w _ ((Below.refl _ _).alloc (Nat.le_refl _) _) _ HL _ _ _ _ rfl (by rw [ext_bs]; congr 2; omega) (by simp; omega) rfl
  have HL : Hid (StrL s a m (decide (m ≤ 500))) := by
    have e : s[a + 1 + m] = 34 := (byte_eq (n := 34) (by omega)).2 h2
    rw [drop_get s (a + 1) m h1, e] at hL
    simp only [true_and] at hL
    exact hL
  clear hL
  go_enter Try.func22, Try.ntmps22
  go_wp2_with (first | (go_at_call 35; ((with_reducible refine (K1.out _).mono ?_); rintro e1 w1 ⟨rfl, rfl⟩)) | (go_at_call 37; ((with_reducible refine (K0.out _).mono ?_); rintro e1 w1 ⟨rfl, rfl⟩)) | (go_at_call 33; ((with_reducible refine (K2.out _).mono ?_); rintro e1 w1 ⟨rfl, rfl⟩)) | fail)
  refine bodyPost_ret (v := .tuple #[.agg #[.int .i64 2, .string (s.extract (a + 1) (a + 1 + m)), .int .i64 a], .int .i64 ((a : Int) + 1 + m + 1), .bool (decide ((a : Int) + 1 + m - a - 1 ≤ 500))]) (by simp [results, Try.results22, go_sem]) rfl ?_
  exact tok_is s a w _ ((Below.refl _ _).alloc (Nat.le_refl _) _) _ HL _ _ _ _ rfl (by rw [ext_bs]; congr 2; omega) (by simp; omega) (by simp; omega)

def SgnL (s : ByteArray) (a n : Nat) : Prop := tokL (s.data.toList.drop a) = ⟨3, (s.data.toList.drop a).take n, n, decide (0 < n)⟩
set_option maxHeartbeats 1000000 in
theorem token_sign (s : ByteArray) (a : Nat) (w : World) (hs : s.size ≤ 1000000) (ha : a < s.size) (hc1 : letterB (s[a].toNat : Int) = false) (hc2 : digitB (s[a].toNat : Int) = false) (hc : (s[a].toNat : Int) ≠ 34) :
    Calls Try.prog 22 #[.string s, .int .i64 a] w (TokIs s a w) := by
  have hL : SgnL s a (signN (s.data.toList.drop a)) := by
    unfold SgnL
    have h := drop_cons s a ha
    rcases tokL_cases s[a] (s.data.toList.drop (a + 1)) with ⟨q, _⟩ | ⟨_, q, _⟩ | ⟨_, _, q, _⟩ | ⟨_, _, _, e⟩
    · have q : letterB (s[a].toNat : Int) = true := q; rw [hc1] at q; cases q
    · have q : digitB (s[a].toNat : Int) = true := q; rw [hc2] at q; cases q
    · exact absurd ((byte_eq (n := 34) (by omega)).1 q) hc
    · rw [← h] at e; exact e
  have K1 := fun wx => letter_any (s[a].toNat : Int) wx
  simp only [hc1] at K1
  have K1 := Lib.hid K1
  have K0 := fun wx => digit_any (s[a].toNat : Int) wx
  simp only [hc2] at K0
  have K0 := Lib.hid K0
  have hx : (s.extract a s.size).size = s.size - a := by rw [ByteArray.size_extract]; omega
  have K2 := fun wx => sign_any (s.extract a s.size) wx (by omega) (by omega)
  unfold SignIs at K2
  have he : (s.extract a s.size).data.toList = s.data.toList.drop a := by
    rw [ext_bs, bs_list]
    exact List.take_of_length_le (by simp)
  simp only [he] at K2
  have hle := signN_le (s.data.toList.drop a)
  simp only [List.length_drop, Array.length_toList] at hle
  have hsz : s.data.size = s.size := rfl
  obtain ⟨n, hn⟩ : ∃ n, signN (s.data.toList.drop a) = n := ⟨_, rfl⟩
  rw [hn] at hL hle
  simp only [hn] at K2
  have K2 := Lib.hid K2
  have HL := Lib.hid hL
  clear hn hc1 hc2 he hx hL
  go_enter Try.func22, Try.ntmps22
  go_wp2_with (first | (go_at_call 35; ((with_reducible refine (K1.out _).mono ?_); rintro e1 w1 ⟨rfl, rfl⟩)) | (go_at_call 37; ((with_reducible refine (K0.out _).mono ?_); rintro e1 w1 ⟨rfl, rfl⟩)) | (go_at_call 39; ((with_reducible refine (K2.out _).mono ?_); rintro e1 w1 ⟨rfl, rfl⟩)) | fail)
  refine bodyPost_ret (v := .tuple #[.agg #[.int .i64 3, .string (s.extract a (a + n)), .int .i64 a], .int .i64 ((a : Int) + n), .bool (decide ((a : Int) < a + n))]) (by simp [results, Try.results22, go_sem]) rfl ?_
  exact tok_is s a w _ ((Below.refl _ _).alloc (Nat.le_refl _) _) _ HL.out _ _ _ _ rfl (by rw [ext_bs]; congr 2; omega) (by simp) (by simp; omega)
theorem token_any (s : ByteArray) (a : Nat) (w : World) (hs : s.size ≤ 1000000) (ha : a < s.size) : Calls Try.prog 22 #[.string s, .int .i64 a] w (TokIs s a w) := by
  cases h1 : letterB (s[a].toNat : Int)
  · cases h2 : digitB (s[a].toNat : Int)
    · by_cases h3 : (s[a].toNat : Int) = 34
      · exact token_str s a w hs ha h3
      · exact token_sign s a w hs ha h1 h2 h3
    · exact token_digit s a w hs ha h1 h2
  · exact token_letter s a w (by omega) ha h1
end Go.Proofs.Ytaemahhcacolgaa
