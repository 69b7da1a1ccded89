/- The walk of token, on. -/
import Derived.Test.YtaemahhcacolgaaW5
namespace Go.Proofs.Ytaemahhcacolgaa
open Go.RowKit LX

theorem drop_get (s : ByteArray) (a j : Nat) (h : a + j < s.size) : (s.data.toList.drop a)[j]? = some s[a + j] := by
  have h' : a + j < s.data.toList.length := by simpa using h
  rw [List.getElem?_drop, List.getElem?_eq_getElem h']
  rfl
theorem drop_none (s : ByteArray) (a j : Nat) (h : s.size ≤ a + j) : (s.data.toList.drop a)[j]? = none := by
  rw [List.getElem?_drop, List.getElem?_eq_none (by simpa using h)]
theorem num_no (s : ByteArray) (a n : Nat) (hn : run (on digitB) (s.data.toList.drop a) = n) (h : ∀ (h1 : a + n + 1 < s.size), (s[a + n].toNat : Int) = 46 → digitB (s[a + n + 1].toNat : Int) = false) :
    numN (s.data.toList.drop a) = n := by
  unfold numN
  dsimp only
  rw [hn, if_neg]
  rintro ⟨g1, d, g2, g3⟩
  by_cases h1 : a + n + 1 < s.size
  · rw [drop_get s a n (by omega)] at g1
    rw [drop_get s a (n + 1) (by omega)] at g2
    have e1 := Option.some.inj g1
    have e2 := Option.some.inj g2
    have e3 : digitB (s[a + n + 1].toNat : Int) = false := h h1 (by rw [e1]; rfl)
    have e4 : on digitB s[a + n + 1] = true := by rw [← g3, ← e2]; rfl
    rw [show on digitB s[a + n + 1] = digitB (s[a + n + 1].toNat : Int) from rfl, e3] at e4
    cases e4
  · rw [drop_none s a (n + 1) (by omega)] at g2; cases g2
theorem num_yes (s : ByteArray) (a n : Nat) (hn : run (on digitB) (s.data.toList.drop a) = n) (h1 : a + n + 1 < s.size) (h2 : (s[a + n].toNat : Int) = 46) (h3 : digitB (s[a + n + 1].toNat : Int) = true) :
    numN (s.data.toList.drop a) = n + 1 + run (on digitB) (s.data.toList.drop (a + n + 1)) := by
  unfold numN
  dsimp only
  rw [hn, if_pos]
  · rw [List.drop_drop]; rfl
  · refine ⟨?_, s[a + n + 1], drop_get s a (n + 1) (by omega), h3⟩
    rw [drop_get s a n (by omega)]
    exact congrArg some ((byte_eq (n := 46) (by omega)).2 h2)

def DigL (s : ByteArray) (a n : Nat) : Prop := tokL (s.data.toList.drop a) = ⟨1, (s.data.toList.drop a).take n, n, decide (n ≤ 24)⟩
set_option maxHeartbeats 1000000 in
theorem token_digit (s : ByteArray) (a : Nat) (w : World) (hs : s.size ≤ 1000000) (ha : a < s.size) (hc1 : letterB (s[a].toNat : Int) = false) (hc : digitB (s[a].toNat : Int) = true) :
    Calls Try.prog 22 #[.string s, .int .i64 a] w (TokIs s a w) := by
  have hL : DigL s a (numN (s.data.toList.drop a)) := by
    unfold DigL
    have h := drop_cons s a ha
    rcases tokL_cases s[a] (s.data.toList.drop (a + 1)) with ⟨q, _⟩ | ⟨_, _, e⟩ | ⟨_, q, _⟩ | ⟨_, q, _⟩
    · have q : letterB (s[a].toNat : Int) = true := q; rw [hc1] at q; cases q
    · rw [← h] at e; exact e
    all_goals (have q : digitB (s[a].toNat : Int) = false := q; rw [hc] at q; cases q)
  have K1 := fun wx => letter_any (s[a].toNat : Int) wx
  simp only [hc1] at K1
  have K1 := Lib.hid K1
  have K0 := fun wx => digit_any (s[a].toNat : Int) wx
  simp only [hc] at K0
  have K0 := Lib.hid K0
  have K2 := fun wx => run_digit s a wx (by omega) (by omega)
  unfold RunIs at K2
  have hle := run_le (on digitB) (s.data.toList.drop a)
  simp only [List.length_drop, Array.length_toList] at hle
  have hsz : s.data.size = s.size := rfl
  obtain ⟨n, hn⟩ : ∃ n, run (on digitB) (s.data.toList.drop a) = n := ⟨_, rfl⟩
  have hno := num_no s a n hn
  have hyes := num_yes s a n hn
  simp only [hn] at K2 hle
  have K2 := Lib.hid K2
  clear hn hc hc1
  have fin0 : numN (s.data.toList.drop a) = n → Hid (DigL s a n) := fun e => by rw [e] at hL; exact hL
  by_cases h1 : a + n + 1 < s.size
  case neg =>
    have HL := fin0 (hno (fun h => absurd h h1))
    clear fin0 hno hyes hL
    go_enter Try.func22, Try.ntmps22
    go_wp2_with (first | (go_at_call 35; ((with_reducible refine (K1.out _).mono ?_); rintro e1 w1 ⟨rfl, rfl⟩)) | (go_at_call 37; ((with_reducible refine (K0.out _).mono ?_); rintro e1 w1 ⟨rfl, rfl⟩)) | (go_at_call 33; ((with_reducible refine (K2.out _).mono ?_); rintro e1 w1 ⟨rfl, rfl⟩)) | fail)
    refine bodyPost_ret (v := .tuple #[.agg #[.int .i64 1, .string (s.extract a (a + n)), .int .i64 a], .int .i64 ((a : Int) + n), .bool (decide ((a : Int) + n - a ≤ 24))]) (by simp [results, Try.results22, go_sem]) rfl ?_
    exact tok_is s a w _ ((Below.refl _ _).alloc (Nat.le_refl _) _) _ HL _ _ _ _ rfl (by rw [ext_bs]; congr 2; omega) (by simp) (by simp; omega)
  by_cases h2 : (s[a + n].toNat : Int) = 46
  case neg =>
    have HL := fin0 (hno (fun _ h => absurd h h2))
    clear fin0 hno hyes hL
    go_enter Try.func22, Try.ntmps22
    go_wp2_with (first | (go_at_call 35; ((with_reducible refine (K1.out _).mono ?_); rintro e1 w1 ⟨rfl, rfl⟩)) | (go_at_call 37; ((with_reducible refine (K0.out _).mono ?_); rintro e1 w1 ⟨rfl, rfl⟩)) | (go_at_call 33; ((with_reducible refine (K2.out _).mono ?_); rintro e1 w1 ⟨rfl, rfl⟩)) | fail)
    refine bodyPost_ret (v := .tuple #[.agg #[.int .i64 1, .string (s.extract a (a + n)), .int .i64 a], .int .i64 ((a : Int) + n), .bool (decide ((a : Int) + n - a ≤ 24))]) (by simp [results, Try.results22, go_sem]) rfl ?_
    exact tok_is s a w _ ((Below.refl _ _).alloc (Nat.le_refl _) _) _ HL _ _ _ _ rfl (by rw [ext_bs]; congr 2; omega) (by simp) (by simp; omega)
  have K3 := fun wx => digit_any (s[a + n + 1].toNat : Int) wx
  obtain ⟨q, hq⟩ : ∃ q, q = digitB (s[a + n + 1].toNat : Int) := ⟨_, rfl⟩
  simp only [← hq] at K3
  have K3 := Lib.hid K3
  cases q
  case false =>
    have HL := fin0 (hno (fun _ _ => hq.symm))
    clear fin0 hno hyes hL hq
    go_enter Try.func22, Try.ntmps22
    go_wp2_with (first | (go_at_call 35; ((with_reducible refine (K1.out _).mono ?_); rintro e1 w1 ⟨rfl, rfl⟩)) | (go_at_call 37; (first | ((with_reducible refine (K0.out _).mono ?_); rintro e1 w1 ⟨rfl, rfl⟩) | ((with_reducible refine (K3.out _).mono ?_); rintro e1 w1 ⟨rfl, rfl⟩))) | (go_at_call 33; ((with_reducible refine (K2.out _).mono ?_); rintro e1 w1 ⟨rfl, rfl⟩)) | fail)
    refine bodyPost_ret (v := .tuple #[.agg #[.int .i64 1, .string (s.extract a (a + n)), .int .i64 a], .int .i64 ((a : Int) + n), .bool (decide ((a : Int) + n - a ≤ 24))]) (by simp [results, Try.results22, go_sem]) rfl ?_
    exact tok_is s a w _ ((Below.refl _ _).alloc (Nat.le_refl _) _) _ HL _ _ _ _ rfl (by rw [ext_bs]; congr 2; omega) (by simp) (by simp; omega)
  have hN := hyes h1 h2 hq.symm
  have K4 := fun wx => run_digit s (a + n + 1) wx (by omega) (by omega)
  unfold RunIs at K4
  have hle2 := run_le (on digitB) (s.data.toList.drop (a + n + 1))
  simp only [List.length_drop, Array.length_toList] at hle2
  obtain ⟨m, hm⟩ : ∃ m, m = run (on digitB) (s.data.toList.drop (a + n + 1)) := ⟨_, rfl⟩
  simp only [← hm] at K4 hle2 hN
  simp only [Int.natCast_add, Int.natCast_one] at K4
  have K4 := Lib.hid K4
  have HL : Hid (DigL s a (n + 1 + m)) := by rw [hN] at hL; exact hL
  clear fin0 hno hyes hL hq hm hN
  go_enter Try.func22, Try.ntmps22
  go_wp2_with (first | (go_at_call 35; ((with_reducible refine (K1.out _).mono ?_); rintro e1 w1 ⟨rfl, rfl⟩)) | (go_at_call 37; (first | ((with_reducible refine (K0.out _).mono ?_); rintro e1 w1 ⟨rfl, rfl⟩) | ((with_reducible refine (K3.out _).mono ?_); rintro e1 w1 ⟨rfl, rfl⟩))) | (go_at_call 33; (first | ((with_reducible refine (K2.out _).mono ?_); rintro e1 w1 ⟨rfl, rfl⟩) | ((with_reducible refine (K4.out _).mono ?_); rintro e1 w1 ⟨rfl, rfl⟩))) | fail)
  refine bodyPost_ret (v := .tuple #[.agg #[.int .i64 1, .string (s.extract a (a + n + 1 + m)), .int .i64 a], .int .i64 ((a : Int) + n + 1 + m), .bool (decide ((a : Int) + n + 1 + m - a ≤ 24))]) (by simp [results, Try.results22, go_sem]) rfl ?_
  exact tok_is s a w _ ((Below.refl _ _).alloc (Nat.le_refl _) _) _ HL _ _ _ _ rfl (by rw [ext_bs]; congr 2; omega) (by simp; omega) (by simp; omega)
end Go.Proofs.Ytaemahhcacolgaa
