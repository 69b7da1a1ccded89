/- The walk of the reference's token. -/
import Derived.Test.YtaemahhcacolgaaW11
namespace Go.Proofs.Ytaemahhcacolgaa
open Go.RowKit LX

def RTokIs (s : ByteArray) (a : Nat) (w : World) (e : Ending) (w' : World) : Prop :=
  ∃ k t p n, e = .returned (.tuple #[.agg #[.int .i64 k, .string t, .int .i64 p], .int .i64 (n : Nat)]) ∧ ((tokL (s.data.toList.drop a)).ok = true → k = (tokL (s.data.toList.drop a)).kind ∧ t = bs (tokL (s.data.toList.drop a)).text ∧ p = a ∧ n = (tokL (s.data.toList.drop a)).n) ∧ ((tokL (s.data.toList.drop a)).ok = false → n = 0) ∧ Below w.heap.size w w'
theorem rtok_no (s : ByteArray) (a : Nat) (w w' : World) (hw : Below w.heap.size w w') (r : Raw) (hr : Hid (tokL (s.data.toList.drop a) = r)) (h : r.ok = false) {k : Int} {t : ByteArray} (p : Int) : RTokIs s a w (.returned (.tuple #[.agg #[.int .i64 k, .string t, .int .i64 p], .int .i64 0])) w' := by
  refine ⟨k, t, p, 0, rfl, fun k => ?_, fun _ => rfl, hw⟩
  rw [hr.out, h] at k; cases k
theorem rtok_yes (s : ByteArray) (a : Nat) (w w' : World) (hw : Below w.heap.size w w') (r : Raw) (hr : Hid (tokL (s.data.toList.drop a) = r)) (h : r.ok = true) (k : Int) (t : ByteArray) (n : Int) (hk : k = r.kind) (ht : t = bs r.text) (hn : n = (r.n : Int)) :
    RTokIs s a w (.returned (.tuple #[.agg #[.int .i64 k, .string t, .int .i64 a], .int .i64 n])) w' := by
  subst hk ht hn
  refine ⟨_, _, _, r.n, rfl, fun _ => ?_, fun q => ?_, hw⟩
  · rw [hr.out]; exact ⟨rfl, rfl, rfl, rfl⟩
  · rw [hr.out, h] at q; cases q
theorem tokL_letter (s : ByteArray) (a : Nat) (ha : a < s.size) (hc : letterB (s[a].toNat : Int) = true) : tokL (s.data.toList.drop a) = ⟨0, (s.data.toList.drop a).take (run (on nameB) (s.data.toList.drop a)), run (on nameB) (s.data.toList.drop a), decide (run (on nameB) (s.data.toList.drop a) ≤ 24)⟩ := by
  have h := drop_cons s a ha
  rcases tokL_cases s[a] (s.data.toList.drop (a + 1)) with ⟨_, e⟩ | ⟨q, _⟩ | ⟨q, _⟩ | ⟨q, _⟩
  · rw [← h] at e; exact e
  all_goals (have q : letterB (s[a].toNat : Int) = false := q; rw [hc] at q; cases q)
theorem tokL_digit (s : ByteArray) (a : Nat) (ha : a < s.size) (hc1 : letterB (s[a].toNat : Int) = false) (hc : digitB (s[a].toNat : Int) = true) : DigL s a (numN (s.data.toList.drop a)) := by
  unfold DigL
  have h := drop_cons s a ha
  rcases tokL_cases s[a] (s.data.toList.drop (a + 1)) with ⟨q, _⟩ | ⟨_, _, e⟩ | ⟨_, q, _⟩ | ⟨_, q, _⟩
  · have q : letterB (s[a].toNat : Int) = true := q; rw [hc1] at q; cases q
  · rw [← h] at e; exact e
  all_goals (have q : digitB (s[a].toNat : Int) = false := q; rw [hc] at q; cases q)
set_option maxHeartbeats 1000000 in
theorem rtoken_letter (s : ByteArray) (a : Nat) (w : World) (hs : s.size ≤ 1000000) (ha : a < s.size) (hc : letterB (s[a].toNat : Int) = true) :
    Calls Try.prog 18 #[.string s, .int .i64 a] w (RTokIs s a w) := by
  have hL := tokL_letter s a ha hc
  have K1 := fun wx => rletter_any (s[a].toNat : Int) wx
  simp only [hc] at K1
  have K1 := Lib.hid K1
  have K0 := fun wx => rdigit_any (s[a].toNat : Int) wx
  skip
  have K0 := Lib.hid K0
  have K2 := fun wx => rword_any s a wx hs (by omega)
  unfold LenIs at K2
  have hle := run_le (on nameB) (s.data.toList.drop a)
  simp only [List.length_drop, Array.length_toList] at hle
  have hsz : s.data.size = s.size := rfl
  obtain ⟨n, hn⟩ : ∃ n, run (on nameB) (s.data.toList.drop a) = n := ⟨_, rfl⟩
  rw [hn] at hL hle
  simp only [hn] at K2
  have K2 := Lib.hid K2
  have HL := Lib.hid hL
  clear hn hL hc 
  by_cases h24 : n ≤ 24
  · go_enter Try.func18, Try.ntmps18
    go_wp2_with (first | (go_at_call 24; ((with_reducible refine (K1.out _).mono ?_); rintro e1 w1 ⟨rfl, rfl⟩)) | (go_at_call 26; ((with_reducible refine (K0.out _).mono ?_); rintro e1 w1 ⟨rfl, rfl⟩)) | (go_at_call 25; ((with_reducible refine (K2.out _).mono ?_); rintro e1 w1 ⟨rfl, rfl⟩)) | fail)
    refine bodyPost_ret (v := .tuple #[.agg #[.int .i64 0, .string (s.extract a (a + n)), .int .i64 a], .int .i64 n]) (by simp [results, Try.results18, go_sem]) rfl ?_
    exact rtok_yes s a w _ ((Below.refl _ _).alloc (Nat.le_refl _) _) _ HL (decide_eq_true h24) _ _ _ rfl (by rw [ext_bs]; congr 2; omega) rfl
  · go_enter Try.func18, Try.ntmps18
    go_wp2_with (first | (go_at_call 24; ((with_reducible refine (K1.out _).mono ?_); rintro e1 w1 ⟨rfl, rfl⟩)) | (go_at_call 26; ((with_reducible refine (K0.out _).mono ?_); rintro e1 w1 ⟨rfl, rfl⟩)) | (go_at_call 25; ((with_reducible refine (K2.out _).mono ?_); rintro e1 w1 ⟨rfl, rfl⟩)) | fail)
    refine bodyPost_ret (v := .tuple #[.agg #[.int .i64 0, .string ⟨#[]⟩, .int .i64 0], .int .i64 0]) (by simp [results, Try.results18, go_sem]) rfl ?_
    exact rtok_no s a w _ ((Below.refl _ _).alloc (Nat.le_refl _) _) _ HL (decide_eq_false h24) _
set_option maxHeartbeats 1000000 in
theorem rtoken_digit (s : ByteArray) (a : Nat) (w : World) (hs : s.size ≤ 1000000) (ha : a < s.size) (hc1 : letterB (s[a].toNat : Int) = false) (hc : digitB (s[a].toNat : Int) = true) :
    Calls Try.prog 18 #[.string s, .int .i64 a] w (RTokIs s a w) := by
  have hL := tokL_digit s a ha hc1 hc
  have K1 := fun wx => rletter_any (s[a].toNat : Int) wx
  simp only [hc1] at K1
  have K1 := Lib.hid K1
  have K0 := fun wx => rdigit_any (s[a].toNat : Int) wx
  simp only [hc] at K0
  have K0 := Lib.hid K0
  have K2 := fun wx => rnumber_any s a wx hs (by omega)
  unfold NumIs at K2
  have hle := numN_le (s.data.toList.drop a)
  simp only [List.length_drop, Array.length_toList] at hle
  have hsz : s.data.size = s.size := rfl
  obtain ⟨n, hn⟩ : ∃ n, numN (s.data.toList.drop a) = n := ⟨_, rfl⟩
  rw [hn] at hL hle
  simp only [hn] at K2
  have K2 := Lib.hid K2
  have HL := Lib.hid hL
  clear hn hL hc hc1
  by_cases h24 : n ≤ 24
  · go_enter Try.func18, Try.ntmps18
    go_wp2_with (first | (go_at_call 24; ((with_reducible refine (K1.out _).mono ?_); rintro e1 w1 ⟨rfl, rfl⟩)) | (go_at_call 26; ((with_reducible refine (K0.out _).mono ?_); rintro e1 w1 ⟨rfl, rfl⟩)) | (go_at_call 27; ((with_reducible refine (K2.out _).mono ?_); rintro e1 w1 ⟨rfl, rfl⟩)) | fail)
    refine bodyPost_ret (v := .tuple #[.agg #[.int .i64 1, .string (s.extract a (a + n)), .int .i64 a], .int .i64 n]) (by simp [results, Try.results18, go_sem]) rfl ?_
    exact rtok_yes s a w _ ((Below.refl _ _).alloc (Nat.le_refl _) _) _ HL (decide_eq_true h24) _ _ _ rfl (by rw [ext_bs]; congr 2; omega) rfl
  · go_enter Try.func18, Try.ntmps18
    go_wp2_with (first | (go_at_call 24; ((with_reducible refine (K1.out _).mono ?_); rintro e1 w1 ⟨rfl, rfl⟩)) | (go_at_call 26; ((with_reducible refine (K0.out _).mono ?_); rintro e1 w1 ⟨rfl, rfl⟩)) | (go_at_call 27; ((with_reducible refine (K2.out _).mono ?_); rintro e1 w1 ⟨rfl, rfl⟩)) | fail)
    refine bodyPost_ret (v := .tuple #[.agg #[.int .i64 0, .string ⟨#[]⟩, .int .i64 0], .int .i64 0]) (by simp [results, Try.results18, go_sem]) rfl ?_
    exact rtok_no s a w _ ((Below.refl _ _).alloc (Nat.le_refl _) _) _ HL (decide_eq_false h24) _
theorem tokL_str (s : ByteArray) (a : Nat) (ha : a < s.size) (hc : (s[a].toNat : Int) = 34) : tokL (s.data.toList.drop a) = ⟨2, (s.data.toList.drop (a + 1)).take (run (on strB) (s.data.toList.drop (a + 1))), run (on strB) (s.data.toList.drop (a + 1)) + 2, decide ((s.data.toList.drop (a + 1))[run (on strB) (s.data.toList.drop (a + 1))]? = some 34 ∧ run (on strB) (s.data.toList.drop (a + 1)) ≤ 500)⟩ := by
  have hc1 : letterB (s[a].toNat : Int) = false := by rw [hc]; rfl
  have hc2 : digitB (s[a].toNat : Int) = false := by rw [hc]; rfl
  have e34 : s[a] = 34 := (byte_eq (n := 34) (by omega)).2 hc
  have h := drop_cons s a ha
  rcases tokL_cases s[a] (s.data.toList.drop (a + 1)) with ⟨q, _⟩ | ⟨_, q, _⟩ | ⟨_, _, _, e⟩ | ⟨_, _, q, _⟩
  · have q : letterB (s[a].toNat : Int) = true := q; rw [hc1] at q; cases q
  · have q : digitB (s[a].toNat : Int) = true := q; rw [hc2] at q; cases q
  · rw [← h] at e; exact e
  · exact absurd e34 q
set_option maxHeartbeats 1000000 in
theorem rtoken_str (s : ByteArray) (a : Nat) (w : World) (hs : s.size ≤ 1000000) (ha : a < s.size) (hc : (s[a].toNat : Int) = 34) :
    Calls Try.prog 18 #[.string s, .int .i64 a] w (RTokIs s a w) := by
  have hL := tokL_str s a ha hc
  have K1 := fun wx => rletter_any 34 wx
  simp only [show letterB 34 = false from rfl] at K1
  have K1 := Lib.hid K1
  have K0 := fun wx => rdigit_any 34 wx
  simp only [show digitB 34 = false from rfl] at K0
  have K0 := Lib.hid K0
  have K2 := fun wx => rquoted_any s a wx hs ha
  unfold QuoIs quoN at K2
  by_cases hq : (s.data.toList.drop (a + 1))[run (on strB) (s.data.toList.drop (a + 1))]? = some 34 ∧ run (on strB) (s.data.toList.drop (a + 1)) ≤ 500
  · simp only [if_pos hq] at K2
    rw [decide_eq_true hq] at hL
    have hlt := (List.getElem?_eq_some_iff.1 hq.1).1
    simp only [List.length_drop, Array.length_toList] at hlt
    have hsz : s.data.size = s.size := rfl
    clear hq
    obtain ⟨m, hm⟩ : ∃ m, run (on strB) (s.data.toList.drop (a + 1)) = m := ⟨_, rfl⟩
    rw [hm] at hL hlt
    simp only [hm, Int.natCast_add] at K2
    have K2 := Lib.hid K2
    have HL := Lib.hid hL
    clear hm hL
    go_enter Try.func18, Try.ntmps18
    go_wp2_with (first | (go_at_call 24; ((with_reducible refine (K1.out _).mono ?_); rintro e1 w1 ⟨rfl, rfl⟩)) | (go_at_call 26; ((with_reducible refine (K0.out _).mono ?_); rintro e1 w1 ⟨rfl, rfl⟩)) | (go_at_call 28; ((with_reducible refine (K2.out _).mono ?_); rintro e1 w1 ⟨rfl, rfl⟩)) | fail)
    refine bodyPost_ret (v := .tuple #[.agg #[.int .i64 2, .string (s.extract (a + 1) (a + (m + 2) - 1)), .int .i64 a], .int .i64 ((m : Int) + 2)]) (by simp [results, Try.results18, go_sem]) rfl ?_
    exact rtok_yes s a w _ ((Below.refl _ _).alloc (Nat.le_refl _) _) _ HL.out rfl _ _ _ rfl (by rw [ext_bs]; congr 2; omega) (by simp)
  · simp only [if_neg hq] at K2
    rw [decide_eq_false hq] at hL
    have K2 := Lib.hid K2
    have HL := Lib.hid hL
    clear hL hq
    go_enter Try.func18, Try.ntmps18
    go_wp2_with (first | (go_at_call 24; ((with_reducible refine (K1.out _).mono ?_); rintro e1 w1 ⟨rfl, rfl⟩)) | (go_at_call 26; ((with_reducible refine (K0.out _).mono ?_); rintro e1 w1 ⟨rfl, rfl⟩)) | (go_at_call 28; ((with_reducible refine (K2.out _).mono ?_); rintro e1 w1 ⟨rfl, rfl⟩)) | fail)
    refine bodyPost_ret (v := .tuple #[.agg #[.int .i64 0, .string ⟨#[]⟩, .int .i64 0], .int .i64 0]) (by simp [results, Try.results18, go_sem]) rfl ?_
    exact rtok_no s a w _ ((Below.refl _ _).alloc (Nat.le_refl _) _) _ HL.out rfl _
end Go.Proofs.Ytaemahhcacolgaa
