/- Walks of run, at each sort of bytes. -/
import Derived.Test.YtaemahhcacolgaaW1
namespace Go.Proofs.Ytaemahhcacolgaa
open Go.RowKit LX

theorem drop_cons (s : ByteArray) (k : Nat) (h : k < s.size) : s.data.toList.drop k = s[k] :: s.data.toList.drop (k + 1) := by
  rw [List.drop_eq_getElem_cons (by simpa using h)]; rfl
theorem run_at_yes (p : Int → Bool) (s : ByteArray) (k : Nat) (h : k < s.size) (hp : p (s[k].toNat : Int) = true) : run (on p) (s.data.toList.drop k) = run (on p) (s.data.toList.drop (k + 1)) + 1 := by
  rw [drop_cons s k h]
  have : on p s[k] = true := hp
  simp [run, this]
theorem run_at_no (p : Int → Bool) (s : ByteArray) (k : Nat) (h : k < s.size) (hp : p (s[k].toNat : Int) = false) : run (on p) (s.data.toList.drop k) = 0 := by
  rw [drop_cons s k h]
  have : on p s[k] = false := hp
  simp [run, this]
theorem run_at_end (p : Int → Bool) (s : ByteArray) : run (on p) (s.data.toList.drop s.size) = 0 := by
  rw [List.drop_of_length_le (by simp)]; rfl
def RunIs (p : Int → Bool) (s : ByteArray) (a : Nat) (w : World) (e : Ending) (w' : World) : Prop := e = .returned (.int .i64 ((a + run (on p) (s.data.toList.drop a) : Nat) : Int)) ∧ w = w'

theorem run_name (s : ByteArray) (a : Nat) (w : World) (hs : s.size ≤ 9223372036854775807) (ha : a ≤ s.size) :
    Calls Try.prog 33 #[.string s, .int .i64 a, .func (.func 36) #[] #[]] w (RunIs nameB s a w) := by
  go_enter Try.func33, Try.ntmps33
  go_wp2_with fail
  go_loop [1] (fun i => ∃ k : Nat, k ≤ s.size ∧ i = .int .i64 k ∧ Hid (a + run (on nameB) (s.data.toList.drop a) = k + run (on nameB) (s.data.toList.drop k))) (fun i => s.size - (intOf i).toNat)
  case atStart => exact ⟨a, ha, rfl, rfl⟩
  case round =>
    obtain ⟨k, hk, rfl, hn⟩ := hrel
    by_cases hlt : k < s.size
    · have kc := inName_any (s[k].toNat : Int) w
      have hy := run_at_yes nameB s k hlt
      have hno := run_at_no nameB s k hlt
      obtain ⟨q, hq⟩ : ∃ q, q = nameB (s[k].toNat : Int) := ⟨_, rfl⟩
      rw [← hq] at kc hy hno
      have KC := Lib.hid kc
      have HY := Lib.hid (And.intro hy hno)
      clear kc hq hy hno
      cases q
      · have hn' : Hid (a + run (on nameB) (s.data.toList.drop a) = k) := by
          show _ = _
          rw [hn.out, HY.out.2 rfl]; rfl
        clear hn
        go_wp2_with (go_at_call 36; ((with_reducible refine KC.out.mono ?_); rintro e1 w1 ⟨rfl, rfl⟩))
        go_ret
        exact ⟨ret_int (by rw [hn'.out]), rfl⟩
      · have hn' : Hid (a + run (on nameB) (s.data.toList.drop a) = k + 1 + run (on nameB) (s.data.toList.drop (k + 1))) := by
          show _ = _
          rw [hn.out, HY.out.1 rfl]; omega
        clear hn
        go_wp2_with (go_at_call 36; ((with_reducible refine KC.out.mono ?_); rintro e1 w1 ⟨rfl, rfl⟩))
        go_round
        case rel => exact ⟨k + 1, by omega, by go_num, hn'⟩
        case measure => simp [intOf]; omega
    · have hn' : Hid (a + run (on nameB) (s.data.toList.drop a) = k) := by
        show _ = _
        have e : k = s.size := by omega
        rw [hn.out, e, run_at_end]; rfl
      clear hn
      go_wp2_with fail
      go_ret
      exact ⟨ret_int (by rw [hn'.out]), rfl⟩

theorem run_digit (s : ByteArray) (a : Nat) (w : World) (hs : s.size ≤ 9223372036854775807) (ha : a ≤ s.size) :
    Calls Try.prog 33 #[.string s, .int .i64 a, .func (.func 37) #[] #[]] w (RunIs digitB s a w) := by
  go_enter Try.func33, Try.ntmps33
  go_wp2_with fail
  go_loop [1] (fun i => ∃ k : Nat, k ≤ s.size ∧ i = .int .i64 k ∧ Hid (a + run (on digitB) (s.data.toList.drop a) = k + run (on digitB) (s.data.toList.drop k))) (fun i => s.size - (intOf i).toNat)
  case atStart => exact ⟨a, ha, rfl, rfl⟩
  case round =>
    obtain ⟨k, hk, rfl, hn⟩ := hrel
    by_cases hlt : k < s.size
    · have kc := digit_any (s[k].toNat : Int) w
      have hy := run_at_yes digitB s k hlt
      have hno := run_at_no digitB s k hlt
      obtain ⟨q, hq⟩ : ∃ q, q = digitB (s[k].toNat : Int) := ⟨_, rfl⟩
      rw [← hq] at kc hy hno
      have KC := Lib.hid kc
      have HY := Lib.hid (And.intro hy hno)
      clear kc hq hy hno
      cases q
      · have hn' : Hid (a + run (on digitB) (s.data.toList.drop a) = k) := by
          show _ = _
          rw [hn.out, HY.out.2 rfl]; rfl
        clear hn
        go_wp2_with (go_at_call 37; ((with_reducible refine KC.out.mono ?_); rintro e1 w1 ⟨rfl, rfl⟩))
        go_ret
        exact ⟨ret_int (by rw [hn'.out]), rfl⟩
      · have hn' : Hid (a + run (on digitB) (s.data.toList.drop a) = k + 1 + run (on digitB) (s.data.toList.drop (k + 1))) := by
          show _ = _
          rw [hn.out, HY.out.1 rfl]; omega
        clear hn
        go_wp2_with (go_at_call 37; ((with_reducible refine KC.out.mono ?_); rintro e1 w1 ⟨rfl, rfl⟩))
        go_round
        case rel => exact ⟨k + 1, by omega, by go_num, hn'⟩
        case measure => simp [intOf]; omega
    · have hn' : Hid (a + run (on digitB) (s.data.toList.drop a) = k) := by
        show _ = _
        have e : k = s.size := by omega
        rw [hn.out, e, run_at_end]; rfl
      clear hn
      go_wp2_with fail
      go_ret
      exact ⟨ret_int (by rw [hn'.out]), rfl⟩

theorem run_str (s : ByteArray) (a : Nat) (w : World) (hs : s.size ≤ 9223372036854775807) (ha : a ≤ s.size) :
    Calls Try.prog 33 #[.string s, .int .i64 a, .func (.func 38) #[] #[]] w (RunIs strB s a w) := by
  go_enter Try.func33, Try.ntmps33
  go_wp2_with fail
  go_loop [1] (fun i => ∃ k : Nat, k ≤ s.size ∧ i = .int .i64 k ∧ Hid (a + run (on strB) (s.data.toList.drop a) = k + run (on strB) (s.data.toList.drop k))) (fun i => s.size - (intOf i).toNat)
  case atStart => exact ⟨a, ha, rfl, rfl⟩
  case round =>
    obtain ⟨k, hk, rfl, hn⟩ := hrel
    by_cases hlt : k < s.size
    · have kc := inString_any (s[k].toNat : Int) w
      have hy := run_at_yes strB s k hlt
      have hno := run_at_no strB s k hlt
      obtain ⟨q, hq⟩ : ∃ q, q = strB (s[k].toNat : Int) := ⟨_, rfl⟩
      rw [← hq] at kc hy hno
      have KC := Lib.hid kc
      have HY := Lib.hid (And.intro hy hno)
      clear kc hq hy hno
      cases q
      · have hn' : Hid (a + run (on strB) (s.data.toList.drop a) = k) := by
          show _ = _
          rw [hn.out, HY.out.2 rfl]; rfl
        clear hn
        go_wp2_with (go_at_call 38; ((with_reducible refine KC.out.mono ?_); rintro e1 w1 ⟨rfl, rfl⟩))
        go_ret
        exact ⟨ret_int (by rw [hn'.out]), rfl⟩
      · have hn' : Hid (a + run (on strB) (s.data.toList.drop a) = k + 1 + run (on strB) (s.data.toList.drop (k + 1))) := by
          show _ = _
          rw [hn.out, HY.out.1 rfl]; omega
        clear hn
        go_wp2_with (go_at_call 38; ((with_reducible refine KC.out.mono ?_); rintro e1 w1 ⟨rfl, rfl⟩))
        go_round
        case rel => exact ⟨k + 1, by omega, by go_num, hn'⟩
        case measure => simp [intOf]; omega
    · have hn' : Hid (a + run (on strB) (s.data.toList.drop a) = k) := by
        show _ = _
        have e : k = s.size := by omega
        rw [hn.out, e, run_at_end]; rfl
      clear hn
      go_wp2_with fail
      go_ret
      exact ⟨ret_int (by rw [hn'.out]), rfl⟩

theorem run_line (s : ByteArray) (a : Nat) (w : World) (hs : s.size ≤ 9223372036854775807) (ha : a ≤ s.size) :
    Calls Try.prog 33 #[.string s, .int .i64 a, .func (.func 34) #[] #[]] w (RunIs lineB s a w) := by
  go_enter Try.func33, Try.ntmps33
  go_wp2_with fail
  go_loop [1] (fun i => ∃ k : Nat, k ≤ s.size ∧ i = .int .i64 k ∧ Hid (a + run (on lineB) (s.data.toList.drop a) = k + run (on lineB) (s.data.toList.drop k))) (fun i => s.size - (intOf i).toNat)
  case atStart => exact ⟨a, ha, rfl, rfl⟩
  case round =>
    obtain ⟨k, hk, rfl, hn⟩ := hrel
    by_cases hlt : k < s.size
    · have kc := line_any (s[k].toNat : Int) w
      have hy := run_at_yes lineB s k hlt
      have hno := run_at_no lineB s k hlt
      obtain ⟨q, hq⟩ : ∃ q, q = lineB (s[k].toNat : Int) := ⟨_, rfl⟩
      rw [← hq] at kc hy hno
      have KC := Lib.hid kc
      have HY := Lib.hid (And.intro hy hno)
      clear kc hq hy hno
      cases q
      · have hn' : Hid (a + run (on lineB) (s.data.toList.drop a) = k) := by
          show _ = _
          rw [hn.out, HY.out.2 rfl]; rfl
        clear hn
        go_wp2_with (go_at_call 34; ((with_reducible refine KC.out.mono ?_); rintro e1 w1 ⟨rfl, rfl⟩))
        go_ret
        exact ⟨ret_int (by rw [hn'.out]), rfl⟩
      · have hn' : Hid (a + run (on lineB) (s.data.toList.drop a) = k + 1 + run (on lineB) (s.data.toList.drop (k + 1))) := by
          show _ = _
          rw [hn.out, HY.out.1 rfl]; omega
        clear hn
        go_wp2_with (go_at_call 34; ((with_reducible refine KC.out.mono ?_); rintro e1 w1 ⟨rfl, rfl⟩))
        go_round
        case rel => exact ⟨k + 1, by omega, by go_num, hn'⟩
        case measure => simp [intOf]; omega
    · have hn' : Hid (a + run (on lineB) (s.data.toList.drop a) = k) := by
        show _ = _
        have e : k = s.size := by omega
        rw [hn.out, e, run_at_end]; rfl
      clear hn
      go_wp2_with fail
      go_ret
      exact ⟨ret_int (by rw [hn'.out]), rfl⟩
end Go.Proofs.Ytaemahhcacolgaa
