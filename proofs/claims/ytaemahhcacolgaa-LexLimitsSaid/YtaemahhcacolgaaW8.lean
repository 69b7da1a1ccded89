/- Walks of the reference's digits, word. -/
import Derived.Test.YtaemahhcacolgaaW7
namespace Go.Proofs.Ytaemahhcacolgaa
open Go.RowKit LX

def LenIs (p : Int → Bool) (s : ByteArray) (a : Nat) (w : World) (e : Ending) (w' : World) : Prop := e = .returned (.int .i64 (run (on p) (s.data.toList.drop a) : Int)) ∧ w = w'

theorem rdigits_any (s : ByteArray) (a : Nat) (w : World) (hs : s.size ≤ 1000000) (ha : a ≤ s.size) :
    Calls Try.prog 40 #[.string s, .int .i64 a] w (LenIs digitB s a w) := by
  go_enter Try.func40, Try.ntmps40
  go_wp2_with fail
  go_loop [5] (fun i => ∃ k : Nat, a + k ≤ s.size ∧ i = .int .i64 k ∧ Hid (run (on digitB) (s.data.toList.drop a) = k + run (on digitB) (s.data.toList.drop (a + k)))) (fun i => s.size - a - (intOf i).toNat)
  case atStart => exact ⟨0, by omega, rfl, by show _ = _; simp⟩
  case round =>
    obtain ⟨k, hk, rfl, hn⟩ := hrel
    by_cases hlt : a + k < s.size
    · have hy := run_at_yes digitB s (a + k) hlt
      have hno := run_at_no digitB s (a + k) hlt
      have k1 := rdigit_any (s[a + k].toNat : Int) w
      obtain ⟨q, hq⟩ : ∃ q, q = digitB (s[a + k].toNat : Int) := ⟨_, rfl⟩
      rw [← hq] at k1 hy hno
      have K1 := Lib.hid k1
      clear k1 hq
      have HY := Lib.hid (And.intro hy hno)
      clear hy hno
      cases q
      · have hn' : Hid (run (on digitB) (s.data.toList.drop a) = k) := by
          show _ = _
          rw [hn.out, HY.out.2 rfl]; rfl
        clear hn
        go_wp2_with (go_at_call 26; ((with_reducible refine K1.out.mono ?_); rintro e1 w1 ⟨rfl, rfl⟩))
        go_ret
        exact ⟨ret_int (by rw [hn'.out]), rfl⟩
      · have hn' : Hid (run (on digitB) (s.data.toList.drop a) = k + 1 + run (on digitB) (s.data.toList.drop (a + (k + 1)))) := by
          show _ = _
          rw [hn.out, HY.out.1 rfl, Nat.add_assoc a k 1]; omega
        clear hn
        go_wp2_with (go_at_call 26; ((with_reducible refine K1.out.mono ?_); rintro e1 w1 ⟨rfl, rfl⟩))
        go_round
        case rel => exact ⟨k + 1, by omega, by go_num, hn'⟩
        case measure => simp [intOf]; omega
    · have hn' : Hid (run (on digitB) (s.data.toList.drop a) = k) := by
        show _ = _
        have e : a + k = s.size := by omega
        rw [hn.out, e, run_at_end]; rfl
      clear hn
      go_wp2_with fail
      go_ret
      exact ⟨ret_int (by rw [hn'.out]), rfl⟩

theorem rword_any (s : ByteArray) (a : Nat) (w : World) (hs : s.size ≤ 1000000) (ha : a ≤ s.size) :
    Calls Try.prog 25 #[.string s, .int .i64 a] w (LenIs nameB s a w) := by
  go_enter Try.func25, Try.ntmps25
  go_wp2_with fail
  go_loop [5] (fun i => ∃ k : Nat, a + k ≤ s.size ∧ i = .int .i64 k ∧ Hid (run (on nameB) (s.data.toList.drop a) = k + run (on nameB) (s.data.toList.drop (a + k)))) (fun i => s.size - a - (intOf i).toNat)
  case atStart => exact ⟨0, by omega, rfl, by show _ = _; simp⟩
  case round =>
    obtain ⟨k, hk, rfl, hn⟩ := hrel
    by_cases hlt : a + k < s.size
    · have hy := run_at_yes nameB s (a + k) hlt
      have hno := run_at_no nameB s (a + k) hlt
      have k1 := rletter_any (s[a + k].toNat : Int) w
      have k2 := rdigit_any (s[a + k].toNat : Int) w
      have hdef : nameB (s[a + k].toNat : Int) = (letterB (s[a + k].toNat : Int) || digitB (s[a + k].toNat : Int) || decide ((s[a + k].toNat : Int) = 95)) := rfl
      rw [hdef] at hy hno
      obtain ⟨q1, hq1⟩ : ∃ q, q = letterB (s[a + k].toNat : Int) := ⟨_, rfl⟩
      obtain ⟨q2, hq2⟩ : ∃ q, q = digitB (s[a + k].toNat : Int) := ⟨_, rfl⟩
      rw [← hq1] at k1 hy hno
      rw [← hq2] at k2 hy hno
      have K1 := Lib.hid k1
      have K2 := Lib.hid k2
      clear k1 k2 hq1 hq2 hdef
      have HY := Lib.hid (And.intro hy hno)
      clear hy hno
      cases q1
      · cases q2
        · by_cases h95 : (s[a + k].toNat : Int) = 95
          · have K1 : Hid (Calls Try.prog 24 #[.int .u8 95] w fun e w' => e = .returned (.bool false) ∧ w = w') := rletter_any 95 w
            have K2 : Hid (Calls Try.prog 26 #[.int .u8 95] w fun e w' => e = .returned (.bool false) ∧ w = w') := rdigit_any 95 w
            have hn' : Hid (run (on nameB) (s.data.toList.drop a) = k + 1 + run (on nameB) (s.data.toList.drop (a + (k + 1)))) := by
              show _ = _
              rw [hn.out, HY.out.1 (by simp [h95]), Nat.add_assoc a k 1]; omega
            clear hn
            go_wp2_with (first | (go_at_call 24; ((with_reducible refine K1.out.mono ?_); rintro e1 w1 ⟨rfl, rfl⟩)) | (go_at_call 26; ((with_reducible refine K2.out.mono ?_); rintro e1 w1 ⟨rfl, rfl⟩)) | fail)
            go_round
            case rel => exact ⟨k + 1, by omega, by go_num, hn'⟩
            case measure => simp [intOf]; omega
          · have hn' : Hid (run (on nameB) (s.data.toList.drop a) = k) := by
              show _ = _
              rw [hn.out, HY.out.2 (by simp [h95])]; rfl
            clear hn
            go_wp2_with (first | (go_at_call 24; ((with_reducible refine K1.out.mono ?_); rintro e1 w1 ⟨rfl, rfl⟩)) | (go_at_call 26; ((with_reducible refine K2.out.mono ?_); rintro e1 w1 ⟨rfl, rfl⟩)) | fail)
            go_ret
            exact ⟨ret_int (by rw [hn'.out]), rfl⟩
        · have hn' : Hid (run (on nameB) (s.data.toList.drop a) = k + 1 + run (on nameB) (s.data.toList.drop (a + (k + 1)))) := by
            show _ = _
            rw [hn.out, HY.out.1 rfl, Nat.add_assoc a k 1]; omega
          clear hn
          go_wp2_with (first | (go_at_call 24; ((with_reducible refine K1.out.mono ?_); rintro e1 w1 ⟨rfl, rfl⟩)) | (go_at_call 26; ((with_reducible refine K2.out.mono ?_); rintro e1 w1 ⟨rfl, rfl⟩)) | fail)
          go_round
          case rel => exact ⟨k + 1, by omega, by go_num, hn'⟩
          case measure => simp [intOf]; omega
      · have hn' : Hid (run (on nameB) (s.data.toList.drop a) = k + 1 + run (on nameB) (s.data.toList.drop (a + (k + 1)))) := by
          show _ = _
          rw [hn.out, HY.out.1 (by simp), Nat.add_assoc a k 1]; omega
        clear hn
        go_wp2_with (first | (go_at_call 24; ((with_reducible refine K1.out.mono ?_); rintro e1 w1 ⟨rfl, rfl⟩)) | (go_at_call 26; ((with_reducible refine K2.out.mono ?_); rintro e1 w1 ⟨rfl, rfl⟩)) | fail)
        go_round
        case rel => exact ⟨k + 1, by omega, by go_num, hn'⟩
        case measure => simp [intOf]; omega
    · have hn' : Hid (run (on nameB) (s.data.toList.drop a) = k) := by
        show _ = _
        have e : a + k = s.size := by omega
        rw [hn.out, e, run_at_end]; rfl
      clear hn
      go_wp2_with fail
      go_ret
      exact ⟨ret_int (by rw [hn'.out]), rfl⟩
end Go.Proofs.Ytaemahhcacolgaa
