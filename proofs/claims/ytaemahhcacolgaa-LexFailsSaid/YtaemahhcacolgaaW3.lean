/- The walk of skip. -/
import Derived.Test.YtaemahhcacolgaaW2
namespace Go.Proofs.Ytaemahhcacolgaa
open Go.RowKit LX

theorem comment_run : ∀ l : List UInt8, skipC true l = run (on lineB) l + skipC false (l.drop (run (on lineB) l))
  | [] => rfl
  | c :: l => by
    rw [skipC_t]
    by_cases g : c = 10
    · subst g
      have : on lineB 10 = false := rfl
      rw [if_pos rfl]
      simp [run, this, skipC_f, show on blankB 10 = true from rfl]
    · have : on lineB c = true := by
        show (!decide ((c.toNat : Int) = 10)) = true
        simp only [Bool.not_eq_true', decide_eq_false_iff_not]
        exact fun e => g (UInt8.toNat_inj.1 (by show c.toNat = 10; omega))
      rw [if_neg g, comment_run l]
      simp only [run, this, if_true, List.drop_succ_cons]
      omega
theorem skip_at_blank (s : ByteArray) (k : Nat) (h : k < s.size) (hp : blankB (s[k].toNat : Int) = true) : skipC false (s.data.toList.drop k) = skipC false (s.data.toList.drop (k + 1)) + 1 := by
  rw [drop_cons s k h, skipC_f, if_pos (show on blankB s[k] = true from hp)]
theorem skip_at_line (s : ByteArray) (k : Nat) (h : k < s.size) (hp : (s[k].toNat : Int) = 35) : 0 < run (on lineB) (s.data.toList.drop k) ∧ skipC false (s.data.toList.drop k) = run (on lineB) (s.data.toList.drop k) + skipC false (s.data.toList.drop (k + run (on lineB) (s.data.toList.drop k))) := by
  have e : s[k] = 35 := UInt8.toNat_inj.1 (by show s[k].toNat = 35; omega)
  rw [← List.drop_drop, drop_cons s k h, e]
  have h1 : on lineB 35 = true := rfl
  refine ⟨by simp [run, h1], ?_⟩
  rw [skipC_f, if_neg (by decide), if_pos rfl, comment_run]
  simp only [run, h1, if_true, List.drop_succ_cons]
  omega
theorem skip_at_no (s : ByteArray) (k : Nat) (h : k < s.size) (h1 : blankB (s[k].toNat : Int) = false) (h2 : (s[k].toNat : Int) ≠ 35) : skipC false (s.data.toList.drop k) = 0 := by
  rw [drop_cons s k h, skipC_f, if_neg (by show ¬ blankB _ = true; rw [h1]; simp), if_neg (fun e => h2 (by rw [e]; rfl))]
theorem skip_at_end (s : ByteArray) : skipC false (s.data.toList.drop s.size) = 0 := by
  rw [List.drop_of_length_le (by simp)]; rfl
def SkipIs (s : ByteArray) (a : Nat) (w : World) (e : Ending) (w' : World) : Prop := e = .returned (.int .i64 ((a + skipC false (s.data.toList.drop a) : Nat) : Int)) ∧ w = w'
def SkR (s : ByteArray) (a k : Nat) : Prop := a + skipC false (s.data.toList.drop a) = k + skipC false (s.data.toList.drop k)

theorem skip_any (s : ByteArray) (a : Nat) (w : World) (hs : s.size ≤ 9223372036854775807) (ha : a ≤ s.size) :
    Calls Try.prog 21 #[.string s, .int .i64 a] w (SkipIs s a w) := by
  go_enter Try.func21, Try.ntmps21
  go_wp2_with fail
  go_loop [1] (fun i => ∃ k : Nat, k ≤ s.size ∧ i = .int .i64 k ∧ SkR s a k) (fun i => s.size - (intOf i).toNat)
  case atStart => exact ⟨a, ha, rfl, rfl⟩
  case round =>
    obtain ⟨k, hk, rfl, hn⟩ := hrel
    by_cases hlt : k < s.size
    · by_cases hb : blankB (s[k].toNat : Int) = true
      · have hn' : SkR s a (k + 1) := by
          unfold SkR at *
          rw [hn, skip_at_blank s k hlt hb]; omega
        have hb : (s[k].toNat : Int) = 9 ∨ (s[k].toNat : Int) = 10 ∨ (s[k].toNat : Int) = 13 ∨ (s[k].toNat : Int) = 32 := by
          simp only [blankB, Bool.or_eq_true, decide_eq_true_eq] at hb; omega
        clear hn
        obtain ⟨c, hc⟩ : ∃ c, c = (s[k].toNat : Int) := ⟨_, rfl⟩
        have Hc := hc
        rw [← hc] at hb
        rcases hb with rfl | rfl | rfl | rfl
        all_goals
          replace Hc := Hc.symm
          clear hc
          go_wp2_with fail
          go_round
          case rel => exact ⟨k + 1, by omega, by go_num, hn'⟩
          case measure => simp [intOf]; omega
      · have hb' : blankB (s[k].toNat : Int) = false := by simpa using hb
        have hne : (s[k].toNat : Int) ≠ 9 ∧ (s[k].toNat : Int) ≠ 10 ∧ (s[k].toNat : Int) ≠ 13 ∧ (s[k].toNat : Int) ≠ 32 := by
          simp only [blankB, Bool.or_eq_false_iff, decide_eq_false_iff_not] at hb'; omega
        by_cases h35 : (s[k].toNat : Int) = 35
        · obtain ⟨h1, h2⟩ := skip_at_line s k hlt h35
          have hle := run_le (on lineB) (s.data.toList.drop k)
          simp only [List.length_drop, Array.length_toList] at hle
          have hsz : s.data.size = s.size := rfl
          have hn' : SkR s a (k + run (on lineB) (s.data.toList.drop k)) := by
            unfold SkR at *
            rw [hn, h2]; omega
          have K := Lib.hid (run_line s k w hs hk)
          unfold RunIs at K
          obtain ⟨r, hr⟩ : ∃ r, r = run (on lineB) (s.data.toList.drop k) := ⟨_, rfl⟩
          rw [← hr] at K h1 hn' hle
          clear hn h2 hr hb hb'
          go_wp2_with (go_at_call 33; ((with_reducible refine K.out.mono ?_); rintro e1 w1 ⟨rfl, rfl⟩))
          go_round
          case rel => exact ⟨k + r, by omega, rfl, hn'⟩
          case measure => simp [intOf]; omega
        · have hn' : Hid (a + skipC false (s.data.toList.drop a) = k) := by
            show _ = _
            unfold SkR at hn
            rw [hn, skip_at_no s k hlt hb' h35]; rfl
          clear hn hb hb'
          obtain ⟨n1, n2, n3, n4⟩ := hne
          go_wp2_with fail
          go_ret
          exact ⟨ret_int (by rw [hn'.out]), rfl⟩
    · have hn' : Hid (a + skipC false (s.data.toList.drop a) = k) := by
        show _ = _
        unfold SkR at hn
        have e : k = s.size := by omega
        rw [hn, e, skip_at_end]; rfl
      clear hn
      go_wp2_with fail
      go_ret
      exact ⟨ret_int (by rw [hn'.out]), rfl⟩
end Go.Proofs.Ytaemahhcacolgaa
