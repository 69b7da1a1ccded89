/- The walk of the reference's signed. -/
import Derived.Test.YtaemahhcacolgaaW10
namespace Go.Proofs.Ytaemahhcacolgaa
open Go.RowKit LX

theorem sign_drop (s : ByteArray) (a : Nat) (h : a < s.size) (q : Bool) (hq : q = true ↔ ∃ h1 : a + 1 < s.size, (s[a + 1].toNat : Int) = 61) : signN (s.data.toList.drop a) = signI (s[a].toNat : Int) q := by
  rw [drop_cons s a h, signN_int]
  congr 1
  rw [Bool.eq_iff_iff, hq, decide_eq_true_iff]
  by_cases h1 : a + 1 < s.size
  · rw [drop_cons s (a + 1) h1]
    simp only [List.head?_cons, Option.some.injEq, h1, exists_true_left]
    exact byte_eq (n := 61) (by omega)
  · rw [List.drop_of_length_le (by simp; omega)]
    simp [h1]
def SgIs (s : ByteArray) (a : Nat) (w : World) (e : Ending) (w' : World) : Prop := e = .returned (.int .i64 (signN (s.data.toList.drop a) : Int)) ∧ w = w'
set_option maxHeartbeats 8000000 in
set_option maxRecDepth 20000 in
theorem rsigned_any (s : ByteArray) (a : Nat) (w : World) (hs : s.size ≤ 1000000) (ha : a < s.size) :
    Calls Try.prog 29 #[.string s, .int .i64 a] w (SgIs s a w) := by
  have key := fun q hq => sign_drop s a ha q hq
  by_cases h1 : a + 1 < s.size
  case neg =>
    have hN : Hid (signN (s.data.toList.drop a) = signI (s[a].toNat : Int) false) := key false ⟨fun h => by (cases h), fun ⟨h, _⟩ => absurd h h1⟩
    clear key
    obtain ⟨c, hc⟩ : ∃ c, c = (s[a].toNat : Int) := ⟨_, rfl⟩
    rw [← hc] at hN
    have Hc := hc.symm
    clear hc
    by_cases gA : c = 60 ∨ c = 62 ∨ c = 61 ∨ c = 33
    · rcases gA with rfl | rfl | rfl | rfl
      all_goals
        have HN := hN
        go_enter Try.func29, Try.ntmps29
        go_wp2_with fail
        go_ret
        exact ⟨ret_int (by rw [HN.out]; rfl), rfl⟩
    by_cases gB : c = 123 ∨ c = 125 ∨ c = 40 ∨ c = 41 ∨ c = 44 ∨ c = 59 ∨ c = 58 ∨ c = 43 ∨ c = 45 ∨ c = 42 ∨ c = 47 ∨ c = 37
    · rcases gB with rfl | rfl | rfl | rfl | rfl | rfl | rfl | rfl | rfl | rfl | rfl | rfl
      all_goals
        have HN := hN
        go_enter Try.func29, Try.ntmps29
        go_wp2_with fail
        go_ret
        exact ⟨ret_int (by rw [HN.out]; rfl), rfl⟩
    have HN : Hid (signN (s.data.toList.drop a) = 0) := by
      show _ = _
      rw [hN.out]; unfold signI; rw [if_neg gA, if_neg gB]
    clear hN
    simp only [not_or] at gA gB
    obtain ⟨a1, a2, a3, a4⟩ := gA
    obtain ⟨b1, b2, b3, b4, b5, b6, b7, b8, b9, b10, b11, b12⟩ := gB
    go_enter Try.func29, Try.ntmps29
    go_wp2_with fail
    go_ret
    exact ⟨ret_int (by rw [HN.out]; rfl), rfl⟩
  by_cases h61 : (s[a + 1].toNat : Int) = 61
  case neg =>
    have hN : Hid (signN (s.data.toList.drop a) = signI (s[a].toNat : Int) false) := key false ⟨fun h => by (cases h), fun ⟨_, h⟩ => absurd h h61⟩
    clear key
    obtain ⟨c, hc⟩ : ∃ c, c = (s[a].toNat : Int) := ⟨_, rfl⟩
    rw [← hc] at hN
    have Hc := hc.symm
    clear hc
    by_cases gA : c = 60 ∨ c = 62 ∨ c = 61 ∨ c = 33
    · rcases gA with rfl | rfl | rfl | rfl
      all_goals
        have HN := hN
        go_enter Try.func29, Try.ntmps29
        go_wp2_with fail
        go_ret
        exact ⟨ret_int (by rw [HN.out]; rfl), rfl⟩
    by_cases gB : c = 123 ∨ c = 125 ∨ c = 40 ∨ c = 41 ∨ c = 44 ∨ c = 59 ∨ c = 58 ∨ c = 43 ∨ c = 45 ∨ c = 42 ∨ c = 47 ∨ c = 37
    · rcases gB with rfl | rfl | rfl | rfl | rfl | rfl | rfl | rfl | rfl | rfl | rfl | rfl
      all_goals
        have HN := hN
        go_enter Try.func29, Try.ntmps29
        go_wp2_with fail
        go_ret
        exact ⟨ret_int (by rw [HN.out]; rfl), rfl⟩
    have HN : Hid (signN (s.data.toList.drop a) = 0) := by
      show _ = _
      rw [hN.out]; unfold signI; rw [if_neg gA, if_neg gB]
    clear hN
    simp only [not_or] at gA gB
    obtain ⟨a1, a2, a3, a4⟩ := gA
    obtain ⟨b1, b2, b3, b4, b5, b6, b7, b8, b9, b10, b11, b12⟩ := gB
    go_enter Try.func29, Try.ntmps29
    go_wp2_with fail
    go_ret
    exact ⟨ret_int (by rw [HN.out]; rfl), rfl⟩
  have hN : Hid (signN (s.data.toList.drop a) = signI (s[a].toNat : Int) true) := key true ⟨fun _ => ⟨h1, h61⟩, fun _ => rfl⟩
  clear key
  obtain ⟨c, hc⟩ : ∃ c, c = (s[a].toNat : Int) := ⟨_, rfl⟩
  rw [← hc] at hN
  have Hc := hc.symm
  clear hc
  by_cases gA : c = 60 ∨ c = 62 ∨ c = 61 ∨ c = 33
  · rcases gA with rfl | rfl | rfl | rfl
    all_goals
      have HN := hN
      go_enter Try.func29, Try.ntmps29
      go_wp2_with fail
      go_ret
      exact ⟨ret_int (by rw [HN.out]; rfl), rfl⟩
  by_cases gB : c = 123 ∨ c = 125 ∨ c = 40 ∨ c = 41 ∨ c = 44 ∨ c = 59 ∨ c = 58 ∨ c = 43 ∨ c = 45 ∨ c = 42 ∨ c = 47 ∨ c = 37
  · rcases gB with rfl | rfl | rfl | rfl | rfl | rfl | rfl | rfl | rfl | rfl | rfl | rfl
    all_goals
      have HN := hN
      go_enter Try.func29, Try.ntmps29
      go_wp2_with fail
      go_ret
      exact ⟨ret_int (by rw [HN.out]; rfl), rfl⟩
  have HN : Hid (signN (s.data.toList.drop a) = 0) := by
    show _ = _
    rw [hN.out]; unfold signI; rw [if_neg gA, if_neg gB]
  clear hN
  simp only [not_or] at gA gB
  obtain ⟨a1, a2, a3, a4⟩ := gA
  obtain ⟨b1, b2, b3, b4, b5, b6, b7, b8, b9, b10, b11, b12⟩ := gB
  go_enter Try.func29, Try.ntmps29
  go_wp2_with fail
  go_ret
  exact ⟨ret_int (by rw [HN.out]; rfl), rfl⟩

set_option maxHeartbeats 1000000 in
theorem rskip_any (s : ByteArray) (a : Nat) (w : World) (hs : s.size ≤ 1000000) (ha : a ≤ s.size) :
    Calls Try.prog 17 #[.string s, .int .i64 a] w (SkipIs s a w) := by
  go_enter Try.func17, Try.ntmps17
  go_wp2_with fail
  go_loop [1] (fun i => ∃ k : Nat, k ≤ s.size ∧ i = .int .i64 k ∧ SkR s a k) (fun i => s.size - (intOf i).toNat)
  case atStart => exact ⟨a, ha, rfl, rfl⟩
  case round =>
    obtain ⟨k, hk, rfl, hn⟩ := hrel
    by_cases hlt : k < s.size
    · have kb := blank_any (s[k].toNat : Int) w
      by_cases hb : blankB (s[k].toNat : Int) = true
      · have hn' : SkR s a (k + 1) := by
          unfold SkR at *
          rw [hn, skip_at_blank s k hlt hb]; omega
        have hne : (s[k].toNat : Int) ≠ 35 := by
          simp only [blankB, Bool.or_eq_true, decide_eq_true_eq] at hb; omega
        rw [hb] at kb
        have KB := Lib.hid kb
        clear hn hb kb
        go_wp2_with (go_at_call 23; ((with_reducible refine KB.out.mono ?_); rintro e1 w1 ⟨rfl, rfl⟩))
        go_round
        case rel => exact ⟨k + 1, by omega, by go_num, hn'⟩
        case measure => simp [intOf]; omega
      · have hb' : blankB (s[k].toNat : Int) = false := by simpa using hb
        by_cases h35 : (s[k].toNat : Int) = 35
        · have KB : Hid (Calls Try.prog 23 #[.int .u8 35] w fun e w' => e = .returned (.bool false) ∧ w = w') := blank_any 35 w
          obtain ⟨h1, h2⟩ := skip_at_line s k hlt h35
          have hle := run_le (on lineB) (s.data.toList.drop k)
          simp only [List.length_drop, Array.length_toList] at hle
          have hsz : s.data.size = s.size := rfl
          have hn' : SkR s a (k + run (on lineB) (s.data.toList.drop k)) := by
            unfold SkR at *
            rw [hn, h2]; omega
          obtain ⟨r, hr⟩ : ∃ r, r = run (on lineB) (s.data.toList.drop k) := ⟨_, rfl⟩
          rw [← hr] at h1 hn' hle
          have HR := Lib.hid hr
          clear hn h2 hr hb hb' kb
          go_wp2_with (go_at_call 23; ((with_reducible refine KB.out.mono ?_); rintro e1 w1 ⟨rfl, rfl⟩))
          go_loop [1] (fun i => ∃ j : Nat, k ≤ j ∧ j ≤ s.size ∧ i = .int .i64 j ∧ Hid (k + run (on lineB) (s.data.toList.drop k) = j + run (on lineB) (s.data.toList.drop j))) (fun i => s.size - (intOf i).toNat)
          case atStart => exact ⟨k, Nat.le_refl _, hk, rfl, rfl⟩
          case round =>
            obtain ⟨j, hkj, hj, rfl, hrn⟩ := hrel
            have fin : run (on lineB) (s.data.toList.drop j) = 0 → j = k + r := fun h => by
              have := hrn.out
              rw [← HR.out, h] at this; omega
            by_cases hlt2 : j < s.size
            · by_cases h10 : (s[j].toNat : Int) = 10
              · have hjr := fin (run_at_no lineB s j hlt2 (by rw [h10]; rfl))
                have hn2 : SkR s a j := by rw [hjr]; exact hn'
                have hjk : k < j := by omega
                clear fin hrn hn' hjr
                go_wp2_with fail
                go_round
                case rel => exact ⟨j, by omega, rfl, hn2⟩
                case measure => simp [intOf]; omega
              · have hrn' : Hid (k + run (on lineB) (s.data.toList.drop k) = j + 1 + run (on lineB) (s.data.toList.drop (j + 1))) := by
                  show _ = _
                  rw [hrn.out, run_at_yes lineB s j hlt2 (by simp [lineB, h10])]; omega
                have q10 : ((s[j].toNat : Int) != 10) = true := by simp; omega
                clear fin hrn
                go_wp2_with fail
                go_round
                case rel => exact ⟨j + 1, by omega, by omega, by go_num, hrn'⟩
                case measure => simp [intOf]; omega
            · have hjr := fin (by rw [show j = s.size by omega]; exact run_at_end lineB s)
              have hn2 : SkR s a j := by rw [hjr]; exact hn'
              have hjk : k < j := by omega
              clear fin hrn hn' hjr
              go_wp2_with fail
              go_round
              case rel => exact ⟨j, by omega, rfl, hn2⟩
              case measure => simp [intOf]; omega
        · have hn' : Hid (a + skipC false (s.data.toList.drop a) = k) := by
            show _ = _
            unfold SkR at hn
            rw [hn, skip_at_no s k hlt hb' h35]; rfl
          rw [hb'] at kb
          have KB := Lib.hid kb
          have q35 : ((s[k].toNat : Int) == 35) = false := by simp; exact h35
          clear hn hb hb' kb
          go_wp2_with (go_at_call 23; ((with_reducible refine KB.out.mono ?_); rintro e1 w1 ⟨rfl, rfl⟩))
          go_ret
          exact ⟨ret_int (by rw [hn'.out]), rfl⟩
    · have hn' : Hid (a + skipC false (s.data.toList.drop a) = k) := by
        show _ = _
        unfold SkR at hn
        have e : k = s.size := by omega
        rw [hn, e, skip_at_end]; rfl
      clear hn
      go_wp2_with fail
      go_ret
      exact ⟨ret_int (by rw [hn'.out]), rfl⟩
end Go.Proofs.Ytaemahhcacolgaa
