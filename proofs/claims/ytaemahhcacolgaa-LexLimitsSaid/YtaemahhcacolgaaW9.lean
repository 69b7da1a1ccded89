/- Walks of the reference's number, quoted. -/
import Derived.Test.YtaemahhcacolgaaW8
namespace Go.Proofs.Ytaemahhcacolgaa
open Go.RowKit LX

theorem run_pos (p : Int → Bool) (s : ByteArray) (b : Nat) (h : 0 < run (on p) (s.data.toList.drop b)) : ∃ h1 : b < s.size, p (s[b].toNat : Int) = true := by
  by_cases h1 : b < s.size
  · refine ⟨h1, ?_⟩
    cases hp : p (s[b].toNat : Int)
    · rw [run_at_no p s b h1 hp] at h; omega
    · rfl
  · rw [List.drop_of_length_le (by simp; omega)] at h; simp [run] at h
def NumIs (s : ByteArray) (a : Nat) (w : World) (e : Ending) (w' : World) : Prop := e = .returned (.int .i64 (numN (s.data.toList.drop a) : Int)) ∧ w = w'
set_option maxHeartbeats 1000000 in
theorem rnumber_any (s : ByteArray) (a : Nat) (w : World) (hs : s.size ≤ 1000000) (ha : a ≤ s.size) :
    Calls Try.prog 27 #[.string s, .int .i64 a] w (NumIs s a w) := by
  have K1 := rdigits_any s a w hs ha
  unfold LenIs at K1
  have hle := run_le (on digitB) (s.data.toList.drop a)
  simp only [List.length_drop, Array.length_toList] at hle
  have hsz : s.data.size = s.size := rfl
  obtain ⟨n, hn⟩ : ∃ n, run (on digitB) (s.data.toList.drop a) = n := ⟨_, rfl⟩
  have hno := num_no s a n hn
  have hyes := num_yes s a n hn
  rw [hn] at K1 hle
  have K1 := Lib.hid K1
  clear hn
  by_cases h1 : a + n < s.size
  case neg =>
    have HL : Hid (numN (s.data.toList.drop a) = n) := hno (fun h => by omega)
    clear hno hyes
    go_enter Try.func27, Try.ntmps27
    go_wp2_with (go_at_call 40; ((with_reducible refine K1.out.mono ?_); rintro e1 w1 ⟨rfl, rfl⟩))
    go_ret
    exact ⟨ret_int (by rw [HL.out]), rfl⟩
  by_cases h2 : (s[a + n].toNat : Int) = 46
  case neg =>
    have HL : Hid (numN (s.data.toList.drop a) = n) := hno (fun _ h => absurd h h2)
    clear hno hyes
    go_enter Try.func27, Try.ntmps27
    go_wp2_with (go_at_call 40; ((with_reducible refine K1.out.mono ?_); rintro e1 w1 ⟨rfl, rfl⟩))
    go_ret
    exact ⟨ret_int (by rw [HL.out]), rfl⟩
  have K2 := rdigits_any s (a + n + 1) w hs (by omega)
  unfold LenIs at K2
  have hpos := run_pos digitB s (a + n + 1)
  have hle2 := run_le (on digitB) (s.data.toList.drop (a + n + 1))
  simp only [List.length_drop, Array.length_toList] at hle2
  have hz : ∀ h1 : a + n + 1 < s.size, digitB (s[a + n + 1].toNat : Int) = true → 0 < run (on digitB) (s.data.toList.drop (a + n + 1)) := fun h3 h4 => by rw [run_at_yes digitB s _ h3 h4]; omega
  obtain ⟨m, hm⟩ : ∃ m, run (on digitB) (s.data.toList.drop (a + n + 1)) = m := ⟨_, rfl⟩
  rw [hm] at K2 hpos hle2 hz hyes
  simp only [Int.natCast_add, Int.natCast_one] at K2
  have K2 := Lib.hid K2
  by_cases h3 : 0 < m
  · obtain ⟨g1, g2⟩ := hpos h3
    have HL : Hid (numN (s.data.toList.drop a) = n + 1 + m) := hyes g1 h2 g2
    clear hno hyes g2 hz hm
    go_enter Try.func27, Try.ntmps27
    go_wp2_with (go_at_call 40; (first | ((with_reducible refine K1.out.mono ?_); rintro e1 w1 ⟨rfl, rfl⟩) | ((with_reducible refine K2.out.mono ?_); rintro e1 w1 ⟨rfl, rfl⟩)))
    go_ret
    exact ⟨ret_int (by rw [HL.out]; omega), rfl⟩
  · have HL : Hid (numN (s.data.toList.drop a) = n) := hno (fun g1 _ => by
      cases hd : digitB (s[a + n + 1].toNat : Int)
      · rfl
      · exact absurd (hz g1 hd) h3)
    clear hno hyes hz hpos hm
    go_enter Try.func27, Try.ntmps27
    go_wp2_with (go_at_call 40; (first | ((with_reducible refine K1.out.mono ?_); rintro e1 w1 ⟨rfl, rfl⟩) | ((with_reducible refine K2.out.mono ?_); rintro e1 w1 ⟨rfl, rfl⟩)))
    go_ret
    exact ⟨ret_int (by rw [HL.out]), rfl⟩

end Go.Proofs.Ytaemahhcacolgaa
