/- The walk of the reference's quoted. -/
import Derived.Test.YtaemahhcacolgaaW9
namespace Go.Proofs.Ytaemahhcacolgaa
open Go.RowKit LX

/-- The length of the string behind its first quote; 0 if there is none. -/
def quoN (l : List UInt8) : Nat := if l[run (on strB) l]? = some 34 ∧ run (on strB) l ≤ 500 then run (on strB) l + 2 else 0
def QuoIs (s : ByteArray) (a : Nat) (w : World) (e : Ending) (w' : World) : Prop := e = .returned (.int .i64 (quoN (s.data.toList.drop (a + 1)) : Int)) ∧ w = w'
theorem quo_end (s : ByteArray) (a k : Nat) (h : run (on strB) (s.data.toList.drop (a + 1)) = k + run (on strB) (s.data.toList.drop (a + 1 + k))) (hk : s.size ≤ a + 1 + k ∨ 501 ≤ k) : quoN (s.data.toList.drop (a + 1)) = 0 := by
  unfold quoN
  rw [if_neg]
  rintro ⟨g1, g2⟩
  rcases hk with hk | hk
  · rw [drop_none s (a + 1) _ (by omega)] at g1; cases g1
  · omega
theorem quo_stop (s : ByteArray) (a k : Nat) (h : run (on strB) (s.data.toList.drop (a + 1)) = k + run (on strB) (s.data.toList.drop (a + 1 + k))) (hlt : a + 1 + k < s.size) (hk : k ≤ 500) (hp : strB (s[a + 1 + k].toNat : Int) = false) :
    quoN (s.data.toList.drop (a + 1)) = if (s[a + 1 + k].toNat : Int) = 34 then k + 2 else 0 := by
  have h' : run (on strB) (s.data.toList.drop (a + 1)) = k := by rw [h, run_at_no strB s _ hlt hp]; rfl
  clear h
  have hd := drop_get s (a + 1) k hlt
  unfold quoN
  rw [h', hd]
  by_cases g : (s[a + 1 + k].toNat : Int) = 34
  · rw [if_pos ⟨congrArg some ((byte_eq (n := 34) (by omega)).2 g), hk⟩, if_pos g]
  · rw [if_neg (fun h => g ((byte_eq (n := 34) (by omega)).1 (Option.some.inj h.1))), if_neg g]
set_option maxHeartbeats 2000000 in
set_option maxRecDepth 20000 in
theorem rquoted_any (s : ByteArray) (a : Nat) (w : World) (hs : s.size ≤ 1000000) (ha : a < s.size) :
    Calls Try.prog 28 #[.string s, .int .i64 a] w (QuoIs s a w) := by
  go_enter Try.func28, Try.ntmps28
  go_wp2_with fail
  go_loop [5] (fun i => ∃ k : Nat, k ≤ 501 ∧ a + 1 + k ≤ s.size ∧ i = .int .i64 ((k : Int) + 1) ∧ Hid (run (on strB) (s.data.toList.drop (a + 1)) = k + run (on strB) (s.data.toList.drop (a + 1 + k)))) (fun i => s.size - (intOf i).toNat)
  case atStart => exact ⟨0, by omega, by omega, rfl, by show _ = _; simp⟩
  case round =>
    obtain ⟨k, hk, hk2, rfl, hn⟩ := hrel
    by_cases hlt : a + 1 + k < s.size
    case neg =>
      have HL : Hid (quoN (s.data.toList.drop (a + 1)) = 0) := quo_end s a k hn.out (.inl (by omega))
      clear hn
      go_wp2_with fail
      go_ret
      exact ⟨ret_int (by rw [HL.out]; rfl), rfl⟩
    by_cases h5 : k ≤ 500
    case neg =>
      have HL : Hid (quoN (s.data.toList.drop (a + 1)) = 0) := quo_end s a k hn.out (.inr (by omega))
      clear hn
      go_wp2_with fail
      go_ret
      exact ⟨ret_int (by rw [HL.out]; rfl), rfl⟩
    have hst := quo_stop s a k hn.out hlt h5
    have hy := run_at_yes strB s (a + 1 + k) hlt
    have e9 : a + (k + 1) = a + 1 + k := by omega
    obtain ⟨c, hc⟩ : ∃ c, c = (s[a + 1 + k].toNat : Int) := ⟨_, rfl⟩
    rw [← hc] at hst hy
    have hc' : (s[a + (k + 1)].toNat : Int) = c := by rw [hc]; simp only [e9]
    clear e9 hc
    by_cases g34 : c = 34
    · have HL : Hid (quoN (s.data.toList.drop (a + 1)) = k + 2) := by
        have := hst (by rw [g34]; rfl)
        rw [if_pos g34] at this; exact this
      clear hst hy hn
      subst g34
      go_wp2_with fail
      go_ret
      exact ⟨ret_int (by rw [HL.out]; omega), rfl⟩
    by_cases hp : strB c = true
    · have hn' : Hid (run (on strB) (s.data.toList.drop (a + 1)) = k + 1 + run (on strB) (s.data.toList.drop (a + 1 + (k + 1)))) := by
        show _ = _
        rw [hn.out, hy hp, show a + 1 + (k + 1) = a + 1 + k + 1 by omega]; omega
      have hq : 32 ≤ c ∧ c ≤ 126 ∧ c ≠ 92 := by
        simp only [strB, Bool.and_eq_true, Bool.not_eq_true', decide_eq_true_eq, decide_eq_false_iff_not] at hp
        exact ⟨hp.1.1.1, hp.1.1.2, hp.2⟩
      obtain ⟨q1, q2, q3⟩ := hq
      have q4 : (c == 92) = false := by simp; exact q3
      have q5 : (c == 34) = false := by simp; exact g34
      have q6 : decide (c < 32) = false := by simp; omega
      have q7 : decide (126 < c) = false := by simp; omega
      clear hst hy hn hp
      go_wp2_with fail
      go_round
      case rel => exact ⟨k + 1, by omega, by omega, by go_num, hn'⟩
      case measure => simp [intOf]; omega
    · have hp : strB c = false := by simpa using hp
      have HL : Hid (quoN (s.data.toList.drop (a + 1)) = 0) := by
        have := hst hp
        rw [if_neg g34] at this; exact this
      have hq : ¬ (32 ≤ c) ∨ ¬ (c ≤ 126) ∨ c = 92 := by
        by_cases q1 : 32 ≤ c
        · by_cases q2 : c ≤ 126
          · by_cases q3 : c = 92
            · exact .inr (.inr q3)
            · have : strB c = true := by simp [strB, q1, q2, q3, g34]
              rw [hp] at this; cases this
          · exact .inr (.inl q2)
        · exact .inl q1
      clear hst hy hn hp
      rcases hq with q | q | q
      · go_wp2_with fail
        go_ret
        exact ⟨ret_int (by rw [HL.out]; rfl), rfl⟩
      · have q1 : 32 ≤ c := by omega
        go_wp2_with fail
        go_ret
        exact ⟨ret_int (by rw [HL.out]; rfl), rfl⟩
      · subst q
        go_wp2_with fail
        go_ret
        exact ⟨ret_int (by rw [HL.out]; rfl), rfl⟩
end Go.Proofs.Ytaemahhcacolgaa
