/- The small calls of the disk: New, number, due, Down, Start, Lose, Size. -/
import Derived.Test.YtmnimcdbfolhaaaDM
import Derived.Test.YtmnimcdbfolhaaaPlanB
import Derived.Test.YtmnimcdbfolhaaaChecked
set_option linter.unusedSimpArgs false
set_option linter.unusedVariables false
namespace Go.Proofs.Ytmnimcdbfolhaaa
open Go.RowKit DK
attribute [local go_sem] alloc_drewN setCell_drewN shape_drewN
def dp (b : Nat) : Value := .pointer (some ⟨b, 0, none⟩)
/-- What a call that makes nothing of a disk's state but s' hands back. -/
def DoesTo (b : Nat) (m : Dm) (w : World) (s' : St) (v : Value) (e : Ending) (w' : World) : Prop := ∃ m', e = .returned v ∧ DiskAt w' b m' s' ∧ Stp b m w m' w'
theorem number_any (v : Value) (f : Int) (w : World) : Calls Try.prog 49 #[v, .int .i64 f] w fun e w' => e = .returned (.bool (num f)) ∧ w = w' := by
  go_enter Try.func49, Try.ntmps49
  by_cases h : 0 ≤ f
  · by_cases g : f < 8
    · have e : num f = true := num_iff.2 ⟨h, g⟩
      go_wp2_with fail
      go_ret
      exact ⟨by first | rfl | (rw [e]; rfl), rfl⟩
    · have e : num f = false := by rw [Bool.eq_false_iff]; intro q; exact g (num_iff.1 q).2
      go_wp2_with fail
      go_ret
      exact ⟨by first | rfl | (rw [e]; rfl), rfl⟩
  · have e : num f = false := by rw [Bool.eq_false_iff]; intro q; exact h (num_iff.1 q).1
    go_wp2_with fail
    go_ret
    exact ⟨by first | rfl | (rw [e]; rfl), rfl⟩
theorem down_any (b : Nat) (m : Dm) (s : St) (w : World) (h : DiskAt w b m s) : Calls Try.prog 35 #[dp b] w fun e w' => e = .returned (.bool s.down) ∧ w = w' := by
  unfold dp
  have h1 := h.cn
  clear h
  go_enter Try.func35, Try.ntmps35
  go_wp2_with fail
  go_ret
  exact ⟨rfl, rfl⟩
theorem start_any (b : Nat) (m : Dm) (s : St) (w : World) (h : DiskAt w b m s) : Calls Try.prog 24 #[dp b] w fun e w' => e = .returned (.tuple #[]) ∧ DiskAt w' b m (DK.start s) ∧ Stp b m w m w' := by
  unfold dp
  have h1 := h.cn
  have h2 := h.fz 17
  have H := Lib.hid h
  clear h
  go_enter Try.func24, Try.ntmps24
  go_wp2_with fail
  go_end0
  exact ⟨rfl, H.out.setDown false, stp_store _ _ _⟩
theorem lose_any (b : Nat) (m : Dm) (s : St) (n : Int) (w : World) (h : DiskAt w b m s) : Calls Try.prog 59 #[dp b, .int .i64 n] w fun e w' => e = .returned (.tuple #[]) ∧ DiskAt w' b m (lose s n) ∧ Stp b m w m w' := by
  unfold dp
  have h1 := h.ct
  have h2 := h.fz 18
  have H := Lib.hid h
  clear h
  go_enter Try.func59, Try.ntmps59
  by_cases g : 0 < n
  · obtain ⟨k, rfl⟩ := Int.eq_ofNat_of_zero_le (Int.le_of_lt g)
    have g2 : 0 < k := by omega
    have e : (if (0 : Int) < (k : Int) then (k : Int) else 0) = ((k : Nat) : Int) := by split <;> omega
    go_wp2_with fail
    go_end0
    have := H.out.setLost k
    exact ⟨rfl, this, stp_store _ _ _⟩
  · have e : (if (0 : Int) < n then n else 0) = 0 := if_neg g
    go_wp2_with fail
    go_end0
    have := H.out.setLost 0
    exact ⟨rfl, by unfold lose; rw [show n.toNat = 0 by omega]; exact this, stp_store _ _ _⟩
theorem due_any (b : Nat) (m : Dm) (s : St) (w : World) (h : DiskAt w b m s) (ha : s.armed ≤ 9223372036854775807) : Calls Try.prog 39 #[dp b] w fun e w' => e = .returned (.bool (isDue s)) ∧ DiskAt w' b m (dueS s) ∧ Stp b m w m w' := by
  unfold dp
  have h1 := h.ca
  have h2 := h.fz 19
  have H := Lib.hid h
  clear h
  go_enter Try.func39, Try.ntmps39
  rcases Nat.eq_zero_or_pos s.armed with g | g
  · rw [g] at h1
    go_wp2_with fail
    go_ret
    exact ⟨by unfold isDue; rw [g]; rfl, by have := H.out; unfold dueS; rw [g]; rw [show ({ s with armed := 0 - 1 } : St) = s by rw [show (0 : Nat) - 1 = s.armed by omega]]; exact this, Stp.refl _ _ _⟩
  · obtain ⟨k, hk⟩ : ∃ k, s.armed = k + 1 := ⟨s.armed - 1, by omega⟩
    rw [hk] at h1
    have q1 : (((k + 1 : Nat) : Int) == 0) = false := by rw [beq_eq_false_iff_ne]; omega
    have q2 : ((k + 1 : Nat) : Int) - 1 = (k : Int) := by omega
    have q3 : IntKind.i64.wrap (k : Int) = (k : Int) := by simp [IntKind.wrap, IntKind.signed, IntKind.bits]; omega
    have q4 : ¬ ((k + 1 : Nat) : Int) = 0 := by omega
    go_wp2_with fail
    go_ret
    refine ⟨?_, ?_, stp_store _ _ _⟩
    · unfold isDue
      rw [hk]
      exact congrArg (fun x => Ending.returned (.bool x)) (show ((k : Int) == 0) = (k + 1 == 1) by rw [Bool.eq_iff_iff]; simp)
    · have := H.out.setArmed k
      unfold dueS
      rw [hk]
      exact this
theorem size_any (b : Nat) (m : Dm) (s : St) (f : Int) (w : World) (h : DiskAt w b m s) : Calls Try.prog 21 #[dp b, .int .i64 f] w fun e w' => e = .returned (.int .i64 (DK.size s f)) ∧ w = w' := by
  unfold dp
  have K := Lib.hid (number_any (.pointer (some ⟨b, 0, none⟩)) f w)
  cases g : num f
  · rw [g] at K
    go_enter Try.func21, Try.ntmps21
    go_wp2_with (go_at_call 49; (with_reducible refine K.out.mono ?_); rintro e w1 ⟨rfl, rfl⟩)
    go_ret
    exact ⟨by unfold DK.size; rw [g]; rfl, rfl⟩
  · have hf := num_lt g
    have g2 := num_iff.1 g
    obtain ⟨k, rfl⟩ := Int.eq_ofNat_of_zero_le g2.1
    have hk : k < 8 := by omega
    have g3 : (0 : Int) ≤ (k : Int) ∧ (k : Int) < 8 := ⟨g2.1, g2.2⟩
    have h1 := h.cd k hk
    rw [g] at K
    have ev : DK.size s (k : Int) = ((s.data k).length : Int) := by unfold DK.size; rw [g]; rfl
    clear h g hf
    go_enter Try.func21, Try.ntmps21
    go_wp2_with (go_at_call 49; (with_reducible refine K.out.mono ?_); rintro e w1 ⟨rfl, rfl⟩)
    go_ret
    exact ⟨by rw [ev]; rfl, rfl⟩
end Go.Proofs.Ytmnimcdbfolhaaa
