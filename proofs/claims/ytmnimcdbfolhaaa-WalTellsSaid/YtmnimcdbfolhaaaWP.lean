/- Plain laws of a log: Open on a disk that is up; the rows of a text and of its front. -/
import Derived.Test.YtmnimcdbfolhaaaX1
import Derived.Test.YtmnimcdbfolhaaaLP1
set_option linter.unusedSimpArgs false
set_option linter.unusedVariables false
namespace Go.Proofs.Ytmnimcdbfolhaaa
namespace DK
section
variable {s : St}
theorem cut_up (h : Up s) {f n : Nat} (hf : f < 8) (hn : n ≤ (s.data f).length) : cut s (f : Int) (n : Int) = (0, cutS s f n) := by
  have hm : num (f : Int) = true := num_iff.2 ⟨by omega, by omega⟩
  unfold cut
  rw [if_neg (by rw [h.down]; exact Bool.false_ne_true), if_neg (by rw [isDue_0 h.armed]; exact Bool.false_ne_true), dueS_0 h.armed, if_pos ⟨hm, by omega, by rw [Int.toNat_natCast]; omega⟩, Int.toNat_natCast, Int.toNat_natCast]
theorem Up.cutS (h : Up s) (f n : Nat) : Up (cutS s f n) := ⟨h.down, h.armed, h.lost⟩
theorem Up.flushS (h : Up s) (f : Nat) : Up (flushS s f) := ⟨h.down, h.armed, h.lost⟩
noncomputable def opn1 (s : St) (f : Nat) : St := if (recs (rowsOf (s.data f))).length < (s.data f).length then cutS s f (recs (rowsOf (s.data f))).length else s
def opn2 (s : St) (f : Nat) : St := if 0 < (s.data (f + 1)).length then cutS s (f + 1) 0 else s
noncomputable def opnS (s : St) (f : Nat) : St := flushS (opn2 (opn1 s f) f) f
theorem opn1_up (h : Up s) (f : Nat) : Up (opn1 s f) := by unfold opn1; split; exact h.cutS _ _; exact h
theorem opn2_up (h : Up s) (f : Nat) : Up (opn2 s f) := by unfold opn2; split; exact h.cutS _ _; exact h
theorem opnS_up (h : Up s) (f : Nat) : Up (opnS s f) := (opn2_up (opn1_up h f) f).flushS f
theorem open_up (h : Up s) {f : Nat} (hf : f ≤ 6) : openS s (f : Int) = (0, opnS s f) := by
  have h1 : open1 s (f : Int) = (0, opn1 s f) := by
    unfold open1 opn1
    rw [Int.toNat_natCast]
    split
    · exact cut_up h (by omega) (by omega)
    · rfl
  have h2 : ∀ s, Up s → open2 s (f : Int) = (0, opn2 s f) := fun s h => by
    unfold open2 opn2
    have e : DK.size s ((f : Int) + 1) = ((s.data (f + 1)).length : Int) := size_num (f := f + 1) (by omega)
    rw [e]
    by_cases q : 0 < (s.data (f + 1)).length
    · rw [if_pos (by omega), if_pos q]
      exact cut_up h (f := f + 1) (n := 0) (by omega) (Nat.zero_le _)
    · rw [if_neg (by omega), if_neg q]
  exact open_3 (by omega) h.down h1 (h2 _ (opn1_up h f)) (flush_up (opn2_up (opn1_up h f) f) (by omega))
theorem recs_take_rows (x : Bts) : x.take (recs (rowsOf x)).length = recs (rowsOf x) := by
  obtain ⟨t, e, _⟩ := (rowsOf_is x).cut
  conv => lhs; arg 2; rw [e]
  rw [List.take_left]
theorem opn1_data (s : St) (f : Nat) : (opn1 s f).data f = recs (rowsOf (s.data f)) := by
  unfold opn1
  split
  · show upd _ _ _ _ = _; rw [upd_same, recs_take_rows]
  · rename_i h
    have := (rowsOf_is (s.data f)).le
    have e := recs_take_rows (s.data f)
    rw [List.take_of_length_le (by omega)] at e; exact e
theorem opn1_other (s : St) {f g : Nat} (h : g ≠ f) : (opn1 s f).data g = s.data g ∧ (opn1 s f).dur g = s.dur g := by
  unfold opn1
  split
  · exact ⟨upd_other _ _ h, upd_other _ _ h⟩
  · exact ⟨rfl, rfl⟩
theorem opn2_data (s : St) (f : Nat) : (opn2 s f).data (f + 1) = [] := by
  unfold opn2
  split
  · show upd _ _ _ _ = _; rw [upd_same]; rfl
  · rename_i h; exact List.eq_nil_of_length_eq_zero (by omega)
theorem opn2_other (s : St) {f g : Nat} (h : g ≠ f + 1) : (opn2 s f).data g = s.data g ∧ (opn2 s f).dur g = s.dur g := by
  unfold opn2
  split
  · exact ⟨upd_other _ _ h, upd_other _ _ h⟩
  · exact ⟨rfl, rfl⟩
theorem opnS_data (s : St) (f : Nat) : (opnS s f).data f = recs (rowsOf (s.data f)) := by
  show (opn2 (opn1 s f) f).data f = _
  rw [(opn2_other _ (by omega)).1, opn1_data]
theorem opnS_next (s : St) (f : Nat) : (opnS s f).data (f + 1) = [] := opn2_data _ _
theorem opnS_other (s : St) {f g : Nat} (h : g ≠ f) (h2 : g ≠ f + 1) : (opnS s f).data g = s.data g := by
  show (opn2 (opn1 s f) f).data g = _
  rw [(opn2_other _ h2).1, (opn1_other s h).1]
theorem opnS_dur (s : St) (f : Nat) : (opnS s f).dur f = ((opnS s f).data f).length := by
  show upd _ _ _ _ = _; rw [upd_same]; rfl
end
theorem rows_app {l : List Bts} (hl : ∀ x ∈ l, x.length ≤ 1048576) (u : Bts) : rowsOf (recs l ++ u) = l ++ rowsOf u := by
  obtain ⟨t, e, ht⟩ := (rowsOf_is u).cut
  refine rowsOf_eq ⟨fun x hx => ?_, t, ?_, ht⟩
  · rcases List.mem_append.1 hx with hx | hx
    · exact hl x hx
    · exact (rowsOf_is u).len x hx
  · rw [recs_app, List.append_assoc, ← e]
theorem rowsOf_recs {l : List Bts} (hl : ∀ x ∈ l, x.length ≤ 1048576) : rowsOf (recs l) = l := rowsOf_eq (rows_recs hl)
theorem rows_mono (s u : Bts) : ∃ t, rowsOf (s ++ u) = rowsOf s ++ t := by
  obtain ⟨t, e, _⟩ := (rowsOf_is s).cut
  refine ⟨rowsOf (t ++ u), ?_⟩
  conv => lhs; rw [e]
  rw [List.append_assoc, rows_app (rowsOf_is s).len]
theorem rows_front (s : Bts) (n : Nat) : ∃ t, rowsOf s = rowsOf (s.take n) ++ t := by
  have := rows_mono (s.take n) (s.drop n)
  rwa [List.take_append_drop] at this
theorem rows_len (x : Bts) : (rowsOf x).length ≤ x.length := by
  have h1 := recs_many (rowsOf x)
  have h2 := (rowsOf_is x).le
  omega
end DK
end Go.Proofs.Ytmnimcdbfolhaaa
