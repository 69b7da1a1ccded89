/- Walks of the sorts of bytes. -/
import Derived.Test.YtaemahhcacolgaaMem
import Derived.Test.YtaemahhcacolgaaLX4
import Derived.Test.YtaemahhcacolgaaRows
namespace Go.Proofs.Ytaemahhcacolgaa
open Go.RowKit LX
set_option linter.unusedSimpArgs false

theorem letter_any (c : Int) (w : World) : Calls Try.prog 35 #[.int .u8 c] w fun e w' => e = .returned (.bool (letterB c)) ∧ w = w' := by
  go_enter Try.func35, Try.ntmps35
  go_wp2_with fail
  all_goals (go_ret; refine ⟨ret_bool ?_, rfl⟩; ((try rw [Bool.eq_iff_iff]); (try simp only [letterB, digitB, nameB, strB, blankB, lineB, Bool.or_eq_true, Bool.and_eq_true, Bool.not_eq_true', decide_eq_true_eq, decide_eq_false_iff_not, true_iff, iff_true, false_iff, iff_false, bne_iff_ne, beq_iff_eq, ne_eq, Bool.false_eq_true, Bool.true_eq_false, reduceCtorEq, Bool.or_true, Bool.true_or, Bool.or_false, Bool.false_or, Bool.and_true, Bool.and_false, Bool.true_and, Bool.false_and] at *); try (first | omega | trivial | (simp_all; done))))
theorem digit_any (c : Int) (w : World) : Calls Try.prog 37 #[.int .u8 c] w fun e w' => e = .returned (.bool (digitB c)) ∧ w = w' := by
  go_enter Try.func37, Try.ntmps37
  go_wp2_with fail
  all_goals (go_ret; refine ⟨ret_bool ?_, rfl⟩; ((try rw [Bool.eq_iff_iff]); (try simp only [letterB, digitB, nameB, strB, blankB, lineB, Bool.or_eq_true, Bool.and_eq_true, Bool.not_eq_true', decide_eq_true_eq, decide_eq_false_iff_not, true_iff, iff_true, false_iff, iff_false, bne_iff_ne, beq_iff_eq, ne_eq, Bool.false_eq_true, Bool.true_eq_false, reduceCtorEq, Bool.or_true, Bool.true_or, Bool.or_false, Bool.false_or, Bool.and_true, Bool.and_false, Bool.true_and, Bool.false_and] at *); try (first | omega | trivial | (simp_all; done))))
theorem inName_any (c : Int) (w : World) : Calls Try.prog 36 #[.int .u8 c] w fun e w' => e = .returned (.bool (nameB c)) ∧ w = w' := by
  have K1 := Lib.hid (letter_any c w)
  have K2 := Lib.hid (digit_any c w)
  go_enter Try.func36, Try.ntmps36
  go_wp2_with (first | (go_at_call 35; ((with_reducible refine K1.out.mono ?_); rintro e1 w1 ⟨rfl, rfl⟩)) | (go_at_call 37; ((with_reducible refine K2.out.mono ?_); rintro e1 w1 ⟨rfl, rfl⟩)) | fail)
  all_goals (go_ret; refine ⟨ret_bool ?_, rfl⟩; ((try rw [Bool.eq_iff_iff]); (try simp only [letterB, digitB, nameB, strB, blankB, lineB, Bool.or_eq_true, Bool.and_eq_true, Bool.not_eq_true', decide_eq_true_eq, decide_eq_false_iff_not, true_iff, iff_true, false_iff, iff_false, bne_iff_ne, beq_iff_eq, ne_eq, Bool.false_eq_true, Bool.true_eq_false, reduceCtorEq, Bool.or_true, Bool.true_or, Bool.or_false, Bool.false_or, Bool.and_true, Bool.and_false, Bool.true_and, Bool.false_and] at *); try (first | omega | trivial | (simp_all; done))))
theorem inString_any (c : Int) (w : World) : Calls Try.prog 38 #[.int .u8 c] w fun e w' => e = .returned (.bool (strB c)) ∧ w = w' := by
  go_enter Try.func38, Try.ntmps38
  go_wp2_with fail
  all_goals (go_ret; refine ⟨ret_bool ?_, rfl⟩; ((try rw [Bool.eq_iff_iff]); (try simp only [letterB, digitB, nameB, strB, blankB, lineB, Bool.or_eq_true, Bool.and_eq_true, Bool.not_eq_true', decide_eq_true_eq, decide_eq_false_iff_not, true_iff, iff_true, false_iff, iff_false, bne_iff_ne, beq_iff_eq, ne_eq, Bool.false_eq_true, Bool.true_eq_false, reduceCtorEq, Bool.or_true, Bool.true_or, Bool.or_false, Bool.false_or, Bool.and_true, Bool.and_false, Bool.true_and, Bool.false_and] at *); try (first | omega | trivial | (simp_all; done))))
theorem line_any (c : Int) (w : World) : Calls Try.prog 34 #[.int .u8 c] w fun e w' => e = .returned (.bool (lineB c)) ∧ w = w' := by
  go_enter Try.func34, Try.ntmps34
  go_wp2_with fail
  all_goals (go_ret; refine ⟨ret_bool ?_, rfl⟩; ((try rw [Bool.eq_iff_iff]); (try simp only [letterB, digitB, nameB, strB, blankB, lineB, Bool.or_eq_true, Bool.and_eq_true, Bool.not_eq_true', decide_eq_true_eq, decide_eq_false_iff_not, true_iff, iff_true, false_iff, iff_false, bne_iff_ne, beq_iff_eq, ne_eq, Bool.false_eq_true, Bool.true_eq_false, reduceCtorEq, Bool.or_true, Bool.true_or, Bool.or_false, Bool.false_or, Bool.and_true, Bool.and_false, Bool.true_and, Bool.false_and] at *); try (first | omega | trivial | (simp_all; done))))
theorem rletter_any (c : Int) (w : World) : Calls Try.prog 24 #[.int .u8 c] w fun e w' => e = .returned (.bool (letterB c)) ∧ w = w' := by
  go_enter Try.func24, Try.ntmps24
  go_wp2_with fail
  all_goals (go_ret; refine ⟨ret_bool ?_, rfl⟩; ((try rw [Bool.eq_iff_iff]); (try simp only [letterB, digitB, nameB, strB, blankB, lineB, Bool.or_eq_true, Bool.and_eq_true, Bool.not_eq_true', decide_eq_true_eq, decide_eq_false_iff_not, true_iff, iff_true, false_iff, iff_false, bne_iff_ne, beq_iff_eq, ne_eq, Bool.false_eq_true, Bool.true_eq_false, reduceCtorEq, Bool.or_true, Bool.true_or, Bool.or_false, Bool.false_or, Bool.and_true, Bool.and_false, Bool.true_and, Bool.false_and] at *); try (first | omega | trivial | (simp_all; done))))
theorem rdigit_any (c : Int) (w : World) : Calls Try.prog 26 #[.int .u8 c] w fun e w' => e = .returned (.bool (digitB c)) ∧ w = w' := by
  go_enter Try.func26, Try.ntmps26
  go_wp2_with fail
  all_goals (go_ret; refine ⟨ret_bool ?_, rfl⟩; ((try rw [Bool.eq_iff_iff]); (try simp only [letterB, digitB, nameB, strB, blankB, lineB, Bool.or_eq_true, Bool.and_eq_true, Bool.not_eq_true', decide_eq_true_eq, decide_eq_false_iff_not, true_iff, iff_true, false_iff, iff_false, bne_iff_ne, beq_iff_eq, ne_eq, Bool.false_eq_true, Bool.true_eq_false, reduceCtorEq, Bool.or_true, Bool.true_or, Bool.or_false, Bool.false_or, Bool.and_true, Bool.and_false, Bool.true_and, Bool.false_and] at *); try (first | omega | trivial | (simp_all; done))))
theorem blank_any (c : Int) (w : World) : Calls Try.prog 23 #[.int .u8 c] w fun e w' => e = .returned (.bool (blankB c)) ∧ w = w' := by
  go_enter Try.func23, Try.ntmps23
  go_wp2_with fail
  all_goals (go_ret; refine ⟨ret_bool ?_, rfl⟩; ((try rw [Bool.eq_iff_iff]); (try simp only [letterB, digitB, nameB, strB, blankB, lineB, Bool.or_eq_true, Bool.and_eq_true, Bool.not_eq_true', decide_eq_true_eq, decide_eq_false_iff_not, true_iff, iff_true, false_iff, iff_false, bne_iff_ne, beq_iff_eq, ne_eq, Bool.false_eq_true, Bool.true_eq_false, reduceCtorEq, Bool.or_true, Bool.true_or, Bool.or_false, Bool.false_or, Bool.and_true, Bool.and_false, Bool.true_and, Bool.false_and] at *); try (first | omega | trivial | (simp_all; done))))
end Go.Proofs.Ytaemahhcacolgaa
