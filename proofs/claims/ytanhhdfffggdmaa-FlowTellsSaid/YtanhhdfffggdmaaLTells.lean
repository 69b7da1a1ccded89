/- The walk of FlowTells. -/
import Derived.Test.YtanhhdfffggdmaaY7
import Derived.Test.YtanhhdfffggdmaaLProves
namespace Go.Proofs.Ytanhhdfffggdmaa
open Go.RowKit FM

theorem sameB_self (l : List Int) : sameB l l = true := by unfold sameB; exact decide_eq_true rfl
theorem tells_few (n s t : Int) (C : Option Addr) (cc : Nat) (A : List Arc) (FA : Option Addr) (fc : Nat) (l : List Int) (SA : Option Addr) (sc : Nat) (side : List Int) (w : World) (hlA : A.length ≤ 9223372036854775807) (hf : fewB n A = false) :
    Calls Try.prog 3 #[.int .i64 n, .slice C A.length cc, .int .i64 s, .int .i64 t, .slice FA l.length fc, .slice SA side.length sc] w (SmallSaid w) := by
  have Hf := Lib.hid hf
  have Hl := Lib.hid hlA
  clear hf hlA
  go_enter Try.func3, Try.ntmps3
  go_wp2_with (go_at_call 8; refine (small_any _).mono ?_; rintro e0 w0 ⟨rfl, hb0⟩)
  have K2 := Lib.hid (few_any n C cc A w0 Hl.out)
  rw [Hf.out] at K2
  go_wp2_with (go_at_call 9; refine K2.out.mono ?_; rintro e2 w2 ⟨rfl, rfl⟩)
  go_ret
  exact ⟨rfl, hb0⟩
theorem tells_long (n s t : Int) (C : Option Addr) (cc : Nat) (A : List Arc) (FA : Option Addr) (fc : Nat) (l : List Int) (SA : Option Addr) (sc : Nat) (side : List Int) (w : World) (hlA : A.length ≤ 9223372036854775807) (hf : fewB n A = true) (hl : 100 < l.length) :
    Calls Try.prog 3 #[.int .i64 n, .slice C A.length cc, .int .i64 s, .int .i64 t, .slice FA l.length fc, .slice SA side.length sc] w (SmallSaid w) := by
  have Hf := Lib.hid hf
  have Hl := Lib.hid hlA
  have e1 : (100 : Int) < (l.length : Int) := by omega
  have e2 : decide (100 < (l.length : Int)) = true := by simp; omega
  have e3 : decide (100 < l.length) = true := by simp; omega
  clear hf hlA
  go_enter Try.func3, Try.ntmps3
  go_wp2_with (go_at_call 8; refine (small_any _).mono ?_; rintro e0 w0 ⟨rfl, hb0⟩)
  have K2 := Lib.hid (few_any n C cc A w0 Hl.out)
  rw [Hf.out] at K2
  go_wp2_with (go_at_call 9; refine K2.out.mono ?_; rintro e2 w2 ⟨rfl, rfl⟩)
  go_ret
  exact ⟨rfl, hb0⟩
theorem tells_wide (n s t : Int) (C : Option Addr) (cc : Nat) (A : List Arc) (FA : Option Addr) (fc : Nat) (l : List Int) (SA : Option Addr) (sc : Nat) (side : List Int) (w : World) (hlA : A.length ≤ 9223372036854775807) (hf : fewB n A = true) (hl : l.length ≤ 100) (hl2 : 100 < side.length) :
    Calls Try.prog 3 #[.int .i64 n, .slice C A.length cc, .int .i64 s, .int .i64 t, .slice FA l.length fc, .slice SA side.length sc] w (SmallSaid w) := by
  have Hf := Lib.hid hf
  have Hl := Lib.hid hlA
  have d1 : ¬ (100 : Int) < (l.length : Int) := by omega
  have d2 : decide (100 < (l.length : Int)) = false := by simp; omega
  have d3 : decide (100 < l.length) = false := by simp; omega
  have e1 : (100 : Int) < (side.length : Int) := by omega
  have e2 : decide (100 < (side.length : Int)) = true := by simp; omega
  have e3 : decide (100 < side.length) = true := by simp; omega
  clear hf hlA
  go_enter Try.func3, Try.ntmps3
  go_wp2_with (go_at_call 8; refine (small_any _).mono ?_; rintro e0 w0 ⟨rfl, hb0⟩)
  have K2 := Lib.hid (few_any n C cc A w0 Hl.out)
  rw [Hf.out] at K2
  go_wp2_with (go_at_call 9; refine K2.out.mono ?_; rintro e2 w2 ⟨rfl, rfl⟩)
  go_ret
  exact ⟨rfl, hb0⟩

set_option maxHeartbeats 1000000 in
theorem tells_inv (n s t : Int) (C : Option Addr) (cc : Nat) (A : List Arc) (FA : Option Addr) (fc : Nat) (l : List Int) (SA : Option Addr) (sc : Nat) (side : List Int) (w : World) (hC : ArcsAt w w.heap.size C A) (hF : IntsAt w w.heap.size FA l) (hS : IntsAt w w.heap.size SA side) (hlA : A.length ≤ 9223372036854775807) (hf : fewB n A = true) (hl1 : l.length ≤ 100) (hl2 : side.length ≤ 100) (hV : ¬ Valid n A s t) :
    Calls Try.prog 3 #[.int .i64 n, .slice C A.length cc, .int .i64 s, .int .i64 t, .slice FA l.length fc, .slice SA side.length sc] w (SmallSaid w) := by
  have Hf := Lib.hid hf
  have Hl := Lib.hid hlA
  have Hv := Lib.hid (validB_false hV)
  have d1 : ¬ (100 : Int) < (l.length : Int) := by omega
  have d2 : decide (100 < (l.length : Int)) = false := by simp; omega
  have d3 : decide (100 < l.length) = false := by simp; omega
  have e1 : ¬ (100 : Int) < (side.length : Int) := by omega
  have e2 : decide (100 < (side.length : Int)) = false := by simp; omega
  have e3 : decide (100 < side.length) = false := by simp; omega
  clear hf hlA hV
  go_enter Try.func3, Try.ntmps3
  go_wp2_with (go_at_call 8; refine (small_any _).mono ?_; rintro e0 w0 ⟨rfl, hb0⟩)
  have hC0 := hC.step hb0
  have K2 := Lib.hid (few_any n C cc A w0 Hl.out)
  rw [Hf.out] at K2
  have K3 := Lib.hid (max_no n s t C cc A w0 hC0 Hl.out Hv.out)
  go_wp2_with (first | (go_at_call 9; refine K2.out.mono ?_; rintro e2 w2 ⟨rfl, rfl⟩) | (go_at_call 10; refine K3.out.mono ?_; rintro e3 w3 ⟨rfl, hb3⟩) | fail)
  have hC3 := hC0.step hb3
  have K4 := Lib.hid (rmax_no n s t C cc A w3 hC3 Hl.out Hv.out)
  go_wp2_with (go_at_call 11; refine K4.out.mono ?_; rintro e4 w4 ⟨rfl, hb4⟩)
  have hC4 := hC3.step hb4
  have K5 := Lib.hid (route_no n s t C cc A w4 hC4 Hl.out Hv.out)
  go_wp2_with (go_at_call 12; refine K5.out.mono ?_; rintro e5 w5 ⟨rfl, hb5⟩)
  have hC5 := hC4.step hb5
  have hb05 : Below w.heap.size w w5 := ((hb0.trans (hb3.mono hb0.size)).trans (hb4.mono (Nat.le_trans hb0.size hb3.size))).trans (hb5.mono (Nat.le_trans (Nat.le_trans hb0.size hb3.size) hb4.size))
  have K6 : Hid (Calls Try.prog 13 #[.slice none 0 0, .slice none 0 0] w5 (SameSaid [] [] w5)) := same_any none none 0 0 [] [] w5 (B := 0) (B' := 0) (fun h => absurd h (by decide)) (fun h => absurd h (by decide)) (by decide) (by decide)
  go_wp2_with (go_at_call 13; ((with_reducible refine K6.out.mono ?_); rintro e6 w6 ⟨rfl, hb6⟩; rw [sameB_self]))
  have hC6 := hC5.step hb6
  have hb06 := hb05.trans (hb6.mono hb05.size)
  obtain ⟨q, hq⟩ : ∃ q, q = checkB n A s t l side := ⟨_, rfl⟩
  have k7 := check_any n s t C cc A FA fc l SA sc side w6 hC6 (ints_step hF hb06) (ints_step hS hb06) Hl.out (by omega) (by omega)
  unfold CheckSaid at k7
  rw [← hq] at k7
  have K7 := Lib.hid k7
  have Hq := Lib.hid hq
  clear k7 hq
  go_wp2_with (go_at_call 14; ((with_reducible refine K7.out.mono ?_); rintro e7 w7 ⟨rfl, hb7⟩))
  have hb07 := hb06.trans (hb7.mono hb06.size)
  have k8 := rcheck_any n s t C cc A FA fc l SA sc side w7 (hC6.step hb7) (ints_step hF hb07) (ints_step hS hb07) Hl.out (by omega) (by omega)
  unfold CheckSaid at k8
  rw [← Hq.out] at k8
  have K8 := Lib.hid k8
  clear k8
  cases q
  all_goals
    go_wp2_with (go_at_call 15; ((with_reducible refine K8.out.mono ?_); rintro e8 w8 ⟨rfl, hb8⟩))
    go_ret
    exact ⟨rfl, hb07.trans (hb8.mono hb07.size)⟩

set_option maxHeartbeats 1000000 in
theorem tells_yes (n s t : Nat) (C : Option Addr) (cc : Nat) (A : List Arc) (FA : Option Addr) (fc : Nat) (l : List Int) (SA : Option Addr) (sc : Nat) (side : List Int) (w : World) (hC : ArcsAt w w.heap.size C A) (hF : IntsAt w w.heap.size FA l) (hS : IntsAt w w.heap.size SA side) (hf : fewB n A = true) (hl1 : l.length ≤ 100) (hl2 : side.length ≤ 100) (hV : Valid n A s t) :
    Calls Try.prog 3 #[.int .i64 n, .slice C A.length cc, .int .i64 s, .int .i64 t, .slice FA l.length fc, .slice SA side.length sc] w (SmallSaid w) := by
  have Hf := Lib.hid hf
  have HV := Lib.hid hV
  obtain ⟨v1, v2, v3, _, v4, v5, v6, v7, v8⟩ := id hV
  obtain ⟨hA, hcap⟩ := valid_facts hV
  have d1 : ¬ (100 : Int) < (l.length : Int) := by omega
  have d2 : decide (100 < (l.length : Int)) = false := by simp; omega
  have d3 : decide (100 < l.length) = false := by simp; omega
  have e1 : ¬ (100 : Int) < (side.length : Int) := by omega
  have e2 : decide (100 < (side.length : Int)) = false := by simp; omega
  have e3 : decide (100 < side.length) = false := by simp; omega
  clear hf hV
  go_enter Try.func3, Try.ntmps3
  go_wp2_with (go_at_call 8; refine (small_any _).mono ?_; rintro e0 w0 ⟨rfl, hb0⟩)
  have hC0 := hC.step hb0
  have K2 := Lib.hid (few_any n C cc A w0 (by omega))
  rw [Hf.out] at K2
  have K3 := Lib.hid (max_yes n s t C cc A w0 hC0 HV.out)
  go_wp2_with (first | (go_at_call 9; refine K2.out.mono ?_; rintro e2 w2 ⟨rfl, rfl⟩) | (go_at_call 10; refine K3.out.mono ?_; rintro e3 w3 ⟨f1, v, R, vs1, rfl, hm1, g0, g1, hs1, hb3⟩; obtain ⟨ao1, c1, rfl, hi1⟩ := hs1) | fail)
  have hC3 := hC0.step hb3
  have K4 := Lib.hid (rmax_yes n s t C cc A w3 hC3 HV.out)
  go_wp2_with (go_at_call 11; refine K4.out.mono ?_; rintro e4 w4 ⟨f2, v', R', vs2, rfl, hm2, _, _, hs2, hb4⟩; obtain ⟨rfl, rfl⟩ := hm1.same hA v4 v5 hm2; obtain ⟨ao2, c2, rfl, hi2⟩ := hs2)
  have hC4 := hC3.step hb4
  have K5 := Lib.hid (route_yes n s t C cc A w4 hC4 HV.out)
  go_wp2_with (go_at_call 12; refine K5.out.mono ?_; rintro e5 w5 ⟨f3, v', R', vs3, rfl, hm3, _, _, hs3, hb5⟩; obtain ⟨ao3, c3, rfl, hi3⟩ := hs3)
  have hC5 := hC4.step hb5
  have hb05 : Below w.heap.size w w5 := ((hb0.trans (hb3.mono hb0.size)).trans (hb4.mono (Nat.le_trans hb0.size hb3.size))).trans (hb5.mono (Nat.le_trans (Nat.le_trans hb0.size hb3.size) hb4.size))
  have hln := sideL_len n R
  have K6 := Lib.hid (same_any ao1 ao2 c1 c2 (sideL n R) (sideL n R) w5 (ints_step (ints_step hi1 hb4) hb5) (ints_step hi2 hb5) (by omega) (by omega))
  have hbv : (v == v) = true := by simp
  go_wp2_with (go_at_call 13; ((with_reducible refine K6.out.mono ?_); rintro e6 w6 ⟨rfl, hb6⟩; rw [sameB_self]))
  have hC6 := hC5.step hb6
  have hb06 := hb05.trans (hb6.mono hb05.size)
  obtain ⟨q, hq⟩ : ∃ q, q = checkB n A s t l side := ⟨_, rfl⟩
  have k7 := check_any n s t C cc A FA fc l SA sc side w6 hC6 (ints_step hF hb06) (ints_step hS hb06) (by omega) (by omega) (by omega)
  unfold CheckSaid at k7
  rw [← hq] at k7
  have K7 := Lib.hid k7
  have Hq := Lib.hid hq
  clear k7 hq
  go_wp2_with (go_at_call 14; ((with_reducible refine K7.out.mono ?_); rintro e7 w7 ⟨rfl, hb7⟩))
  have hb07 := hb06.trans (hb7.mono hb06.size)
  have k8 := rcheck_any n s t C cc A FA fc l SA sc side w7 (hC6.step hb7) (ints_step hF hb07) (ints_step hS hb07) (by omega) (by omega) (by omega)
  unfold CheckSaid at k8
  rw [← Hq.out] at k8
  have K8 := Lib.hid k8
  clear k8
  cases q
  all_goals
    go_wp2_with (go_at_call 15; ((with_reducible refine K8.out.mono ?_); rintro e8 w8 ⟨rfl, hb8⟩))
    go_ret
    exact ⟨rfl, hb07.trans (hb8.mono hb07.size)⟩
theorem tells_any (n s t : Int) (C : Option Addr) (cc : Nat) (A : List Arc) (FA : Option Addr) (fc : Nat) (l : List Int) (SA : Option Addr) (sc : Nat) (side : List Int) (w : World) (hC : ArcsAt w w.heap.size C A) (hlA : A.length ≤ 9223372036854775807) (hF : IntsAt w w.heap.size FA l) (hl1 : l.length ≤ 9223372036854775807) (hS : IntsAt w w.heap.size SA side) (hl2 : side.length ≤ 9223372036854775807) :
    Calls Try.prog 3 #[.int .i64 n, .slice C A.length cc, .int .i64 s, .int .i64 t, .slice FA l.length fc, .slice SA side.length sc] w (SmallSaid w) := by
  cases hf : fewB n A
  · exact tells_few n s t C cc A FA fc l SA sc side w hlA hf
  by_cases h1 : l.length ≤ 100
  case neg => exact tells_long n s t C cc A FA fc l SA sc side w hlA hf (by omega)
  by_cases h2 : side.length ≤ 100
  case neg => exact tells_wide n s t C cc A FA fc l SA sc side w hlA hf h1 (by omega)
  by_cases hV : Valid n A s t
  · obtain ⟨n, rfl⟩ := Int.eq_ofNat_of_zero_le (show 0 ≤ n by have := hV.1; omega)
    obtain ⟨s, rfl⟩ := Int.eq_ofNat_of_zero_le hV.2.2.2.2.1
    obtain ⟨t, rfl⟩ := Int.eq_ofNat_of_zero_le hV.2.2.2.2.2.2.1
    exact tells_yes n s t C cc A FA fc l SA sc side w hC hF hS hf h1 h2 hV
  · exact tells_inv n s t C cc A FA fc l SA sc side w hC hF hS hlA hf h1 h2 hV
end Go.Proofs.Ytanhhdfffggdmaa
