/- The walk of FlowProves. -/
import Derived.Test.YtanhhdfffggdmaaLMath
namespace Go.Proofs.Ytanhhdfffggdmaa
open Go.RowKit FM

theorem proves_inv (n s t : Int) (C : Option Addr) (cc : Nat) (A : List Arc) (FA : Option Addr) (fc : Nat) (l : List Int) (SA : Option Addr) (sc : Nat) (side : List Int) (w : World) (hC : ArcsAt w w.heap.size C A) (hlA : A.length ≤ 9223372036854775807) (hV : ¬ Valid n A s t) :
    Calls Try.prog 4 #[.int .i64 n, .slice C A.length cc, .int .i64 s, .int .i64 t, .slice FA l.length fc, .slice SA side.length sc] w (SmallSaid w) := by
  have Hl := Lib.hid hlA
  have Hv := Lib.hid (validB_false hV)
  clear hV hlA
  go_enter Try.func4, Try.ntmps4
  go_wp2_with (go_at_call 8; refine (small_any _).mono ?_; rintro e0 w0 ⟨rfl, hb0⟩)
  have K1 := Lib.hid (max_no n s t C cc A w0 (hC.step hb0) Hl.out Hv.out)
  go_wp2_with (go_at_call 10; refine K1.out.mono ?_; rintro e1 w1 ⟨rfl, hb1⟩)
  have K2 := Lib.hid (few_any n C cc A w1 Hl.out)
  obtain ⟨q, hq⟩ : ∃ q, q = fewB n A := ⟨_, rfl⟩
  rw [← hq] at K2
  clear hq
  cases q
  all_goals
    go_wp2_with (go_at_call 9; refine K2.out.mono ?_; rintro e2 w2 ⟨rfl, rfl⟩)
    go_ret
    exact ⟨rfl, hb0.trans (hb1.mono hb0.size)⟩
theorem proves_big (n s t : Nat) (C : Option Addr) (cc : Nat) (A : List Arc) (FA : Option Addr) (fc : Nat) (l : List Int) (SA : Option Addr) (sc : Nat) (side : List Int) (w : World) (hC : ArcsAt w w.heap.size C A) (hV : Valid n A s t) (hf : fewB n A = false) :
    Calls Try.prog 4 #[.int .i64 n, .slice C A.length cc, .int .i64 s, .int .i64 t, .slice FA l.length fc, .slice SA side.length sc] w (SmallSaid w) := by
  have HV := Lib.hid hV
  have Hf := Lib.hid hf
  clear hV hf
  go_enter Try.func4, Try.ntmps4
  go_wp2_with (go_at_call 8; refine (small_any _).mono ?_; rintro e0 w0 ⟨rfl, hb0⟩)
  have K1 := Lib.hid (max_yes n s t C cc A w0 (hC.step hb0) HV.out)
  go_wp2_with (go_at_call 10; refine K1.out.mono ?_; rintro e1 w1 ⟨f1, v1, R1, vs1, rfl, hm1, g0, g1, hs1, hb1⟩)
  have K2 := Lib.hid (few_any n C cc A w1 (by have := HV.out.2.2.1; omega))
  rw [Hf.out] at K2
  go_wp2_with (go_at_call 9; refine K2.out.mono ?_; rintro e2 w2 ⟨rfl, rfl⟩)
  go_ret
  exact ⟨rfl, hb0.trans (hb1.mono hb0.size)⟩

set_option maxHeartbeats 1000000 in
theorem proves_main (n s t : Nat) (C : Option Addr) (cc : Nat) (A : List Arc) (FA : Option Addr) (fc : Nat) (l : List Int) (SA : Option Addr) (sc : Nat) (side : List Int) (w : World) (hC : ArcsAt w w.heap.size C A) (hF : IntsAt w w.heap.size FA l) (hS : IntsAt w w.heap.size SA side) (hl1 : l.length ≤ 9223372036854775807) (hl2 : side.length ≤ 9223372036854775807) (hV : Valid n A s t) (hf : fewB n A = true) :
    Calls Try.prog 4 #[.int .i64 n, .slice C A.length cc, .int .i64 s, .int .i64 t, .slice FA l.length fc, .slice SA side.length sc] w (SmallSaid w) := by
  have hcap2 : ∀ a ∈ A, a.2.2 ≤ 1125899906842624 := fun a ha => ((valid_facts hV).2 a ha).2
  have HV := Lib.hid hV
  have Hf := Lib.hid hf
  obtain ⟨v1, v2, v3, _, v4, v5, v6, v7, v8⟩ := id hV
  obtain ⟨hA, hcap⟩ := valid_facts hV
  clear hV hf
  go_enter Try.func4, Try.ntmps4
  go_wp2_with (go_at_call 8; refine (small_any _).mono ?_; rintro e0 w0 ⟨rfl, hb0⟩)
  have hC0 := hC.step hb0
  have K1 := Lib.hid (max_yes n s t C cc A w0 hC0 HV.out)
  go_wp2_with (go_at_call 10; refine K1.out.mono ?_; rintro e1 w1 ⟨f1, v, R, vs1, rfl, hm1, g0, g1, hs1, hb1⟩; obtain ⟨ao1, c1, rfl, hi1⟩ := hs1)
  have hC1 := hC0.step hb1
  have K2 := Lib.hid (few_any n C cc A w1 (by omega))
  rw [Hf.out] at K2
  have hbw1 : Below w.heap.size w w1 := hb0.trans (hb1.mono hb0.size)
  have hln := sideL_len n R
  have K3 := Lib.hid (route_yes n s t C cc A w1 hC1 HV.out)
  go_wp2_with (first | (go_at_call 9; refine K2.out.mono ?_; rintro e2 w2 ⟨rfl, rfl⟩) | (go_at_call 12; refine K3.out.mono ?_; rintro e3 w2 ⟨f2, u, R2, vs2, rfl, hm2, _, _, hs2, hb2⟩; obtain ⟨rfl, rfl⟩ := hm1.same hA v4 v5 hm2; obtain ⟨ao2, c2, rfl, hi2⟩ := hs2) | fail)
  have hl3 : f2.length = A.length := feas_len hm2.feas
  have hC2 := hC1.step hb2
  have hi12 := ints_step hi1 hb2
  have hmc := max_check HV.out hm2
  have K4 := Lib.hid (check_any n s t C cc A ao2 c2 f2 ao1 c1 (sideL n R) w2 hC2 hi2 hi12 (by omega) (by omega) (by omega))
  have Hmc := Lib.hid (And.intro (checkB_true hmc.1) hmc.2)
  clear hmc hl3
  go_wp2_with (go_at_call 14; refine K4.out.mono ?_; rintro e4 w3 ⟨rfl, hb3⟩; rw [Hmc.out.1])
  have hC3 := hC2.step hb3
  have hi13 := ints_step hi12 hb3
  have hi23 := ints_step hi2 hb3
  have k5 := value_any C cc A ao2 c2 f2 s w3 hC3 hi23 v3 hcap2 hm2.feas
  rw [hm2.value] at k5
  have k6 := cut_any C cc A ao1 c1 (sideL n R) w3 hC3 hi13 (by omega) v3 hcap
  rw [Hmc.out.2] at k6
  have K5 := Lib.hid (And.intro k5 k6)
  have hbw3 : Below w.heap.size w w3 := (hbw1.trans (hb2.mono hbw1.size)).trans (hb3.mono (Nat.le_trans hbw1.size hb2.size))
  have K7 := Lib.hid (check_any n s t C cc A FA fc l SA sc side w3 hC3 (ints_step hF hbw3) (ints_step hS hbw3) (by omega) hl1 hl2)
  clear k5 k6
  go_wp2_with (first | (go_at_call 16; refine K5.out.1.mono ?_; rintro e5 w4 ⟨rfl, rfl⟩) | (go_at_call 17; refine K5.out.2.mono ?_; rintro e5 w4 ⟨rfl, rfl⟩) | fail)
  obtain ⟨q, hq⟩ : ∃ q, q = checkB n A s t l side := ⟨_, rfl⟩
  have Hq := Lib.hid hq
  clear hq
  cases q
  · go_wp2_with (go_at_call 14; refine K7.out.mono ?_; rintro e6 w4 ⟨rfl, hb4⟩; rw [← Hq.out])
    go_ret
    exact ⟨rfl, hbw3.trans (hb4.mono hbw3.size)⟩
  · have hok := checkB_of Hq.out.symm
    have hex := ok_extreme hm2 hok
    have Hok := Lib.hid (And.intro hok hex)
    clear hok hex
    go_wp2_with (go_at_call 14; refine K7.out.mono ?_; rintro e6 w4 ⟨rfl, hb4⟩; rw [← Hq.out])
    have k8 := value_any C cc A FA fc l s w4 (hC3.step hb4) (ints_step (ints_step hF hbw3) hb4) v3 hcap2 Hok.out.1.2.2.2.1
    rw [Hok.out.2.1] at k8
    have k9 := cut_any C cc A SA sc side w4 (hC3.step hb4) (ints_step (ints_step hS hbw3) hb4) hl2 v3 hcap
    rw [Hok.out.2.2] at k9
    have K8 := Lib.hid (And.intro k8 k9)
    clear k8 k9
    go_wp2_with (first | (go_at_call 16; refine K8.out.1.mono ?_; rintro e5 w5 ⟨rfl, rfl⟩) | (go_at_call 17; refine K8.out.2.mono ?_; rintro e5 w5 ⟨rfl, rfl⟩) | fail)
    go_ret
    exact ⟨rfl, hbw3.trans (hb4.mono hbw3.size)⟩
theorem proves_any (n s t : Int) (C : Option Addr) (cc : Nat) (A : List Arc) (FA : Option Addr) (fc : Nat) (l : List Int) (SA : Option Addr) (sc : Nat) (side : List Int) (w : World) (hC : ArcsAt w w.heap.size C A) (hlA : A.length ≤ 9223372036854775807) (hF : IntsAt w w.heap.size FA l) (hl1 : l.length ≤ 9223372036854775807) (hS : IntsAt w w.heap.size SA side) (hl2 : side.length ≤ 9223372036854775807) :
    Calls Try.prog 4 #[.int .i64 n, .slice C A.length cc, .int .i64 s, .int .i64 t, .slice FA l.length fc, .slice SA side.length sc] w (SmallSaid w) := by
  by_cases hV : Valid n A s t
  · obtain ⟨n, rfl⟩ := Int.eq_ofNat_of_zero_le (show 0 ≤ n by have := hV.1; omega)
    obtain ⟨s, rfl⟩ := Int.eq_ofNat_of_zero_le hV.2.2.2.2.1
    obtain ⟨t, rfl⟩ := Int.eq_ofNat_of_zero_le hV.2.2.2.2.2.2.1
    cases hf : fewB n A
    · exact proves_big n s t C cc A FA fc l SA sc side w hC hV hf
    · exact proves_main n s t C cc A FA fc l SA sc side w hC hF hS hl1 hl2 hV hf
  · exact proves_inv n s t C cc A FA fc l SA sc side w hC hlA hV
end Go.Proofs.Ytanhhdfffggdmaa
