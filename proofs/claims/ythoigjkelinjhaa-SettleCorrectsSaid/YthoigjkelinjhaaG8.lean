/- Walks of text, Name, different, sizes. (Printed by gen_g8.py.) -/
import Derived.Test.YthoigjkelinjhaaG3
import Derived.Test.YthoigjkelinjhaaPMem
set_option linter.unusedSimpArgs false
set_option linter.unusedVariables false
namespace Go.Proofs.Ythoigjkelinjhaa.RT
open Go.RowKit BV
attribute [local go_sem] alloc_drewN setCell_drewN shape_drewN
set_option maxRecDepth 100000 in
set_option maxHeartbeats 8000000 in
theorem text_any (s : ByteArray) (w : World) (hs : s.size ≤ 9223372036854775807) : Calls Try.prog 29 #[.string s] w (PureB w) := by
  go_enter Try.func29, Try.ntmps29
  go_wp2_with fail
  go_loopw [3] (fun iv wr => ∃ i : Nat, i ≤ s.size ∧ iv = .int .i64 i ∧ wr = w) (fun iv _ => s.size - (intOf iv).toNat)
  case atStart => exact ⟨0, Nat.zero_le _, rfl, rfl⟩
  case round =>
    obtain ⟨i, hi, rfl, rfl⟩ := hrel
    by_cases hlt : i < s.size
    · go_wp2_with fail
      all_goals first
        | (go_ret; exact ⟨false, rfl, rfl⟩)
        | (go_roundw
           case rel => exact ⟨i + 1, by omega, by go_num, by first | rfl | trivial⟩
           case measure => simp [intOf]; omega)
    · obtain rfl : s.size = i := by omega
      go_wp2_with fail
      go_ret
      exact ⟨_, rfl, rfl⟩
set_option maxRecDepth 100000 in
set_option maxHeartbeats 8000000 in
theorem name_any (s : ByteArray) (w : World) (hs : s.size ≤ 9223372036854775807) : Calls Try.prog 54 #[.string s] w (PureB w) := by
  go_enter Try.func54, Try.ntmps54
  go_wp2_with fail
  go_loopw [3] (fun iv wr => ∃ i : Nat, i ≤ s.size ∧ iv = .int .i64 i ∧ wr = w) (fun iv _ => s.size - (intOf iv).toNat)
  case atStart => exact ⟨0, Nat.zero_le _, rfl, rfl⟩
  case round =>
    obtain ⟨i, hi, rfl, rfl⟩ := hrel
    by_cases hlt : i < s.size
    · by_cases hi0 : i = 0
      · subst hi0
        go_wp2_with fail
        all_goals first
          | (go_ret; exact ⟨false, rfl, rfl⟩)
          | (go_roundw
             case rel => exact ⟨1, by omega, by go_num, by first | rfl | trivial⟩
             case measure => simp [intOf]; omega)
      · have e0 : ((i : Int) == 0) = false := by simp; omega
        have e1 : (i == 0) = false := by simpa using hi0
        go_wp2_with fail
        all_goals first
          | (go_ret; exact ⟨false, rfl, rfl⟩)
          | (go_roundw
             case rel => exact ⟨i + 1, by omega, by go_num, by first | rfl | trivial⟩
             case measure => simp [intOf]; omega)
    · obtain rfl : s.size = i := by omega
      go_wp2_with fail
      all_goals
        go_ret
        exact ⟨_, rfl, rfl⟩
theorem strSize {w : World} {B len : Nat} {C : Option Addr} (h : Sl w B 9 1 C len) {i : Nat} (hi : i < len) : ∃ (b off : Nat) (z : ByteArray), C = some ⟨b, off, none⟩ ∧ b < B ∧ z.size ≤ 9223372036854775807 ∧ w.cell? ⟨b, off + i, none⟩ = some (.string z) := by
  obtain ⟨_, m, hm⟩ := h
  obtain ⟨b, off, e, hb, hc⟩ := hm (by omega)
  obtain ⟨F, h1, h2, h3⟩ := hc i hi
  obtain ⟨z, hz, rfl⟩ := Okv.str Try.underlying9 h3
  exact ⟨b, off, z, e, hb, hz, by have := h2 0 _ rfl; simpa using this⟩
set_option maxRecDepth 100000 in
set_option maxHeartbeats 8000000 in
theorem different_any (C : Option Addr) (len c : Nat) (w : World) (hC : Sl w w.heap.size 9 1 C len) : Calls Try.prog 44 #[.slice C len c] w (SomeB w) := by
  have hl := hC.1
  have HC := Lib.hid hC
  have KN := Lib.hid (fun s wx hs => name_any s wx hs)
  clear hC
  go_enter Try.func44, Try.ntmps44
  go_wp2_with fail
  go_loopw [3] (fun iv wr => ∃ i : Nat, i ≤ len ∧ iv = .int .i64 i ∧ Below w.heap.size w wr) (fun iv _ => len - (intOf iv).toNat)
  case atStart => exact ⟨0, Nat.zero_le _, rfl, Below.refl _ _⟩
  case round =>
    obtain ⟨i, hi, rfl, hBr⟩ := hrel
    by_cases hlt : i < len
    · have hz := hBr.size
      obtain ⟨b, off, z, ec, hb, hzs, c0⟩ := strSize (HC.out.below hBr) hlt
      have Hec := Lib.hid ec
      subst ec
      have hbw : b < wr.heap.size := by omega
      go_wp2_with fail
      go_at_call 54
      (with_reducible refine (KN.out z wr hzs).mono ?_)
      rintro e1 w1 ⟨bb, rfl, rfl⟩
      cases bb
      · go_wp2_with fail
        go_ret
        exact ⟨false, rfl, hBr⟩
      · go_wp2_with fail
        have HB3 := Lib.hid hBr
        clear c0
        go_loopw [4] (fun kv wr => ∃ k : Nat, k ≤ i ∧ kv = .int .i64 k ∧ Below w.heap.size w wr) (fun kv _ => i - (intOf kv).toNat)
        case atStart => exact ⟨0, Nat.zero_le _, rfl, HB3.out⟩
        case round =>
          clear hBr hz hbw
          obtain ⟨k, hk, rfl, hBr⟩ := hrel
          have hz := hBr.size
          by_cases hki : k < i
          · obtain ⟨b1, off1, z1, ec1, hb1, _, c1⟩ := strSize (HC.out.below hBr) (show k < len by omega)
            obtain ⟨b2, off2, z2, ec2, hb2, _, c2⟩ := strSize (HC.out.below hBr) hlt
            injection ec1 with ec1
            injection ec1 with eb eo
            subst eb eo
            injection ec2 with ec2
            injection ec2 with eb eo
            subst eb eo
            have hbw : b < wr.heap.size := by omega
            have hkl : k < len := by omega
            obtain ⟨q, hq⟩ : ∃ q : Bool, (z1.toList == z2.toList) = q := ⟨_, rfl⟩
            cases q
            all_goals
              go_wp2_with fail
              refine Plan.wp_region_below 8 [(0, true), (1, true), (2, true), (3, true), (4, true), (5, true), (6, true), (7, true), (8, false)] (by kernel_rfl) (by kernel_rfl) ?_
              (repeat (first | (refine Plan.plan_read (v := ?_) rfl rfl ?_ ?_; rotate_left; (focus ((intro wS hSw; have hkS := (bcell hSw).1; try (have hkT := fun (b o : Nat) (h : b < w.heap.size) => hkS b o (by first | omega | (simp; omega) | (simp; done))); go_simp); try with_reducible rfl)); simp only [Act.put, List.setIfInBounds_toArray, List.set_cons_zero, List.set_cons_succ]) | (refine Plan.plan_skip rfl rfl ?_; simp only [Act.put, List.setIfInBounds_toArray, List.set_cons_zero, List.set_cons_succ])))
              refine Plan.plan_last rfl (fun K hK => ?_)
              go_simp
              refine hK.out _ _ ?_
              clear hK K
              try simp only [Act.put, List.setIfInBounds_toArray, List.set_cons_zero, List.set_cons_succ]
              go_wp2_with fail
              first
                | (go_ret; exact ⟨false, rfl, hBr.drew⟩)
                | (go_roundw
                   case rel => exact ⟨k + 1, by omega, by go_num, hBr.drew⟩
                   case measure => simp [intOf]; omega)
          · have hge : ¬ ((k : Int) < (i : Int)) := by omega
            go_wp2_with fail
            go_roundw
            case rel => exact ⟨i + 1, by omega, by go_num, hBr⟩
            case measure => simp [intOf]; omega
    · obtain rfl : len = i := by omega
      go_wp2_with fail
      go_ret
      exact ⟨true, rfl, hBr⟩
end Go.Proofs.Ythoigjkelinjhaa.RT
