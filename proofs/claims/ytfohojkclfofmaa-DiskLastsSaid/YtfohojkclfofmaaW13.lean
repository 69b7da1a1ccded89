/- Small functions of the law: pick, begins, torn. -/
import Derived.Test.YtfohojkclfofmaaL3
import Derived.Test.YtfohojkclfofmaaLP4
set_option linter.unusedSimpArgs false
set_option linter.unusedVariables false
namespace Go.Proofs.Ytfohojkclfofmaa
open Go.RowKit DK
attribute [local go_sem] alloc_drewN setCell_drewN shape_drewN
theorem pick_any (d : Int) (w : World) : Calls Try.prog 19 #[.int .i64 d] w fun e w' => e = .returned (.int .i64 (pk d)) ∧ w = w' := by
  obtain ⟨r, hr⟩ : ∃ r, Int.tmod d 11 = r := ⟨_, rfl⟩
  have hp : pk d = if r < 0 then r + 11 else r := by
    unfold pk; rw [← hr, Int.tmod_eq_emod]; split <;> split <;> omega
  have hb : -11 < r ∧ r < 11 := by
    rw [← hr, Int.tmod_eq_emod]; split <;> omega
  go_enter Try.func19, Try.ntmps19
  by_cases h0 : r < 0
  · rw [if_pos h0] at hp
    have v : IntKind.i64.wrap (r + 11) = r + 11 := by simp [IntKind.wrap, IntKind.signed, IntKind.bits]; omega
    have v2 : IntKind.i64.wrap r = r := by simp [IntKind.wrap, IntKind.signed, IntKind.bits]; omega
    replace hp := Lib.hid hp
    go_wp2_with fail
    go_ret
    exact ⟨ret_int (by rw [hp.out]), rfl⟩
  · rw [if_neg h0] at hp
    have v2 : IntKind.i64.wrap r = r := by simp [IntKind.wrap, IntKind.signed, IntKind.bits]; omega
    replace hp := Lib.hid hp
    go_wp2_with fail
    go_ret
    exact ⟨ret_int (by rw [hp.out]), rfl⟩
theorem begins_any (x y : Bts) (w : World) (h : ∃ r, x = y ++ r) : Calls Try.prog 20 #[.string (bs x), .string (bs y)] w fun e w' => e = .returned (.bool true) ∧ w = w' := by
  have hl : y.length ≤ x.length := by obtain ⟨r, rfl⟩ := h; rw [List.length_append]; omega
  have ht := take_of h.choose_spec
  have z1 := bs_size x
  have z2 := bs_size y
  have hg : (y.length : Int) ≤ (x.length : Int) := by omega
  have gx : (bs x).extract 0 y.length = bs y := by rw [bs_cut x 0 _ hl]; show bs (x.take y.length) = _; rw [ht]
  clear ht
  go_enter Try.func20, Try.ntmps20
  go_wp2_with fail
  go_ret
  exact ⟨rfl, rfl⟩
theorem torn_any (x y : Bts) (w : World) (h : Torn x y) (hx : x.length ≤ 9223372036854775807) : Calls Try.prog 22 #[.string (bs x), .string (bs y)] w fun e w' => e = .returned (.bool true) ∧ Below w.heap.size w w' := by
  have z1 := bs_size x
  have z2 := bs_size y
  obtain ⟨hl, ht⟩ := h
  replace ht := Lib.hid ht
  go_enter Try.func22, Try.ntmps22
  go_wp2_with fail
  go_loopw [5] (fun i wr => ∃ k m : Nat, k ≤ x.length ∧ i = .int .i64 k ∧ wr = w.drewN m) (fun i _ => x.length - (intOf i).toNat)
  case atStart => exact ⟨0, 0, Nat.zero_le _, rfl, rfl⟩
  case round =>
    obtain ⟨k, m, hk, rfl, rfl⟩ := hrel
    by_cases hlt : k < x.length
    · have e1 : (k : Int) < (x.length : Int) := by omega
      have e2 : k < (bs x).size := by omega
      have e3 : k < (bs y).size := by omega
      have e4 : ¬ (y.length : Int) ≤ (k : Int) := by omega
      have e5 : decide ((y.length : Int) ≤ (k : Int)) = false := decide_eq_false e4
      have e6 : (k : Int) < (y.length : Int) := by omega
      have e7 : (0 : Int) ≤ (k : Int) := by omega
      have hb := ht.out k ((bs x)[k]'e2) (List.getElem?_eq_getElem hlt)
      have hy : y[k]? = some ((bs y)[k]'e3) := List.getElem?_eq_getElem (by omega)
      rw [hy] at hb
      obtain ⟨b1, hb1⟩ : ∃ b, (bs x)[k]'e2 = b := ⟨_, rfl⟩
      obtain ⟨b2, hb2⟩ : ∃ b, (bs y)[k]'e3 = b := ⟨_, rfl⟩
      rw [hb1, hb2] at hb
      clear hy
      by_cases h0 : b1 = 0
      · subst h0
        clear hb
        have hz : ((0 : UInt8).toNat : Int) = 0 := rfl
        by_cases h2 : b2 = 0
        · subst h2
          go_upto_region 4 with fail
          refine Plan.wp_region_tree (.rd 0 (.rd 1 (.rd 2 (.rd 3 (.rd 4 (.rd 5 (.rd 6 (.rd 7 (.rd 8 (.rd 9 (.rd 10 (.rd 11 (.rd 12 (.rd 13 (.rd 14 (.rd 15 (.rd 16 (.rd 17 (.rd 18 .done))))))))))))))))))) (by kernel_rfl) (by kernel_rfl) ?_
          (repeat (first | (refine Plan.tree_read (v := ?_) rfl rfl ?_ ?_; rotate_left; (focus ((intro wS hSw; have hkS := (bcell hSw).1; go_simp); try with_reducible rfl)); simp only [Act.put, List.setIfInBounds_toArray, List.set_cons_zero, List.set_cons_succ]) | (refine Plan.tree_skip rfl rfl ?_; simp only [Act.put, List.setIfInBounds_toArray, List.set_cons_zero, List.set_cons_succ])))
          refine Plan.tree_done ?_
          go_wp2_with fail
          go_round
          case rel => exact ⟨k + 1, m + 1, by omega, by go_num, rfl⟩
          case measure => simp [intOf]; omega
        · have hne : b2.toNat ≠ 0 := fun e => h2 (UInt8.toNat_inj.1 (by rw [e]; rfl))
          have hn1 : ((0 : Int) == (b2.toNat : Int)) = false := by rw [beq_eq_false_iff_ne]; omega
          have hn2 : (0 == b2.toNat) = false := by rw [beq_eq_false_iff_ne]; omega
          have hn3 : ¬ (0 : Int) = (b2.toNat : Int) := by omega
          have hn4 : ((0 : Int) != (b2.toNat : Int)) = true := by rw [bne, hn1]; rfl
          go_upto_region 4 with fail
          refine Plan.wp_region_tree (.rd 0 (.rd 1 (.rd 2 (.rd 3 (.rd 4 (.rd 5 (.rd 6 (.rd 7 (.rd 8 (.rd 9 (.rd 10 (.rd 11 (.rd 12 (.rd 13 (.rd 14 (.rd 15 (.rd 16 (.rd 17 (.rd 18 .done))))))))))))))))))) (by kernel_rfl) (by kernel_rfl) ?_
          (repeat (first | (refine Plan.tree_read (v := ?_) rfl rfl ?_ ?_; rotate_left; (focus ((intro wS hSw; have hkS := (bcell hSw).1; go_simp); try with_reducible rfl)); simp only [Act.put, List.setIfInBounds_toArray, List.set_cons_zero, List.set_cons_succ]) | (refine Plan.tree_skip rfl rfl ?_; simp only [Act.put, List.setIfInBounds_toArray, List.set_cons_zero, List.set_cons_succ])))
          refine Plan.tree_done ?_
          go_wp2_with fail
          go_round
          case rel => exact ⟨k + 1, m + 1, by omega, by go_num, rfl⟩
          case measure => simp [intOf]; omega
      · obtain rfl : b2 = b1 := by rcases hb with hb | hb; exact absurd hb h0; injection hb
        go_upto_region 4 with fail
        refine Plan.wp_region_tree (.rd 0 (.rd 1 (.rd 2 (.rd 3 (.rd 4 (.rd 5 (.rd 6 (.rd 7 (.rd 8 (.rd 9 (.rd 10 (.rd 11 (.rd 12 (.rd 13 (.rd 14 (.rd 15 (.rd 16 (.rd 17 (.rd 18 .done))))))))))))))))))) (by kernel_rfl) (by kernel_rfl) ?_
        (repeat (first | (refine Plan.tree_read (v := ?_) rfl rfl ?_ ?_; rotate_left; (focus ((intro wS hSw; have hkS := (bcell hSw).1; go_simp); try with_reducible rfl)); simp only [Act.put, List.setIfInBounds_toArray, List.set_cons_zero, List.set_cons_succ]) | (refine Plan.tree_skip rfl rfl ?_; simp only [Act.put, List.setIfInBounds_toArray, List.set_cons_zero, List.set_cons_succ])))
        refine Plan.tree_done ?_
        go_wp2_with fail
        go_round
        case rel => exact ⟨k + 1, m + 1, by omega, by go_num, rfl⟩
        case measure => simp [intOf]; omega
    · have e1 : ¬ (k : Int) < (x.length : Int) := by omega
      go_wp2_with fail
      go_ret
      exact ⟨rfl, below_drewN (Below.refl _ _) _⟩
end Go.Proofs.Ytfohojkclfofmaa
