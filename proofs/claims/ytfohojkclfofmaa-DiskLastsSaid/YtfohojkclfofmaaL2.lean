/- DiskReorders answers true for every input. -/
import Derived.Test.YtfohojkclfofmaaL1
import Derived.Test.YtfohojkclfofmaaLP2
set_option linter.unusedSimpArgs false
set_option linter.unusedVariables false
namespace Go.Proofs.Ytfohojkclfofmaa
open Go.RowKit DK
attribute [local go_sem] alloc_drewN setCell_drewN shape_drewN
theorem bs_cut (l : Bts) (i j : Nat) (h : j ≤ l.length) : (bs l).extract i j = bs ((l.take j).drop i) := by
  apply ByteArray.ext
  apply Array.ext'
  rw [ByteArray.data_extract]
  simp [bs, List.extract_eq_take_drop, List.drop_take]
set_option maxRecDepth 100000 in
set_option maxHeartbeats 4000000 in
theorem reorders_any (a b d : Bts) (A : Option Addr) (c : Nat) (keep : List Int) (w : World) (ha : a.length ≤ 140737488355328) (hb : b.length ≤ 140737488355328) (hd : d.length ≤ 140737488355328) (hk : keep.length ≤ 9223372036854775807) (hA : IntsAt w w.heap.size A keep) :
    Calls Try.prog 4 #[.string (bs a), .string (bs b), .string (bs d), .slice A keep.length c] w (BoolIs true w) := by
  have z1 := bs_size a
  have z2 := bs_size b
  have z3 := bs_size d
  have y1 := bs_toList a
  have y2 := bs_toList b
  have y3 := bs_toList d
  have v1 : IntKind.i64.wrap ((a.length : Int) + b.length) = (a.length : Int) + b.length := by simp [IntKind.wrap, IntKind.signed, IntKind.bits]; omega
  have v2 : IntKind.i64.wrap ((a.length : Int) + b.length + d.length) = (a.length : Int) + b.length + d.length := by simp [IntKind.wrap, IntKind.signed, IntKind.bits]; omega
  go_enter Try.func4, Try.ntmps4
  go_wp2_with fail
  go_at_call 7
  refine (small_any w).mono ?_
  rintro e w1 ⟨rfl, hb1⟩
  go_wp2_with fail
  go_at_call 8
  refine (Has.new w1 hb1).mono ?_
  rintro e w2 ⟨q, rfl, h, -, -⟩
  unfold dp
  by_cases na : a = []
  · subst na
    have y4 : bs [] = ⟨#[]⟩ := rfl
    go_wp2_with fail
    all_goals (go_ret; exact ⟨rfl, h.below⟩)
  have n1 : (a == []) = false := by rw [beq_eq_false_iff_ne]; exact na
  by_cases nb : b = []
  · subst nb
    have y4 : bs [] = ⟨#[]⟩ := rfl
    go_wp2_with fail
    all_goals (go_ret; exact ⟨rfl, h.below⟩)
  have n2 : (b == []) = false := by rw [beq_eq_false_iff_ne]; exact nb
  by_cases nc : d = []
  · subst nc
    have y4 : bs [] = ⟨#[]⟩ := rfl
    go_wp2_with fail
    all_goals (go_ret; exact ⟨rfl, h.below⟩)
  have n3 : (d == []) = false := by rw [beq_eq_false_iff_ne]; exact nc
  by_cases hl : 60000 < a.length + b.length + d.length
  · have g1 : (60000 : Int) < (a.length : Int) + b.length + d.length := by omega
    have g2 : decide ((60000 : Int) < (a.length : Int) + b.length + d.length) = true := decide_eq_true g1
    go_wp2_with fail
    go_ret
    exact ⟨rfl, h.below⟩
  have g1 : decide ((60000 : Int) < (a.length : Int) + b.length + d.length) = false := decide_eq_false (by omega)
  have g2 : ¬ (60000 : Int) < (a.length : Int) + b.length + d.length := by omega
  by_cases hk3 : keep.length = 3
  case neg =>
    have g3 : (keep.length == 3) = false := by rw [beq_eq_false_iff_ne]; exact hk3
    have g4 : (keep.length != 3) = true := by rw [bne, g3]; rfl
    have g5 : ((keep.length : Int) == 3) = false := by rw [beq_eq_false_iff_ne]; omega
    have g6 : ((keep.length : Int) != 3) = true := by rw [bne, g5]; rfl
    go_wp2_with fail
    go_ret
    exact ⟨rfl, h.below⟩
  have hw : a.length + b.length + d.length ≤ 60000 := by omega
  obtain ⟨k0, k1, k2, rfl⟩ : ∃ k0 k1 k2, keep = [k0, k1, k2] := by
    match keep, hk3 with
    | [x, y, z], _ => exact ⟨x, y, z, rfl⟩
  have X1 : (DK.append St.zero (5 : Nat) a).1 = 0 := by rw [re1_all hw]
  have X2 : (DK.append (re1 a) (6 : Nat) d).1 = 0 := by rw [re2_all hw]
  have X3 : (DK.append (re2 a d) (5 : Nat) b).1 = 0 := by rw [re3_all hw]
  have hlen : [k0, k1, k2].length = 3 := rfl
  go_wp2_with fail
  go_at_call 9
  refine (h.append (5 : Nat) a (by omega) (by omega) X1 (show _ = re1 a from rfl)).mono ?_
  clear h; rintro e1 w3 ⟨rfl, h⟩
  go_wp2_with fail
  go_at_call 9
  refine (h.append (6 : Nat) d (by omega) (by omega) X2 (show _ = re2 a d from rfl)).mono ?_
  clear h; rintro e2 w4 ⟨rfl, h⟩
  go_wp2_with fail
  go_at_call 9
  refine (h.append (5 : Nat) b (by omega) (by omega) X3 (show _ = re3 a b d from rfl)).mono ?_
  clear h; rintro e3 w5 ⟨rfl, h⟩
  go_wp2_with fail
  go_at_call 12
  refine (h.crash (keep := [k0, k1, k2]) (Apart.old h hA) hk (by omega) (show _ = re4 a b d k0 k1 k2 from rfl)).mono ?_
  clear h; rintro e4 w6 ⟨rfl, h⟩
  go_wp2_with fail
  go_at_call 12
  refine (h.crashNew (keep := [100000, 100000, 100000]) (by decide) 3 3 (by decide) (by omega) (show _ = re5 a b d k0 k1 k2 from rfl)).mono ?_
  clear h; rintro e5 w7 ⟨rfl, h⟩
  go_wp2_with fail
  go_at_call 13
  refine (h.start (show _ = re6 a b d k0 k1 k2 from rfl)).mono ?_
  clear h; rintro e6 w8 ⟨rfl, h⟩
  go_wp2_with fail
  go_at_call 12
  refine (h.crash (keep := []) (Apart.nil w w8 q none) (by decide) (by omega) (show _ = re7 a b d k0 k1 k2 from rfl)).mono ?_
  clear h; rintro e7 w9 ⟨rfl, h⟩
  go_wp2_with fail
  go_at_call 13
  refine (h.start (show _ = re8 a b d k0 k1 k2 from rfl)).mono ?_
  clear h; rintro e8 w10 ⟨rfl, h⟩
  obtain ⟨D5, D6⟩ := re4_5 (k0 := k0) (k1 := k1) (k2 := k2) hw na nb nc
  have hx := clamp_le k0 a.length
  have hy := clamp_le k2 b.length
  have hz := clamp_le k1 d.length
  obtain ⟨x, ex⟩ : ∃ x, clamp k0 a.length = x := ⟨_, rfl⟩
  obtain ⟨y, ey⟩ : ∃ x, clamp k2 b.length = x := ⟨_, rfl⟩
  obtain ⟨z, ez⟩ : ∃ x, clamp k1 d.length = x := ⟨_, rfl⟩
  rw [ex] at D5 hx
  rw [ey] at D5 hy
  rw [ez] at D6 hz
  have R6 : DK.read (re8 a b d k0 k1 k2) (6 : Nat) = (d.take z, 0) := by rw [read_up rfl (by omega), re8_same, D6]
  obtain ⟨S, eS⟩ : ∃ S, (re4 a b d k0 k1 k2).data 5 = S := ⟨_, rfl⟩
  rw [eS] at D5
  have R5 : DK.read (re8 a b d k0 k1 k2) (5 : Nat) = (S, 0) := by rw [read_up rfl (by omega), re8_same, eS]
  clear eS D6
  replace D5 := Lib.hid D5
  go_wp2_with fail
  go_at_call 14
  refine (h.read (5 : Nat) R5).mono ?_
  rintro f1 x1 ⟨rfl, rfl⟩
  go_wp2_with fail
  go_at_call 14
  refine (h.read (6 : Nat) R6).mono ?_
  rintro f2 x2 ⟨rfl, rfl⟩
  have hA10 := hA.below h.below
  obtain ⟨ab, ao, rfl, hab, a0⟩ := hA10.at_ (k := 0) (x := k0) rfl
  have a1 : w10.cell? ⟨ab, ao + 1, none⟩ = some (.int .i64 k1) := by
    obtain ⟨b', o', e', _, c1⟩ := hA10.at_ (k := 1) (x := k1) rfl
    injection e' with e'; injection e' with e1 e2; subst e1 e2; exact c1
  have a2 : w10.cell? ⟨ab, ao + 2, none⟩ = some (.int .i64 k2) := by
    obtain ⟨b', o', e', _, c1⟩ := hA10.at_ (k := 2) (x := k2) rfl
    injection e' with e'; injection e' with e1 e2; subst e1 e2; exact c1
  rw [Nat.add_zero] at a0
  clear hA10
  replace hA := Lib.hid hA
  obtain ⟨mx, fx⟩ : ∃ m, (if k0 < 0 then 0 else k0) = m := ⟨_, rfl⟩
  have rx : (if (a.length : Int) < mx then (a.length : Int) else mx) = (x : Int) := by
    rw [← ex, ← fx]; unfold clamp; split <;> split <;> omega
  obtain ⟨my, fy⟩ : ∃ m, (if k2 < 0 then 0 else k2) = m := ⟨_, rfl⟩
  have ry : (if (b.length : Int) < my then (b.length : Int) else my) = (y : Int) := by
    rw [← ey, ← fy]; unfold clamp; split <;> split <;> omega
  obtain ⟨mz, fz⟩ : ∃ m, (if k1 < 0 then 0 else k1) = m := ⟨_, rfl⟩
  have rz : (if (d.length : Int) < mz then (d.length : Int) else mz) = (z : Int) := by
    rw [← ez, ← fz]; unfold clamp; split <;> split <;> omega
  clear ex ey ez
  have hbel := h.below
  have gz : (bs d).extract 0 z = bs (d.take z) := by rw [bs_cut d 0 z hz]; rfl
  have gx : (bs a).extract 0 x = bs (a.take x) := by rw [bs_cut a 0 x hx]; rfl
  have gy : (bs b).extract 0 y = bs (b.take y) := by rw [bs_cut b 0 y hy]; rfl
  have iz : (0 : Int) ≤ (z : Int) ∧ (z : Int) ≤ (d.length : Int) := by omega
  have ix : (0 : Int) ≤ (x : Int) ∧ (x : Int) ≤ (a.length : Int) := by omega
  have iy : (0 : Int) ≤ (y : Int) ∧ (y : Int) ≤ (b.length : Int) := by omega
  go_upto_region 17 with fail
  by_cases hy0 : y = 0
  · subst hy0
    obtain rfl : S = a.take x := by have := D5.out; simpa using this
    clear D5
    go_wp2_with fail
    all_goals (go_ret; exact ⟨rfl, hbel⟩)
  have hS : S = a.take x ++ List.replicate (a.length - x) 0 ++ b.take y := by have := D5.out; rw [if_neg hy0] at this; exact this
  have l1 : (a.take x).length = x := by rw [List.length_take]; omega
  have l2 : (a.take x ++ List.replicate (a.length - x) (0 : UInt8)).length = a.length := by rw [List.length_append, l1, List.length_replicate]; omega
  have l3 : S.length = a.length + y := by rw [hS, List.length_append, l2, List.length_take]; omega
  have t1 : S.take x = a.take x := by rw [hS, List.append_assoc, List.take_append_of_le_length (by omega), List.take_of_length_le (by omega)]
  have t2 : S.drop a.length = b.take y := by rw [hS]; exact (List.drop_append_of_le_length (Nat.le_of_eq l2.symm)).trans (by rw [List.drop_of_length_le (Nat.le_of_eq l2), List.nil_append])
  have t3 : ∀ k, x ≤ k → k < a.length → ∀ hp, (bs S)[k]'hp = 0 := by
    intro k h1 h2 hp
    have : S[k]? = some 0 := by
      rw [hS, List.append_assoc, List.getElem?_append_right (by omega), l1, List.getElem?_append_left (by rw [List.length_replicate]; omega), List.getElem?_replicate, if_pos (by omega)]
    obtain ⟨h3, h4⟩ := List.getElem?_eq_some_iff.1 this
    exact h4
  clear hS D5
  have s1 := bs_size S
  have u1 : (bs S).extract 0 x = bs (a.take x) := by rw [bs_cut S 0 x (by omega)]; show bs (S.take x) = _; rw [t1]
  have u2 : (bs S).extract a.length (a.length + y) = bs (b.take y) := by rw [bs_cut S a.length _ (by omega), ← l3, List.take_length, t2]
  have u3 : (bs S).extract a.length (bs S).size = bs (b.take y) := by rw [s1, l3]; exact u2
  have v3 : IntKind.i64.wrap ((a.length : Int) + y) = (a.length : Int) + y := by simp [IntKind.wrap, IntKind.signed, IntKind.bits]; omega
  have v4 : ((a.length + y : Nat) : Int) = (a.length : Int) + y := by omega
  have yn : ((y : Int) == 0) = false := by rw [beq_eq_false_iff_ne]; omega
  have yn2 : (y == 0) = false := by rw [beq_eq_false_iff_ne]; omega
  have i3 : (x : Int) ≤ (a.length : Int) + y := by omega
  have i4 : x ≤ a.length + y := by omega
  have i5 : (a.length : Int) ≤ (a.length : Int) + y := by omega
  have i6 : a.length ≤ a.length + y := by omega
  go_upto_region 21 with fail
  refine Plan.wp_region_tree (.rd 0 (.rd 1 (.rd 2 (.rd 3 (.rd 4 (.rd 5 (.rd 6 (.rd 7 (.rd 8 (.rd 9 (.rd 10 (.rd 11 (.rd 12 (.rd 13 (.rd 14 (.rd 15 (.rd 16 (.rd 17 (.rd 18 (.rd 19 (.rd 20 (.rd 21 (.rd 22 (.rd 23 (.rd 24 (.rd 25 .done)))))))))))))))))))))))))) (by kernel_rfl) (by kernel_rfl) ?_
  (repeat (first | (refine Plan.tree_read (v := ?_) rfl rfl ?_ ?_; rotate_left; (focus ((intro wS hSw; have hkS := (bcell hSw).1; go_simp); try with_reducible rfl)); simp only [Act.put, List.setIfInBounds_toArray, List.set_cons_zero, List.set_cons_succ]) | (refine Plan.tree_skip rfl rfl ?_; simp only [Act.put, List.setIfInBounds_toArray, List.set_cons_zero, List.set_cons_succ])))
  refine Plan.tree_done ?_
  go_wp2_with fail
  go_loop [17] (fun i => ∃ k : Nat, x ≤ k ∧ k ≤ a.length ∧ i = .int .i64 k) (fun i => a.length - (intOf i).toNat)
  case atStart => exact ⟨x, Nat.le_refl _, hx, rfl⟩
  case round =>
    obtain ⟨k, hk1, hk2, rfl⟩ := hrel
    by_cases hlt : k < a.length
    · have e1 : (k : Int) < (a.length : Int) := by omega
      have e2 : k < (bs S).size := by rw [s1, l3]; omega
      have e3 : (k : Int) < ((bs S).size : Int) := by omega
      have e4 := t3 k hk1 hlt e2
      go_wp2_with fail
      go_round
      case rel => exact ⟨k + 1, by omega, by omega, by go_num⟩
      case measure => simp [intOf]; omega
    · have e0 : k = a.length := by omega
      have e1 : ¬ (k : Int) < (a.length : Int) := by omega
      go_wp2_with fail
      go_ret
      exact ⟨rfl, below_drewN hbel _⟩
end Go.Proofs.Ytfohojkclfofmaa
