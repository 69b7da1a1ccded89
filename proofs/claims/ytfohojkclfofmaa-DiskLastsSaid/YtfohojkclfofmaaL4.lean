/- DiskLasts answers true for every input. (Printed by gen_l4.py.) -/
import Derived.Test.YtfohojkclfofmaaH2
import Derived.Test.YtfohojkclfofmaaLP5
set_option linter.unusedSimpArgs false
set_option linter.unusedVariables false
namespace Go.Proofs.Ytfohojkclfofmaa
open Go.RowKit DK
attribute [local go_sem] alloc_drewN setCell_drewN shape_drewN
theorem Try.infoStr : ∃ i, Try.prog.info? 9 = some i ∧ i.zero = some (.string ⟨#[]⟩) ∧ i.size = 1 ∧ i.bytes = 16 := ⟨_, rfl, by kernel_rfl, by kernel_rfl, by kernel_rfl⟩
def LastR (w0 : World) (b g : Nat) (l : List PA) (u8 : Value) (wr : World) : Prop :=
  ∃ (k : Nat) (s : St) (sf : Nat → Bts), u8 = .int .i64 k ∧ k ≤ l.length ∧ SafeAt w0 b g k [] wr s sf ∧ LI s sf ∧ DI s
set_option maxRecDepth 100000 in
set_option maxHeartbeats 8000000 in
theorem lasts_any (C : Option Addr) (c : Nat) (l : List PA) (A : Option Addr) (ck : Nat) (keep : List Int) (w : World) (hl : l.length ≤ 9223372036854775807)
    (hS : Hid (∀ a ∈ l, a.s.length ≤ 140737488355328 ∧ a.keep.length ≤ 140737488355328)) (hN : Hid (∀ a ∈ l, a.n ≤ 9223372036854775807)) (hC : ActsAt w w.heap.size C l) (hK : KeepsAt w w.heap.size l)
    (hA : IntsAt w w.heap.size A keep) (hk : keep.length ≤ 9223372036854775807) :
    Calls Try.prog 5 #[.slice C l.length c, .slice A keep.length ck] w (BoolIs true w) := by
  obtain ⟨iS, hi0, hi1, hi2, hi3⟩ := Try.infoStr
  have hmk : ∀ wx : World, (Instr.makeSlice 38 (.int .i64 8) (.int .i64 8)).run Try.prog wx = .ok (.slice (some ⟨wx.heap.size, 0, none⟩) 8 8) (wx.alloc (.cells (zeros (.string ⟨#[]⟩) 8) 9)) := fun wx => run_make1 (P := Try.prog) 38 9 iS (.string ⟨#[]⟩) Try.underlying38 hi0 hi1 hi2 rfl 8 8 (Nat.le_refl _) (by rw [hi3]; omega) (by omega) wx
  replace hK := Lib.hid hK
  go_enter Try.func5, Try.ntmps5
  go_wp2_with fail
  go_at_call 7
  refine (small_any w).mono ?_
  rintro e w1 ⟨rfl, hb1⟩
  go_wp2_with fail
  go_at_call 8
  refine (Has.new w1 hb1).mono ?_
  rintro e w2 ⟨q, rfl, H, -, -⟩
  unfold dp
  have KF := few_any C c l w2 hl hS ((hC.below H.below).more H.below.size)
  cases hfew : fewP l with
  | false =>
    rw [hfew] at KF
    go_wp2_with (first | (go_at_call 16; refine KF.mono ?_; rintro e3 w3 ⟨rfl, hb3⟩) | fail)
    go_ret
    exact ⟨rfl, H.below.trans (hb3.mono H.below.size)⟩
  | true =>
  rw [hfew] at KF
  have hl2 : l.length ≤ 200 := by unfold fewP at hfew; simp only [Bool.and_eq_true, decide_eq_true_eq] at hfew; exact hfew.1
  have ht : Hid (tot l ≤ 100000) := by unfold fewP at hfew; simp only [Bool.and_eq_true, decide_eq_true_eq] at hfew; exact hfew.2
  clear hfew
  go_upto_region 5 with (first | (go_at_call 16; refine KF.mono ?_; rintro e3 w3 ⟨rfl, hb3⟩) | fail)
  replace H := H.below_ hb3
  have S0 := SafeAt.made H 9 (fun x hx => by cases hx)
  go_wp2_with fail
  obtain ⟨w4, hw4⟩ : ∃ W, W = w3.alloc (.cells (zeros (.string ⟨#[]⟩) 8) 9) := ⟨_, rfl⟩
  obtain ⟨gs, hgs⟩ : ∃ x, x = w3.heap.size := ⟨_, rfl⟩
  rw [← hw4, ← hgs] at S0
  rw [← hw4, ← hgs]
  clear hw4 hgs hi0 hi1 hi2 hi3
  go_loopw [8] (fun u8 wr => LastR w q gs l u8 wr) (fun u8 _ => l.length - (intOf u8).toNat)
  case atStart => exact ⟨0, _, _, rfl, Nat.zero_le _, S0, LI.zero, DI.zero⟩
  case round =>
    obtain ⟨k, s, sf, rfl, hkl, S1, hli, hdi⟩ := hrel
    clear S0
    obtain ⟨o1, H1⟩ := S1.has
    replace hli := Lib.hid hli
    by_cases hlt : k < l.length
    · obtain ⟨⟨dO, f, g0, m, x, A1, c1, kp⟩, hx⟩ : ∃ x, l[k]? = some x := ⟨_, List.getElem?_eq_getElem hlt⟩
      have hmem := List.mem_of_getElem? hx
      have hka := hK.out _ hmem
      have hna := hN.out _ hmem
      have hta : x.length + kp.length ≤ 100000 := Nat.le_trans (tot_mem hmem) ht.out
      obtain ⟨ab, ao, rfl, hab, hact⟩ := (hC.below H1.below).at_ hx
      have hki : (0 : Int) ≤ (k : Int) ∧ (k : Int) < (l.length : Int) := by omega
      have hki2 : (k : Int) < (l.length : Int) := by omega
      obtain ⟨p0, p1, p2, p3, p4, p5⟩ := hact
      dsimp only at p0 p1 p2 p3 p4 p5 hka hna
      clear hmem hx
      go_upto_region 10 with fail
      obtain ⟨wq, hwq⟩ : ∃ W, W = wr.alloc (.cells #[.int .i64 dO, .int .i64 f, .int .i64 g0, .int .i64 m, .string (bs x), .slice A1 kp.length c1] 40) := ⟨_, rfl⟩
      obtain ⟨aq, haq⟩ : ∃ x, x = wr.heap.size := ⟨_, rfl⟩
      have hlg := S1.lt
      have hne1 : gs ≠ aq := by omega
      have hne2 : aq ≠ gs := by omega
      obtain ⟨oA, hoA⟩ : ∃ o, o = Obj.cells #[.int .i64 dO, .int .i64 f, .int .i64 g0, .int .i64 m, .string (bs x), .slice A1 kp.length c1] 40 := ⟨_, rfl⟩
      have H2 : Has w q [(aq, oA), (gs, o1)] k wq s := by rw [hwq, haq, hoA]; exact H1.keepNew _
      have S2 : Arr wq gs 8 (strsF sf) := by rw [hwq]; exact S1.arr.alloc hlg _
      have Q2 : ActAt wq aq 0 ⟨dO, f, g0, m, x, A1, c1, kp⟩ := by rw [hwq, haq]; constructor <;> simp
      have hbase := S1.base
      rw [← hwq, ← haq]
      clear hwq haq hoA p0 p1 p2 p3 p4 p5 H1 S1
      obtain ⟨q0, q1, q2, q3, q4, q5⟩ := Q2
      rw [Nat.zero_add] at q1 q2 q3 q4 q5
      dsimp only at q0 q1 q2 q3 q4 q5
      obtain ⟨rx, re, s5, hr⟩ : ∃ y e t, doP s ⟨dO, f, g0, m, x, A1, c1, kp⟩ = ⟨y, e, t⟩ := ⟨_, _, _, rfl⟩
      have KD := do_any H2 ⟨dO, f, g0, m, x, A1, c1, kp⟩ (show x.length ≤ _ by omega) hna (show kp.length ≤ _ by omega) hka (by omega)
      have hway := way_of H2.ok hli.out ⟨dO, f, g0, m, x, A1, c1, kp⟩
      have di5 := doP_di H2.ok hdi ⟨dO, f, g0, m, x, A1, c1, kp⟩
      rw [hr] at KD hway di5
      dsimp only at KD hway di5
      clear hr hka hna
      obtain ⟨up, hup⟩ : ∃ b, s.down = b := ⟨_, rfl⟩
      go_upto_region 12 with (first | (go_at_call 17; refine (H2.down hup).mono ?_; rintro e4 w4 ⟨rfl, rfl⟩) | (go_at_call 18; refine KD.mono ?_; rintro e5 w5 ⟨rfl, H5⟩) | fail)
      have S5 : SafeAt w q gs (k + 1) [] w5 s5 sf := ⟨⟨o1, H5.drop⟩, S2.keep (H2.same H5 (g := gs) (o := o1) (by simp)), hbase, fun _ h => by cases h⟩
      have eA := H2.same H5 (g := aq) (o := oA) (by simp)
      have r0 := (World.cell?_of_block (a := ⟨aq, 0, none⟩) eA).trans q0
      have r1 := (World.cell?_of_block (a := ⟨aq, 1, none⟩) eA).trans q1
      have r2 := (World.cell?_of_block (a := ⟨aq, 2, none⟩) eA).trans q2
      have r3 := (World.cell?_of_block (a := ⟨aq, 3, none⟩) eA).trans q3
      have hlq : aq < w5.heap.size := (Array.getElem?_eq_some_iff.1 (H5.kept (aq, oA) (by simp))).1
      have hlg5 := S5.lt
      clear q0 q1 q2 q3 q4 q5 eA H2 S2 KD hli hdi
      replace di5 := Lib.hid di5
      have P := fun wx => pick_any dO wx
      obtain ⟨o5, H6⟩ := S5.has
      cases hway
      case flush f' hf h8 hp he d d' li =>
        subst hf he
        simp only [hp] at P
        obtain rfl : up = false := hup.symm.trans d
        clear d hup
        have iif : (f' : Int) < 8 := by omega
        have jjf : (0 : Int) ≤ (f' : Int) := by omega
        have aaf : w5.cell? ⟨gs, f', none⟩ = some (.string (bs (sf f'))) := (S5.arr f' h8).1
        have zzf := (S5.arr f' h8).2
        have R : DK.read s5 (f' : Nat) = (s5.data f', 0) := read_up d' h8
        go_upto_region 16 with (first | (go_at_call 19; refine (P _).mono ?_; rintro e6 w6 ⟨rfl, rfl⟩) | (go_at_call 14; refine (H6.read (f' : Nat) R).mono ?_; rintro e7 w7 ⟨rfl, rfl⟩) | fail)
        have S7 := S5.set h8 (s5.data f')
        obtain ⟨wx, hwx⟩ : ∃ W, W = w5.setCell ⟨gs, f', none⟩ (.string (bs (s5.data f'))) := ⟨_, rfl⟩
        rw [← hwx] at S7 ⊢
        clear hwx S5 H6 H5 r0 r1 r2 r3 aaf zzf hlq hlg5
        replace li := Lib.hid li
        refine Plan.wp_region_tree (.rd 0 (.rd 1 (.rd 2 (.rd 3 (.rd 4 (.rd 5 (.rd 6 (.rd 7 (.rd 8 (.rd 9 (.rd 10 (.rd 11 (.rd 12 (.rd 13 (.rd 14 (.rd 15 (.rd 16 .done))))))))))))))))) (by kernel_rfl) (by kernel_rfl) ?_
        (repeat (first | (refine Plan.tree_read (v := ?_) rfl rfl ?_ ?_; rotate_left; (focus ((intro wS hSw; have hkS := (bcell hSw).1; go_simp); try with_reducible rfl)); simp only [Act.put, List.setIfInBounds_toArray, List.set_cons_zero, List.set_cons_succ]) | (refine Plan.tree_skip rfl rfl ?_; simp only [Act.put, List.setIfInBounds_toArray, List.set_cons_zero, List.set_cons_succ])))
        refine Plan.tree_done ?_
        have S9 := S7.drew
        have L9 := li
        obtain ⟨o9, H9⟩ := S9.has
        go_wp2_with (first | (go_at_call 17; refine (H9.down d').mono ?_; rintro fd1 xd1 ⟨rfl, rfl⟩) | fail)
        go_round
        case rel => exact ⟨k + 1, s5, _, by go_num, by omega, S9, L9.out, di5.out⟩
        case measure => simp [intOf]; omega
      case cut f' n' hf h8 hn hp he d d' hl9 li =>
        subst hf hn he
        simp only [hp] at P
        obtain rfl : up = false := hup.symm.trans d
        clear d hup
        have iif : (f' : Int) < 8 := by omega
        have jjf : (0 : Int) ≤ (f' : Int) := by omega
        have aaf : w5.cell? ⟨gs, f', none⟩ = some (.string (bs (sf f'))) := (S5.arr f' h8).1
        have zzf := (S5.arr f' h8).2
        have zs := bs_size (sf f')
        have cn1 : (n' : Int) < ((sf f').length : Int) := by omega
        have cn2 : (0 : Int) ≤ (n' : Int) := by omega
        have cn3 : (n' : Int) ≤ ((sf f').length : Int) := by omega
        have cn4 : n' ≤ (sf f').length := by omega
        have gx : (bs (sf f')).extract 0 n' = bs ((sf f').take n') := by rw [bs_cut _ 0 _ cn4]; rfl
        go_upto_region 16 with (first | (go_at_call 19; refine (P _).mono ?_; rintro e6 w6 ⟨rfl, rfl⟩) | fail)
        refine Plan.wp_region_tree (.rd 0 (.rd 1 (.rd 2 (.rd 3 (.rd 4 (.rd 5 (.rd 6 (.rd 7 (.rd 8 (.rd 9 (.rd 10 (.rd 11 (.rd 12 (.rd 13 (.rd 14 (.rd 15 (.rd 16 .done))))))))))))))))) (by kernel_rfl) (by kernel_rfl) ?_
        (repeat (first | (refine Plan.tree_read (v := ?_) rfl rfl ?_ ?_; rotate_left; (focus ((intro wS hSw; have hkS := (bcell hSw).1; go_simp); try with_reducible rfl)); simp only [Act.put, List.setIfInBounds_toArray, List.set_cons_zero, List.set_cons_succ]) | (refine Plan.tree_skip rfl rfl ?_; simp only [Act.put, List.setIfInBounds_toArray, List.set_cons_zero, List.set_cons_succ])))
        refine Plan.tree_done ?_
        go_upto_region 17 with fail
        obtain ⟨wd, hwd⟩ : ∃ W, W = w5.drew := ⟨_, rfl⟩
        have S6 : SafeAt w q gs (k + 1) [] wd s5 sf := by rw [hwd]; exact S5.drew
        have b1 : wd.cell? ⟨aq, 1, none⟩ = some (.int .i64 f') := by rw [hwd]; exact r1
        have b3 : wd.cell? ⟨aq, 3, none⟩ = some (.int .i64 n') := by rw [hwd]; exact r3
        have b4 : wd.cell? ⟨gs, f', none⟩ = some (.string (bs (sf f'))) := by rw [hwd]; exact aaf
        have b5 : wd.frozen? ⟨gs, f', none⟩ = false := by rw [hwd]; exact zzf
        have b6 : aq < wd.heap.size := by rw [hwd]; exact hlq
        have b7 := S6.lt
        rw [← hwd]
        clear hwd S5 H6 H5 r0 r1 r2 r3 aaf zzf hlq hlg5 cn4
        refine Plan.wp_region_below 12 [(0, true), (1, true), (2, true), (3, true), (4, true), (5, true), (6, true), (7, true), (8, true), (9, true), (10, true), (11, true), (12, false)] (by kernel_rfl) (by kernel_rfl) ?_
        (repeat (first | (refine Plan.plan_read (v := ?_) rfl rfl ?_ ?_; rotate_left; (focus ((intro wS hSw; have hkS := (bcell hSw).1; go_simp); try with_reducible rfl)); simp only [Act.put, List.setIfInBounds_toArray, List.set_cons_zero, List.set_cons_succ]) | (refine Plan.plan_skip rfl rfl ?_; simp only [Act.put, List.setIfInBounds_toArray, List.set_cons_zero, List.set_cons_succ])))
        (refine Plan.plan_last rfl (fun K hK => ?_); go_simp; refine hK.out _ _ ?_; clear hK K; try simp only [Act.put, List.setIfInBounds_toArray, List.set_cons_zero, List.set_cons_succ])
        have S7 := S6.set h8 ((sf f').take n')
        replace li := Lib.hid li
        have S9 := S7.drew
        have L9 := li
        obtain ⟨o9, H9⟩ := S9.has
        go_wp2_with (first | (go_at_call 17; refine (H9.down d').mono ?_; rintro fd1 xd1 ⟨rfl, rfl⟩) | fail)
        go_round
        case rel => exact ⟨k + 1, s5, _, by go_num, by omega, S9, L9.out, di5.out⟩
        case measure => simp [intOf]; omega
      case cutL f' n' hf h8 hn hp he d d' hl9 li =>
        subst hf hn he
        simp only [hp] at P
        obtain rfl : up = false := hup.symm.trans d
        clear d hup
        have iif : (f' : Int) < 8 := by omega
        have jjf : (0 : Int) ≤ (f' : Int) := by omega
        have aaf : w5.cell? ⟨gs, f', none⟩ = some (.string (bs (sf f'))) := (S5.arr f' h8).1
        have zzf := (S5.arr f' h8).2
        have zs := bs_size (sf f')
        have cn1 : ¬ (n' : Int) < ((sf f').length : Int) := by omega
        have cn2 : decide ((n' : Int) < ((sf f').length : Int)) = false := decide_eq_false cn1
        go_upto_region 16 with (first | (go_at_call 19; refine (P _).mono ?_; rintro e6 w6 ⟨rfl, rfl⟩) | fail)
        refine Plan.wp_region_tree (.rd 0 (.rd 1 (.rd 2 (.rd 3 (.rd 4 (.rd 5 (.rd 6 (.rd 7 (.rd 8 (.rd 9 (.rd 10 (.rd 11 (.rd 12 (.rd 13 (.rd 14 (.rd 15 (.rd 16 .done))))))))))))))))) (by kernel_rfl) (by kernel_rfl) ?_
        (repeat (first | (refine Plan.tree_read (v := ?_) rfl rfl ?_ ?_; rotate_left; (focus ((intro wS hSw; have hkS := (bcell hSw).1; go_simp); try with_reducible rfl)); simp only [Act.put, List.setIfInBounds_toArray, List.set_cons_zero, List.set_cons_succ]) | (refine Plan.tree_skip rfl rfl ?_; simp only [Act.put, List.setIfInBounds_toArray, List.set_cons_zero, List.set_cons_succ])))
        refine Plan.tree_done ?_
        replace li := Lib.hid li
        have S9 := S5.drew
        have L9 := li
        obtain ⟨o9, H9⟩ := S9.has
        go_wp2_with (first | (go_at_call 17; refine (H9.down d').mono ?_; rintro fd1 xd1 ⟨rfl, rfl⟩) | fail)
        go_round
        case rel => exact ⟨k + 1, s5, _, by go_num, by omega, S9, L9.out, di5.out⟩
        case measure => simp [intOf]; omega
      case turn f' g' hf h8 hg h9 hp he d d' li =>
        subst hf hg he
        simp only [hp] at P
        obtain rfl : up = false := hup.symm.trans d
        clear d hup
        have iif : (f' : Int) < 8 := by omega
        have jjf : (0 : Int) ≤ (f' : Int) := by omega
        have aaf : w5.cell? ⟨gs, f', none⟩ = some (.string (bs (sf f'))) := (S5.arr f' h8).1
        have zzf := (S5.arr f' h8).2
        have iig : (g' : Int) < 8 := by omega
        have jjg : (0 : Int) ≤ (g' : Int) := by omega
        have aag : w5.cell? ⟨gs, g', none⟩ = some (.string (bs (sf g'))) := (S5.arr g' h9).1
        have zzg := (S5.arr g' h9).2
        go_upto_region 16 with (first | (go_at_call 19; refine (P _).mono ?_; rintro e6 w6 ⟨rfl, rfl⟩) | fail)
        refine Plan.wp_region_tree (.rd 0 (.rd 1 (.rd 2 (.rd 3 (.rd 4 (.rd 5 (.rd 6 (.rd 7 (.rd 8 (.rd 9 (.rd 10 (.rd 11 (.rd 12 (.rd 13 (.rd 14 (.rd 15 (.rd 16 .done))))))))))))))))) (by kernel_rfl) (by kernel_rfl) ?_
        (repeat (first | (refine Plan.tree_read (v := ?_) rfl rfl ?_ ?_; rotate_left; (focus ((intro wS hSw; have hkS := (bcell hSw).1; go_simp); try with_reducible rfl)); simp only [Act.put, List.setIfInBounds_toArray, List.set_cons_zero, List.set_cons_succ]) | (refine Plan.tree_skip rfl rfl ?_; simp only [Act.put, List.setIfInBounds_toArray, List.set_cons_zero, List.set_cons_succ])))
        refine Plan.tree_done ?_
        go_upto_region 19 with fail
        obtain ⟨wd, hwd⟩ : ∃ W, W = w5.drew := ⟨_, rfl⟩
        have S6 : SafeAt w q gs (k + 1) [] wd s5 sf := by rw [hwd]; exact S5.drew
        have b1 : wd.cell? ⟨aq, 1, none⟩ = some (.int .i64 f') := by rw [hwd]; exact r1
        have b2 : wd.cell? ⟨aq, 2, none⟩ = some (.int .i64 g') := by rw [hwd]; exact r2
        have b4 : wd.cell? ⟨gs, f', none⟩ = some (.string (bs (sf f'))) := by rw [hwd]; exact aaf
        have b5 : wd.frozen? ⟨gs, f', none⟩ = false := by rw [hwd]; exact zzf
        have b8 : wd.cell? ⟨gs, g', none⟩ = some (.string (bs (sf g'))) := by rw [hwd]; exact aag
        have b6 : aq < wd.heap.size := by rw [hwd]; exact hlq
        have b7 := S6.lt
        rw [← hwd]
        clear hwd S5 H6 H5 r0 r1 r2 r3 aaf zzf aag zzg hlq hlg5
        refine Plan.wp_region_below 9 [(0, true), (1, true), (2, true), (3, true), (4, true), (5, true), (6, true), (7, true), (8, true), (9, false)] (by kernel_rfl) (by kernel_rfl) ?_
        (repeat (first | (refine Plan.plan_read (v := ?_) rfl rfl ?_ ?_; rotate_left; (focus ((intro wS hSw; have hkS := (bcell hSw).1; go_simp); try with_reducible rfl)); simp only [Act.put, List.setIfInBounds_toArray, List.set_cons_zero, List.set_cons_succ]) | (refine Plan.plan_skip rfl rfl ?_; simp only [Act.put, List.setIfInBounds_toArray, List.set_cons_zero, List.set_cons_succ])))
        (refine Plan.plan_last rfl (fun K hK => ?_); go_simp; refine hK.out _ _ ?_; clear hK K; try simp only [Act.put, List.setIfInBounds_toArray, List.set_cons_zero, List.set_cons_succ])
        have S7 := (S6.set h8 (sf g')).drew
        obtain ⟨wx, hwx⟩ : ∃ W, W = (wd.setCell ⟨gs, f', none⟩ (.string (bs (sf g')))).drew := ⟨_, rfl⟩
        have v2 : wx.cell? ⟨aq, 2, none⟩ = some (.int .i64 g') := by
          rw [hwx]; exact (World.cell?_setCell_other _ _ _ _ (fun e => hne1 (by injection e))).trans b2
        rw [← hwx] at S7 ⊢
        have v3 := (S7.arr g' h9).1
        have v4 := (S7.arr g' h9).2
        unfold strsF at v3
        clear hwx S6 b1 b2 b4 b5 b6 b7 b8
        go_upto_region 21 with fail
        have S9 := S7.set h9 []
        have e0 : bs [] = ⟨#[]⟩ := rfl
        rw [e0] at S9
        replace li := Lib.hid li
        have L9 := li
        clear e0
        obtain ⟨o9, H9⟩ := S9.has
        go_wp2_with (first | (go_at_call 17; refine (H9.down d').mono ?_; rintro fd1 xd1 ⟨rfl, rfl⟩) | fail)
        go_round
        case rel => exact ⟨k + 1, s5, _, by go_num, by omega, S9, L9.out, di5.out⟩
        case measure => simp [intOf]; omega
      case no hp h3 h4 li =>
        obtain ⟨p, hpe⟩ : ∃ p, pk dO = p := ⟨_, rfl⟩
        rw [hpe] at hp h3 h4
        simp only [hpe] at P
        have hp1 : (p == 2) = false := by rw [beq_eq_false_iff_ne]; exact hp
        have hp3 : (p == 3) = false := by rw [beq_eq_false_iff_ne]; exact h3
        have hp4 : (p == 4) = false := by rw [beq_eq_false_iff_ne]; exact h4
        go_upto_region 16 with (first | (go_at_call 19; refine (P _).mono ?_; rintro e6 w6 ⟨rfl, rfl⟩) | fail)
        refine Plan.wp_region_tree (.rd 0 (.rd 1 (.rd 2 (.rd 3 (.rd 4 (.rd 5 (.rd 6 (.rd 7 (.rd 8 (.rd 9 (.rd 10 (.rd 11 (.rd 12 (.rd 13 (.rd 14 (.rd 15 (.rd 16 .done))))))))))))))))) (by kernel_rfl) (by kernel_rfl) ?_
        (repeat (first | (refine Plan.tree_read (v := ?_) rfl rfl ?_ ?_; rotate_left; (focus ((intro wS hSw; have hkS := (bcell hSw).1; go_simp); try with_reducible rfl)); simp only [Act.put, List.setIfInBounds_toArray, List.set_cons_zero, List.set_cons_succ]) | (refine Plan.tree_skip rfl rfl ?_; simp only [Act.put, List.setIfInBounds_toArray, List.set_cons_zero, List.set_cons_succ])))
        refine Plan.tree_done ?_
        replace li := Lib.hid li
        have S9 := S5.drew
        have L9 := li
        cases up with
        | true =>
          obtain ⟨o9, H9⟩ := S9.has
          go_wp2_with fail
          go_round
          case rel => exact ⟨k + 1, s5, sf, by go_num, by omega, S9, L9.out, di5.out⟩
          case measure => simp [intOf]; omega
        | false =>
          cases d' : s5.down with
          | false =>
            obtain ⟨o9, H9⟩ := S9.has
            go_wp2_with (first | (go_at_call 17; refine (H9.down d').mono ?_; rintro fd1 xd1 ⟨rfl, rfl⟩) | fail)
            go_round
            case rel => exact ⟨k + 1, s5, sf, by go_num, by omega, S9, L9.out, di5.out⟩
            case measure => simp [intOf]; omega
          | true =>
            obtain ⟨o9, H9⟩ := S9.has
            have hcr := di5.out d'
            go_upto_region 23 with (first | (go_at_call 17; refine (H9.down d').mono ?_; rintro fd1 xd1 ⟨rfl, rfl⟩) | (go_at_call 13; refine (H9.start (show _ = DK.start s5 from rfl)).mono ?_; rintro e8 w8 ⟨rfl, H8⟩) | fail)
            have S8 := S9.go H9 H8
            clear S9 H9
            go_wp2_with fail
            go_loopw [16] (fun u16 wy => ∃ f : Nat, f ≤ 8 ∧ u16 = .int .i64 f ∧ SafeAt w q gs (k + 1) [] wy (DK.start s5) (fun j => if j < f then s5.data j else sf j)) (fun u16 _ => 8 - (intOf u16).toNat)
            case atStart => exact ⟨0, by omega, rfl, S8.congr fun j _ => by rw [if_neg (by omega)]⟩
            case round =>
              obtain ⟨fi, hf8, rfl, S10⟩ := hrel
              clear S8 H8
              obtain ⟨o10, H10⟩ := S10.has
              by_cases hfl : fi < 8
              · have hfl2 : (fi : Int) < 8 := by omega
                have hfl0 : (0 : Int) ≤ (fi : Int) := by omega
                have k1 : wr.cell? ⟨gs, fi, none⟩ = some (.string (bs (sf fi))) := by
                  have := (S10.arr fi hfl).1
                  unfold strsF at this; dsimp only at this; rwa [if_neg (Nat.lt_irrefl fi)] at this
                have k2 := (S10.arr fi hfl).2
                have RD : DK.read (DK.start s5) (fi : Nat) = (s5.data fi, 0) := read_up rfl hfl
                have KB := begins_any (s5.data fi) (sf fi) wr (L9.out.pre fi hfl)
                have S11 := (S10.set hfl (s5.data fi)).congr (sf2 := fun j => if j < fi + 1 then s5.data j else sf j) fun j _ => by
                  by_cases e : j = fi
                  · subst e; rw [upd_same, if_pos (Nat.lt_succ_self _)]
                  · rw [upd_other _ _ e]
                    by_cases e2 : j < fi
                    · rw [if_pos e2, if_pos (by omega)]
                    · rw [if_neg e2, if_neg (by omega)]
                go_wp2_with (first | (go_at_call 14; refine (H10.read (fi : Nat) RD).mono ?_; rintro e11 w11 ⟨rfl, rfl⟩) | (go_at_call 20; refine KB.mono ?_; rintro e12 w12 ⟨rfl, rfl⟩) | fail)
                go_round
                case rel => exact ⟨fi + 1, by omega, by go_num, S11⟩
                case measure => simp [intOf]; omega
              · have hfe : ¬ (fi : Int) < 8 := by omega
                have hC0 := crash_cr (s := DK.start s5) H10.ok rfl []
                have hC1 := Cr.crash hcr.start H10.ok
                go_wp2_with (first | (go_at_call 12; refine (H10.crash (keep := []) (Apart.nil w wr q none) (by decide) (by omega) (show _ = DK.crash (DK.start s5) [] from rfl)).mono ?_; rintro e13 w13 ⟨rfl, H13⟩) | fail)
                have S13 := S10.go H10 H13
                go_round
                case rel =>
                  refine ⟨k + 1, _, _, by go_num, by omega, S13, ?_, fun _ => hC0⟩
                  exact (LI.all hC0).congr (fun j hj => by show (if j < fi then s5.data j else sf j) = _; rw [if_pos (by omega), hC1 j hj]; rfl) H13.ok
                case measure => simp [intOf]; omega
      case no2 hp he li =>
        simp only [hp] at P
        have he1 : (re == 0) = false := by rw [beq_eq_false_iff_ne]; exact he
        go_upto_region 16 with (first | (go_at_call 19; refine (P _).mono ?_; rintro e6 w6 ⟨rfl, rfl⟩) | fail)
        refine Plan.wp_region_tree (.rd 0 (.rd 1 (.rd 2 (.rd 3 (.rd 4 (.rd 5 (.rd 6 (.rd 7 (.rd 8 (.rd 9 (.rd 10 (.rd 11 (.rd 12 (.rd 13 (.rd 14 (.rd 15 (.rd 16 .done))))))))))))))))) (by kernel_rfl) (by kernel_rfl) ?_
        (repeat (first | (refine Plan.tree_read (v := ?_) rfl rfl ?_ ?_; rotate_left; (focus ((intro wS hSw; have hkS := (bcell hSw).1; go_simp); try with_reducible rfl)); simp only [Act.put, List.setIfInBounds_toArray, List.set_cons_zero, List.set_cons_succ]) | (refine Plan.tree_skip rfl rfl ?_; simp only [Act.put, List.setIfInBounds_toArray, List.set_cons_zero, List.set_cons_succ])))
        refine Plan.tree_done ?_
        replace li := Lib.hid li
        have S9 := S5.drew
        have L9 := li
        cases up with
        | true =>
          obtain ⟨o9, H9⟩ := S9.has
          go_wp2_with fail
          go_round
          case rel => exact ⟨k + 1, s5, sf, by go_num, by omega, S9, L9.out, di5.out⟩
          case measure => simp [intOf]; omega
        | false =>
          cases d' : s5.down with
          | false =>
            obtain ⟨o9, H9⟩ := S9.has
            go_wp2_with (first | (go_at_call 17; refine (H9.down d').mono ?_; rintro fd1 xd1 ⟨rfl, rfl⟩) | fail)
            go_round
            case rel => exact ⟨k + 1, s5, sf, by go_num, by omega, S9, L9.out, di5.out⟩
            case measure => simp [intOf]; omega
          | true =>
            obtain ⟨o9, H9⟩ := S9.has
            have hcr := di5.out d'
            go_upto_region 23 with (first | (go_at_call 17; refine (H9.down d').mono ?_; rintro fd1 xd1 ⟨rfl, rfl⟩) | (go_at_call 13; refine (H9.start (show _ = DK.start s5 from rfl)).mono ?_; rintro e8 w8 ⟨rfl, H8⟩) | fail)
            have S8 := S9.go H9 H8
            clear S9 H9
            go_wp2_with fail
            go_loopw [16] (fun u16 wy => ∃ f : Nat, f ≤ 8 ∧ u16 = .int .i64 f ∧ SafeAt w q gs (k + 1) [] wy (DK.start s5) (fun j => if j < f then s5.data j else sf j)) (fun u16 _ => 8 - (intOf u16).toNat)
            case atStart => exact ⟨0, by omega, rfl, S8.congr fun j _ => by rw [if_neg (by omega)]⟩
            case round =>
              obtain ⟨fi, hf8, rfl, S10⟩ := hrel
              clear S8 H8
              obtain ⟨o10, H10⟩ := S10.has
              by_cases hfl : fi < 8
              · have hfl2 : (fi : Int) < 8 := by omega
                have hfl0 : (0 : Int) ≤ (fi : Int) := by omega
                have k1 : wr.cell? ⟨gs, fi, none⟩ = some (.string (bs (sf fi))) := by
                  have := (S10.arr fi hfl).1
                  unfold strsF at this; dsimp only at this; rwa [if_neg (Nat.lt_irrefl fi)] at this
                have k2 := (S10.arr fi hfl).2
                have RD : DK.read (DK.start s5) (fi : Nat) = (s5.data fi, 0) := read_up rfl hfl
                have KB := begins_any (s5.data fi) (sf fi) wr (L9.out.pre fi hfl)
                have S11 := (S10.set hfl (s5.data fi)).congr (sf2 := fun j => if j < fi + 1 then s5.data j else sf j) fun j _ => by
                  by_cases e : j = fi
                  · subst e; rw [upd_same, if_pos (Nat.lt_succ_self _)]
                  · rw [upd_other _ _ e]
                    by_cases e2 : j < fi
                    · rw [if_pos e2, if_pos (by omega)]
                    · rw [if_neg e2, if_neg (by omega)]
                go_wp2_with (first | (go_at_call 14; refine (H10.read (fi : Nat) RD).mono ?_; rintro e11 w11 ⟨rfl, rfl⟩) | (go_at_call 20; refine KB.mono ?_; rintro e12 w12 ⟨rfl, rfl⟩) | fail)
                go_round
                case rel => exact ⟨fi + 1, by omega, by go_num, S11⟩
                case measure => simp [intOf]; omega
              · have hfe : ¬ (fi : Int) < 8 := by omega
                have hC0 := crash_cr (s := DK.start s5) H10.ok rfl []
                have hC1 := Cr.crash hcr.start H10.ok
                go_wp2_with (first | (go_at_call 12; refine (H10.crash (keep := []) (Apart.nil w wr q none) (by decide) (by omega) (show _ = DK.crash (DK.start s5) [] from rfl)).mono ?_; rintro e13 w13 ⟨rfl, H13⟩) | fail)
                have S13 := S10.go H10 H13
                go_round
                case rel =>
                  refine ⟨k + 1, _, _, by go_num, by omega, S13, ?_, fun _ => hC0⟩
                  exact (LI.all hC0).congr (fun j hj => by show (if j < fi then s5.data j else sf j) = _; rw [if_pos (by omega), hC1 j hj]; rfl) H13.ok
                case measure => simp [intOf]; omega
      case no3 hp he li =>
        simp only [hp] at P
        have he1 : (re == 0) = false := by rw [beq_eq_false_iff_ne]; exact he
        go_upto_region 16 with (first | (go_at_call 19; refine (P _).mono ?_; rintro e6 w6 ⟨rfl, rfl⟩) | fail)
        refine Plan.wp_region_tree (.rd 0 (.rd 1 (.rd 2 (.rd 3 (.rd 4 (.rd 5 (.rd 6 (.rd 7 (.rd 8 (.rd 9 (.rd 10 (.rd 11 (.rd 12 (.rd 13 (.rd 14 (.rd 15 (.rd 16 .done))))))))))))))))) (by kernel_rfl) (by kernel_rfl) ?_
        (repeat (first | (refine Plan.tree_read (v := ?_) rfl rfl ?_ ?_; rotate_left; (focus ((intro wS hSw; have hkS := (bcell hSw).1; go_simp); try with_reducible rfl)); simp only [Act.put, List.setIfInBounds_toArray, List.set_cons_zero, List.set_cons_succ]) | (refine Plan.tree_skip rfl rfl ?_; simp only [Act.put, List.setIfInBounds_toArray, List.set_cons_zero, List.set_cons_succ])))
        refine Plan.tree_done ?_
        replace li := Lib.hid li
        have S9 := S5.drew
        have L9 := li
        cases up with
        | true =>
          obtain ⟨o9, H9⟩ := S9.has
          go_wp2_with fail
          go_round
          case rel => exact ⟨k + 1, s5, sf, by go_num, by omega, S9, L9.out, di5.out⟩
          case measure => simp [intOf]; omega
        | false =>
          cases d' : s5.down with
          | false =>
            obtain ⟨o9, H9⟩ := S9.has
            go_wp2_with (first | (go_at_call 17; refine (H9.down d').mono ?_; rintro fd1 xd1 ⟨rfl, rfl⟩) | fail)
            go_round
            case rel => exact ⟨k + 1, s5, sf, by go_num, by omega, S9, L9.out, di5.out⟩
            case measure => simp [intOf]; omega
          | true =>
            obtain ⟨o9, H9⟩ := S9.has
            have hcr := di5.out d'
            go_upto_region 23 with (first | (go_at_call 17; refine (H9.down d').mono ?_; rintro fd1 xd1 ⟨rfl, rfl⟩) | (go_at_call 13; refine (H9.start (show _ = DK.start s5 from rfl)).mono ?_; rintro e8 w8 ⟨rfl, H8⟩) | fail)
            have S8 := S9.go H9 H8
            clear S9 H9
            go_wp2_with fail
            go_loopw [16] (fun u16 wy => ∃ f : Nat, f ≤ 8 ∧ u16 = .int .i64 f ∧ SafeAt w q gs (k + 1) [] wy (DK.start s5) (fun j => if j < f then s5.data j else sf j)) (fun u16 _ => 8 - (intOf u16).toNat)
            case atStart => exact ⟨0, by omega, rfl, S8.congr fun j _ => by rw [if_neg (by omega)]⟩
            case round =>
              obtain ⟨fi, hf8, rfl, S10⟩ := hrel
              clear S8 H8
              obtain ⟨o10, H10⟩ := S10.has
              by_cases hfl : fi < 8
              · have hfl2 : (fi : Int) < 8 := by omega
                have hfl0 : (0 : Int) ≤ (fi : Int) := by omega
                have k1 : wr.cell? ⟨gs, fi, none⟩ = some (.string (bs (sf fi))) := by
                  have := (S10.arr fi hfl).1
                  unfold strsF at this; dsimp only at this; rwa [if_neg (Nat.lt_irrefl fi)] at this
                have k2 := (S10.arr fi hfl).2
                have RD : DK.read (DK.start s5) (fi : Nat) = (s5.data fi, 0) := read_up rfl hfl
                have KB := begins_any (s5.data fi) (sf fi) wr (L9.out.pre fi hfl)
                have S11 := (S10.set hfl (s5.data fi)).congr (sf2 := fun j => if j < fi + 1 then s5.data j else sf j) fun j _ => by
                  by_cases e : j = fi
                  · subst e; rw [upd_same, if_pos (Nat.lt_succ_self _)]
                  · rw [upd_other _ _ e]
                    by_cases e2 : j < fi
                    · rw [if_pos e2, if_pos (by omega)]
                    · rw [if_neg e2, if_neg (by omega)]
                go_wp2_with (first | (go_at_call 14; refine (H10.read (fi : Nat) RD).mono ?_; rintro e11 w11 ⟨rfl, rfl⟩) | (go_at_call 20; refine KB.mono ?_; rintro e12 w12 ⟨rfl, rfl⟩) | fail)
                go_round
                case rel => exact ⟨fi + 1, by omega, by go_num, S11⟩
                case measure => simp [intOf]; omega
              · have hfe : ¬ (fi : Int) < 8 := by omega
                have hC0 := crash_cr (s := DK.start s5) H10.ok rfl []
                have hC1 := Cr.crash hcr.start H10.ok
                go_wp2_with (first | (go_at_call 12; refine (H10.crash (keep := []) (Apart.nil w wr q none) (by decide) (by omega) (show _ = DK.crash (DK.start s5) [] from rfl)).mono ?_; rintro e13 w13 ⟨rfl, H13⟩) | fail)
                have S13 := S10.go H10 H13
                go_round
                case rel =>
                  refine ⟨k + 1, _, _, by go_num, by omega, S13, ?_, fun _ => hC0⟩
                  exact (LI.all hC0).congr (fun j hj => by show (if j < fi then s5.data j else sf j) = _; rw [if_pos (by omega), hC1 j hj]; rfl) H13.ok
                case measure => simp [intOf]; omega
      case no4 hp he li =>
        simp only [hp] at P
        have he1 : (re == 0) = false := by rw [beq_eq_false_iff_ne]; exact he
        go_upto_region 16 with (first | (go_at_call 19; refine (P _).mono ?_; rintro e6 w6 ⟨rfl, rfl⟩) | fail)
        refine Plan.wp_region_tree (.rd 0 (.rd 1 (.rd 2 (.rd 3 (.rd 4 (.rd 5 (.rd 6 (.rd 7 (.rd 8 (.rd 9 (.rd 10 (.rd 11 (.rd 12 (.rd 13 (.rd 14 (.rd 15 (.rd 16 .done))))))))))))))))) (by kernel_rfl) (by kernel_rfl) ?_
        (repeat (first | (refine Plan.tree_read (v := ?_) rfl rfl ?_ ?_; rotate_left; (focus ((intro wS hSw; have hkS := (bcell hSw).1; go_simp); try with_reducible rfl)); simp only [Act.put, List.setIfInBounds_toArray, List.set_cons_zero, List.set_cons_succ]) | (refine Plan.tree_skip rfl rfl ?_; simp only [Act.put, List.setIfInBounds_toArray, List.set_cons_zero, List.set_cons_succ])))
        refine Plan.tree_done ?_
        replace li := Lib.hid li
        have S9 := S5.drew
        have L9 := li
        cases up with
        | true =>
          obtain ⟨o9, H9⟩ := S9.has
          go_wp2_with fail
          go_round
          case rel => exact ⟨k + 1, s5, sf, by go_num, by omega, S9, L9.out, di5.out⟩
          case measure => simp [intOf]; omega
        | false =>
          cases d' : s5.down with
          | false =>
            obtain ⟨o9, H9⟩ := S9.has
            go_wp2_with (first | (go_at_call 17; refine (H9.down d').mono ?_; rintro fd1 xd1 ⟨rfl, rfl⟩) | fail)
            go_round
            case rel => exact ⟨k + 1, s5, sf, by go_num, by omega, S9, L9.out, di5.out⟩
            case measure => simp [intOf]; omega
          | true =>
            obtain ⟨o9, H9⟩ := S9.has
            have hcr := di5.out d'
            go_upto_region 23 with (first | (go_at_call 17; refine (H9.down d').mono ?_; rintro fd1 xd1 ⟨rfl, rfl⟩) | (go_at_call 13; refine (H9.start (show _ = DK.start s5 from rfl)).mono ?_; rintro e8 w8 ⟨rfl, H8⟩) | fail)
            have S8 := S9.go H9 H8
            clear S9 H9
            go_wp2_with fail
            go_loopw [16] (fun u16 wy => ∃ f : Nat, f ≤ 8 ∧ u16 = .int .i64 f ∧ SafeAt w q gs (k + 1) [] wy (DK.start s5) (fun j => if j < f then s5.data j else sf j)) (fun u16 _ => 8 - (intOf u16).toNat)
            case atStart => exact ⟨0, by omega, rfl, S8.congr fun j _ => by rw [if_neg (by omega)]⟩
            case round =>
              obtain ⟨fi, hf8, rfl, S10⟩ := hrel
              clear S8 H8
              obtain ⟨o10, H10⟩ := S10.has
              by_cases hfl : fi < 8
              · have hfl2 : (fi : Int) < 8 := by omega
                have hfl0 : (0 : Int) ≤ (fi : Int) := by omega
                have k1 : wr.cell? ⟨gs, fi, none⟩ = some (.string (bs (sf fi))) := by
                  have := (S10.arr fi hfl).1
                  unfold strsF at this; dsimp only at this; rwa [if_neg (Nat.lt_irrefl fi)] at this
                have k2 := (S10.arr fi hfl).2
                have RD : DK.read (DK.start s5) (fi : Nat) = (s5.data fi, 0) := read_up rfl hfl
                have KB := begins_any (s5.data fi) (sf fi) wr (L9.out.pre fi hfl)
                have S11 := (S10.set hfl (s5.data fi)).congr (sf2 := fun j => if j < fi + 1 then s5.data j else sf j) fun j _ => by
                  by_cases e : j = fi
                  · subst e; rw [upd_same, if_pos (Nat.lt_succ_self _)]
                  · rw [upd_other _ _ e]
                    by_cases e2 : j < fi
                    · rw [if_pos e2, if_pos (by omega)]
                    · rw [if_neg e2, if_neg (by omega)]
                go_wp2_with (first | (go_at_call 14; refine (H10.read (fi : Nat) RD).mono ?_; rintro e11 w11 ⟨rfl, rfl⟩) | (go_at_call 20; refine KB.mono ?_; rintro e12 w12 ⟨rfl, rfl⟩) | fail)
                go_round
                case rel => exact ⟨fi + 1, by omega, by go_num, S11⟩
                case measure => simp [intOf]; omega
              · have hfe : ¬ (fi : Int) < 8 := by omega
                have hC0 := crash_cr (s := DK.start s5) H10.ok rfl []
                have hC1 := Cr.crash hcr.start H10.ok
                go_wp2_with (first | (go_at_call 12; refine (H10.crash (keep := []) (Apart.nil w wr q none) (by decide) (by omega) (show _ = DK.crash (DK.start s5) [] from rfl)).mono ?_; rintro e13 w13 ⟨rfl, H13⟩) | fail)
                have S13 := S10.go H10 H13
                go_round
                case rel =>
                  refine ⟨k + 1, _, _, by go_num, by omega, S13, ?_, fun _ => hC0⟩
                  exact (LI.all hC0).congr (fun j hj => by show (if j < fi then s5.data j else sf j) = _; rw [if_pos (by omega), hC1 j hj]; rfl) H13.ok
                case measure => simp [intOf]; omega
    · have hn1 : ¬ (k : Int) < (l.length : Int) := by omega
      have hk200 : k = l.length := by omega
      obtain ⟨s1, es1⟩ : ∃ t, DK.arm s 0 [] = t := ⟨_, rfl⟩
      obtain ⟨s2, es2⟩ : ∃ t, DK.start s1 = t := ⟨_, rfl⟩
      have hs2d : s2.down = false := by rw [← es2]; rfl
      have li2 : Hid (LI s2 sf) := by show LI s2 sf; rw [← es2, ← es1]; exact ⟨hli.out.pre, hli.out.dur, hli.out.q⟩
      go_upto_region 33 with (first | (go_at_call 21; refine (H1.arm (keep := []) 0 (by omega) (Apart.nil w wr q none) (by decide) es1).mono ?_; rintro e2 w5 ⟨rfl, H2⟩) | (go_at_call 13; refine (H2.start es2).mono ?_; rintro e3 w6 ⟨rfl, H3⟩) | fail)
      have A3 := S1.arr.keep ((H2.same H3 (g := gs) (o := o1) (by simp)).trans (H1.same H2 (g := gs) (o := o1) (by simp)))
      have hlg3 : gs < w6.heap.size := (Array.getElem?_eq_some_iff.1 (H3.kept (gs, o1) (by simp))).1
      have T0 := SafeAt.made H3 9 (fun x hx => by rw [List.mem_singleton.1 hx]; show gs ≠ _; omega)
      have A4 := A3.alloc hlg3 (.cells (zeros (.string ⟨#[]⟩) 8) 9)
      clear H2 S1 H1 es1 es2 hli
      go_wp2_with fail
      obtain ⟨w7, hw7⟩ : ∃ W, W = w6.alloc (.cells (zeros (.string ⟨#[]⟩) 8) 9) := ⟨_, rfl⟩
      obtain ⟨gw, hgw⟩ : ∃ x, x = w6.heap.size := ⟨_, rfl⟩
      have hne1 : gs ≠ gw := by omega
      have hne2 : gw ≠ gs := by omega
      rw [← hw7, ← hgw] at T0
      rw [← hw7] at A4
      rw [← hw7, ← hgw]
      clear hw7 hgw hmk H3 A3
      obtain ⟨oT, HT⟩ := T0.has
      go_loopw [20] (fun u20 wy => ∃ f : Nat, f ≤ 8 ∧ u20 = .int .i64 f ∧ SafeAt w q gw k [(gs, o1)] wy s2 (fun j => if j < f then s2.data j else [])) (fun u20 _ => 8 - (intOf u20).toNat)
      case atStart => exact ⟨0, by omega, rfl, T0.congr fun j _ => by rw [if_neg (by omega)]⟩
      case round =>
        obtain ⟨fi, hf8, rfl, S10⟩ := hrel
        obtain ⟨o10, H10⟩ := S10.has
        by_cases hfl : fi < 8
        · have hfl2 : (fi : Int) < 8 := by omega
          have hfl0 : (0 : Int) ≤ (fi : Int) := by omega
          have k1 := (S10.arr fi hfl).1
          have k2 := (S10.arr fi hfl).2
          unfold strsF at k1
          dsimp only at k1
          rw [if_neg (Nat.lt_irrefl fi)] at k1
          have RD : DK.read s2 (fi : Nat) = (s2.data fi, 0) := read_up hs2d hfl
          have S11 := (S10.set hfl (s2.data fi)).congr (sf2 := fun j => if j < fi + 1 then s2.data j else []) fun j _ => by
            by_cases e : j = fi
            · subst e; rw [upd_same, if_pos (Nat.lt_succ_self _)]
            · rw [upd_other _ _ e]
              by_cases e2 : j < fi
              · rw [if_pos e2, if_pos (by omega)]
              · rw [if_neg e2, if_neg (by omega)]
          go_wp2_with (first | (go_at_call 14; refine (H10.read (fi : Nat) RD).mono ?_; rintro e11 w11 ⟨rfl, rfl⟩) | fail)
          go_round
          case rel => exact ⟨fi + 1, by omega, by go_num, S11⟩
          case measure => simp [intOf]; omega
        · have hfe : ¬ (fi : Int) < 8 := by omega
          obtain rfl : fi = 8 := by omega
          have eg := HT.same2 H10 (g := gs) (o := o1) (by simp) (by simp)
          have A5 := A4.keep eg
          obtain ⟨s3, es3⟩ : ∃ t, DK.crash s2 keep = t := ⟨_, rfl⟩
          obtain ⟨s4, es4⟩ : ∃ t, DK.start s3 = t := ⟨_, rfl⟩
          have hs4d : s4.down = false := by rw [← es4]; rfl
          have li4 : Hid (LI s4 sf) := by
            have := li2.out.crash H10.ok keep
            rw [es3] at this
            show LI s4 sf; rw [← es4]; exact ⟨this.pre, this.dur, this.q⟩
          have tr4 : Hid (∀ f, f < 8 → Torn (s4.data f) (s2.data f)) := fun f hf => by
            have := crash_torn H10.ok keep hf
            rw [es3] at this; rw [← es4]; exact this
          go_upto_region 41 with (first | (go_at_call 12; refine (H10.crash (Apart.old H10 hA) hk (by omega) es3).mono ?_; rintro e13 w13 ⟨rfl, H13⟩) | (go_at_call 13; refine (H13.start es4).mono ?_; rintro e14 w14 ⟨rfl, H14⟩) | fail)
          have eg2 := (H13.same H14 (g := gs) (o := o1) (by simp)).trans (H10.same H13 (g := gs) (o := o1) (by simp))
          have ew2 := (H13.same H14 (g := gw) (o := o10) (by simp)).trans (H10.same H13 (g := gw) (o := o10) (by simp))
          have A6 := A5.keep eg2
          have B6 := S10.arr.keep ew2
          clear H13 H10 S10 A5 A4 HT T0 eg eg2 ew2 es3 es4 li2 hdi hA
          go_wp2_with fail
          go_loopw [23] (fun u23 wy => ∃ f : Nat, f ≤ 8 ∧ u23 = .int .i64 f ∧ Has w q [(gw, o10), (gs, o1)] k wy s4) (fun u23 _ => 8 - (intOf u23).toNat)
          case atStart => exact ⟨0, by omega, rfl, H14⟩
          case round =>
            obtain ⟨fi, hf8, rfl, H15⟩ := hrel
            by_cases hfl : fi < 8
            · have hfl2 : (fi : Int) < 8 := by omega
              have hfl0 : (0 : Int) ≤ (fi : Int) := by omega
              have k1 : wr.cell? ⟨gs, fi, none⟩ = some (.string (bs (sf fi))) := (A6.keep (H14.same H15 (g := gs) (o := o1) (by simp)) fi hfl).1
              have k2 : wr.cell? ⟨gw, fi, none⟩ = some (.string (bs (s2.data fi))) := by
                have := (B6.keep (H14.same H15 (g := gw) (o := o10) (by simp)) fi hfl).1
                unfold strsF at this; dsimp only at this; rwa [if_pos hfl] at this
              have RD : DK.read s4 (fi : Nat) = (s4.data fi, 0) := read_up hs4d hfl
              have KB := begins_any (s4.data fi) (sf fi) wr (li4.out.pre fi hfl)
              have KT := torn_any (s4.data fi) (s2.data fi) wr (tr4.out fi hfl) (by have := H15.ok.len fi hfl; omega)
              go_wp2_with (first | (go_at_call 14; refine (H15.read (fi : Nat) RD).mono ?_; rintro e11 w11 ⟨rfl, rfl⟩) | (go_at_call 20; refine KB.mono ?_; rintro e12 w12 ⟨rfl, rfl⟩) | (go_at_call 22; refine KT.mono ?_; rintro e16 w16 ⟨rfl, hb16⟩) | fail)
              have H16 := H15.below_ hb16
              go_round
              case rel => exact ⟨fi + 1, by omega, by go_num, H16⟩
              case measure => simp [intOf]; omega
            · have hfe2 : ¬ (fi : Int) < 8 := by omega
              go_wp2_with fail
              go_ret
              exact ⟨rfl, H15.below⟩
end Go.Proofs.Ytfohojkclfofmaa
