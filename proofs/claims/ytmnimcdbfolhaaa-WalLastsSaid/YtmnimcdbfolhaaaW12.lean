/- The walk of Turn. -/
import Derived.Test.YtmnimcdbfolhaaaW11
set_option linter.unusedSimpArgs false
set_option linter.unusedVariables false
namespace Go.Proofs.Ytmnimcdbfolhaaa
open Go.RowKit DK
attribute [local go_sem] alloc_drewN setCell_drewN shape_drewN
set_option maxRecDepth 100000 in
set_option maxHeartbeats 4000000 in
theorem turn_any (b : Nat) (m : Dm) (s : St) (f g : Int) (w : World) (h : DiskAt w b m s) (hok : Ok s) (hq : s.q.length ≤ 1000000) (ha : s.armed ≤ 9223372036854775807) (hkl : s.keep.length ≤ 9223372036854775807) :
    Calls Try.prog 47 #[dp b, .int .i64 f, .int .i64 g] w fun e w' => e = .returned (.int .i64 (DK.turn s f g).1) ∧ ∃ m', DiskAt w' b m' (DK.turn s f g).2 ∧ Stp b m w m' w' := by
  unfold dp
  obtain ⟨w1, hw1⟩ : ∃ W, W = w.alloc (.cells #[.int .i64 g] 3) := ⟨_, rfl⟩
  have hb1 : Below w.heap.size w w1 := by rw [hw1]; exact below_new w _
  have h1 := h.below hb1
  have hS1 : Stp b m w m w1 := Stp.of_below hb1
  have hz1 : w1.heap.size = w.heap.size + 1 := by rw [hw1]; simp
  have g1 : w1.cell? ⟨w.heap.size, 0, none⟩ = some (.int .i64 g) := by rw [hw1]; simp
  have ng1 : ¬ foot b m w.heap.size := fun q => by have := (h.foot_lt q).1; omega
  have hn := h1.cn
  cases hd : s.down
  case true =>
    rw [hd] at hn
    have hr : Hid (DK.turn s f g = (9, s)) := by show _ = _; unfold DK.turn; rw [hd]; rfl
    replace h1 := Lib.hid h1
    clear hd h
    go_enter Try.func47, Try.ntmps47
    go_upto_region 1 with fail
    rw [← hw1]
    clear hw1
    go_wp2_with fail
    go_ret
    exact ⟨by rw [hr.out]; rfl, m, by rw [hr.out]; exact h1.out, hS1⟩
  case false =>
    rw [hd] at hn
    have K := interrupted_any b m s w1 h1 hok hq ha hkl
    unfold dp at K
    have hr : Hid (DK.turn s f g = if isDue s then (9, intS s) else if num f = true ∧ num g = true ∧ f ≠ g then (if s.q.any (fun p => decide (p.file = g.toNat)) then (10, dueS s) else (0, turnS (dueS s) f.toNat g.toNat)) else (1, dueS s)) := by show _ = _; unfold DK.turn; rw [hd]; rfl
    have KF := Lib.hid (fun wx => number_any (.pointer (some ⟨b, 0, none⟩)) f wx)
    have KG := Lib.hid (fun wx => number_any (.pointer (some ⟨b, 0, none⟩)) g wx)
    clear hd h
    cases hdd : isDue s
    case true =>
      rw [hdd] at K hr
      replace K := Lib.hid K
      clear hdd h1
      go_enter Try.func47, Try.ntmps47
      go_upto_region 1 with fail
      rw [← hw1]
      clear hw1
      go_wp2_with (go_at_call 65; (with_reducible refine K.out.mono ?_); rintro e w2 ⟨rfl, m1, hD1, hS2⟩)
      go_ret
      exact ⟨by rw [hr.out]; rfl, m1, by rw [hr.out]; exact hD1, hS1.trans hS2⟩
    case false =>
      rw [hdd, show intS s = dueS s by unfold intS; rw [hdd]; rfl] at K
      rw [hdd] at hr
      replace K := Lib.hid K
      have hokD := hok.dueS
      obtain ⟨s1, hs1⟩ : ∃ x, Hid (x = dueS s) := ⟨_, rfl⟩
      have hr1 : Hid (DK.turn s f g = if num f = true ∧ num g = true ∧ f ≠ g then (if s1.q.any (fun p => decide (p.file = g.toNat)) then (10, s1) else (0, turnS s1 f.toNat g.toNat)) else (1, s1)) := by show _ = _; rw [hr.out, hs1.out]; rfl
      have hq1 : s1.q.length ≤ 1000000 := by rw [hs1.out]; exact hq
      rw [← hs1.out] at K hokD
      clear hdd hr
      go_enter Try.func47, Try.ntmps47
      go_upto_region 1 with fail
      rw [← hw1]
      clear hw1
      go_wp2_with fail
      go_at_call 65
      (with_reducible refine K.out.mono ?_)
      rintro e w2 ⟨rfl, m2, hD2, hS2⟩
      obtain ⟨f2, nf2⟩ := hS2.box h1 g1 ng1
      have hS := hS1.trans hS2
      have hb2 := hD2.lt
      have hzf : w.heap.size < w2.heap.size := by have := hS2.size; omega
      replace h1 := trivial
      replace hS := Lib.hid hS
      clear g1 ng1 hn hb1 hS1 hS2 K
      cases gf : num f
      case false =>
        rw [gf] at KF hr1
        have hr2 : Hid (DK.turn s f g = (1, s1)) := by show _ = _; rw [hr1.out]; simp
        replace hD2 := Lib.hid hD2
        clear gf hr1
        go_wp2_with (go_at_call 49; (with_reducible refine (KF.out _).mono ?_); rintro e w3 ⟨rfl, rfl⟩)
        go_ret
        exact ⟨by rw [hr2.out]; rfl, m2, by rw [hr2.out]; exact hD2.out, hS.out⟩
      case true =>
      rw [gf] at KF hr1
      cases gg : num g
      case false =>
        rw [gg] at KG hr1
        have hr2 : Hid (DK.turn s f g = (1, s1)) := by show _ = _; rw [hr1.out]; simp
        replace hD2 := Lib.hid hD2
        clear gf gg hr1
        go_wp2_with (first | (go_at_call 49; (with_reducible refine (KF.out _).mono ?_); rintro e w3 ⟨rfl, rfl⟩) | (go_at_call 49; (with_reducible refine (KG.out _).mono ?_); rintro e w3 ⟨rfl, rfl⟩) | fail)
        go_ret
        exact ⟨by rw [hr2.out]; rfl, m2, by rw [hr2.out]; exact hD2.out, hS.out⟩
      case true =>
      rw [gg] at KG hr1
      have f9 := num_iff.1 gf
      have g9 := num_iff.1 gg
      obtain ⟨k, rfl⟩ := Int.eq_ofNat_of_zero_le f9.1
      obtain ⟨j, rfl⟩ := Int.eq_ofNat_of_zero_le g9.1
      have hk : k < 8 := by omega
      have hj : j < 8 := by omega
      have k3 : (0 : Int) ≤ (k : Int) ∧ (k : Int) < 8 := f9
      have j3 : (0 : Int) ≤ (j : Int) ∧ (j : Int) < 8 := g9
      clear gf gg
      by_cases hkj : k = j
      case pos =>
        have hr2 : Hid (DK.turn s (k : Int) (j : Int) = (1, s1)) := by show _ = _; rw [hr1.out, if_neg (fun h => h.2.2 (by rw [hkj]))]
        have e1 : ((k : Int) == (j : Int)) = true := by rw [beq_iff_eq, hkj]
        replace hD2 := Lib.hid hD2
        clear hr1 hkj
        go_wp2_with (first | (go_at_call 49; (with_reducible refine (KF.out _).mono ?_); rintro e w3 ⟨rfl, rfl⟩) | (go_at_call 49; (with_reducible refine (KG.out _).mono ?_); rintro e w3 ⟨rfl, rfl⟩) | fail)
        go_ret
        exact ⟨by rw [hr2.out]; rfl, m2, by rw [hr2.out]; exact hD2.out, hS.out⟩
      case neg =>
        have hr2 : Hid (DK.turn s (k : Int) (j : Int) = if s1.q.any (fun p => decide (p.file = j)) then (10, s1) else (0, turnS s1 k j)) := by show _ = _; rw [hr1.out, if_pos ⟨rfl, rfl, by omega⟩]; rfl
        have e1 : ((k : Int) == (j : Int)) = false := by rw [beq_eq_false_iff_ne]; omega
        have e2 : ¬ (k : Int) = (j : Int) := by omega
        have hkj := Lib.hid hkj
        have c16 := hD2.cl
        obtain ⟨nq, hnq⟩ : ∃ n, Hid (n = s1.q.length) := ⟨_, rfl⟩
        replace c16 : w2.cell? ⟨b, 16, none⟩ = some (.slice (ad m2.lA) nq m2.lc) := by rw [hnq.out]; exact c16
        have hp : Pred 72 #[.pointer (some ⟨w.heap.size, 0, none⟩)] (fun p => decide (p.file = j)) none w2 := fun wx p hg =>
          turn1_any w.heap.size j wx ((Plan.grown_cells hg w.heap.size 0 hzf (by simp)).trans f2) p
        have K := Lib.hid (contains_any 72 #[.pointer (some ⟨w.heap.size, 0, none⟩)] _ (b + 1) m2.lA m2.lc s1.q w2 Try.call72 hD2.rl hq1 hp)
        rw [← hnq.out] at K
        clear hr1
        cases hany : s1.q.any (fun p => decide (p.file = j))
        case true =>
          rw [hany] at K hr2
          replace hD2 := Lib.hid hD2
          clear hany hp
          go_wp2_with (first | (go_at_call 49; (with_reducible refine (KF.out _).mono ?_); rintro e w3 ⟨rfl, rfl⟩) | (go_at_call 49; (with_reducible refine (KG.out _).mono ?_); rintro e w3 ⟨rfl, rfl⟩) | (go_at_call 71; (with_reducible refine K.out.mono ?_); rintro e w3 ⟨rfl, hb3⟩) | fail)
          go_ret
          exact ⟨by rw [hr2.out]; rfl, m2, by rw [hr2.out]; exact hD2.out.below hb3, hS.out.trans (Stp.of_below hb3)⟩
        case false =>
          rw [hany] at K hr2
          have KS := fun wx (hb : Below w2.heap.size w2 wx) => settle_any b m2 s1 k wx (hD2.below hb) hq1
          unfold dp at KS
          replace KS := Lib.hid KS
          replace hD2 := Lib.hid hD2
          clear hany hp
          go_wp2_with (first | (go_at_call 49; (with_reducible refine (KF.out _).mono ?_); rintro e w3 ⟨rfl, rfl⟩) | (go_at_call 49; (with_reducible refine (KG.out _).mono ?_); rintro e w3 ⟨rfl, rfl⟩) | fail)
          go_at_call 71
          (with_reducible refine K.out.mono ?_)
          rintro e w3 ⟨rfl, hb3⟩
          have hS3 := hS.out.trans (Stp.of_below (b := b) (m := m2) hb3)
          have hD3 := hD2.out.below hb3
          have f3 := (hb3.cell (p := ⟨w.heap.size, 0, none⟩) hzf).trans f2
          replace KS := Lib.hid (KS.out _ hb3)
          replace hD3 := Lib.hid hD3
          replace f3 := Lib.hid f3
          clear K hb3 c16 f2
          go_wp2_with fail
          go_at_call 68
          (with_reducible refine KS.out.mono ?_)
          rintro e w4 ⟨rfl, m4, hD4, hS4⟩
          obtain ⟨f4, nf4⟩ := hS4.box hD3.out f3.out nf2
          have hSS := hS3.trans hS4
          have hz4 : w.heap.size < w4.heap.size := World.block_lt_of_cell? w4 ⟨w.heap.size, 0, none⟩ f4
          have hb4 := hD4.lt
          have a0 := hD4.cd j hj
          have a1 := hD4.cu j hj
          have a2 := hD4.cd k hk
          have a3 := hD4.cu k hk
          have z2 := hD4.fz (k * 2)
          have z3 := hD4.fz (k * 2 + 1)
          obtain ⟨L, hL⟩ : ∃ n, Hid (n = (s1.data j).length) := ⟨_, rfl⟩
          obtain ⟨du, hdu⟩ : ∃ n, Hid (n = s1.dur j) := ⟨_, rfl⟩
          replace a0 : w4.cell? ⟨b, j * 2, none⟩ = some (.slice (ad (m4.dA j)) L (m4.dc j)) := by rw [hL.out]; exact a0
          replace a1 : w4.cell? ⟨b, j * 2 + 1, none⟩ = some (.int .i64 du) := by rw [hdu.out]; exact a1
          replace hD4 := Lib.hid hD4
          replace hSS := Lib.hid hSS
          clear KS hS3 hD3 f3 hS4
          go_upto_region 8 with fail
          refine Plan.wp_region_below 11 [(0, true), (1, true), (2, true), (3, true), (4, true), (5, true), (6, true), (7, true), (8, true), (9, true), (10, true), (11, false)] (by kernel_rfl) (by kernel_rfl) ?_
          (repeat (first | (refine Plan.plan_read (v := ?_) rfl rfl ?_ ?_; rotate_left; (focus ((intro wS hSw; have hkS := (bcell hSw).1; go_simp); try with_reducible rfl)); simp only [Act.put, List.setIfInBounds_toArray, List.set_cons_zero, List.set_cons_succ]) | (refine Plan.plan_skip rfl rfl ?_; simp only [Act.put, List.setIfInBounds_toArray, List.set_cons_zero, List.set_cons_succ])))
          (refine Plan.plan_last rfl (fun K hK => ?_); go_simp; refine hK.out _ _ ?_; clear hK K; try simp only [Act.put, List.setIfInBounds_toArray, List.set_cons_zero, List.set_cons_succ])
          have R1 := rest_store (k * 2) a2 (.slice (ad (m4.dA j)) L (m4.dc j))
          have a3' := (R1.other (k * 2 + 1) (by omega)).trans a3
          have R2 := (rest_store (k * 2 + 1) a3' (.int .i64 du)).drew
          obtain ⟨w5, hw5⟩ : ∃ W, W = ((w4.setCell ⟨b, k * 2, none⟩ (.slice (ad (m4.dA j)) L (m4.dc j))).setCell ⟨b, k * 2 + 1, none⟩ (.int .i64 du)).drew := ⟨_, rfl⟩
          rw [← hw5] at R2 ⊢
          have nfb : b ≠ w.heap.size := fun e => nf4 (.inl e.symm)
          have f5 : w5.cell? ⟨w.heap.size, 0, none⟩ = some (.int .i64 j) := (World.cell?_of_block (a := ⟨w.heap.size, 0, none⟩) ((R2.heap _ (Ne.symm nfb)).trans (R1.heap _ (Ne.symm nfb)))).trans f4
          have b0 : w5.cell? ⟨b, j * 2, none⟩ = some (.slice (ad (m4.dA j)) L (m4.dc j)) := by
            have := hkj.out
            exact (R2.other _ (by omega)).trans ((R1.other _ (by omega)).trans a0)
          have b1 : w5.cell? ⟨b, j * 2 + 1, none⟩ = some (.int .i64 du) := by
            have := hkj.out
            exact (R2.other _ (by omega)).trans ((R1.other _ (by omega)).trans a1)
          have y0 : w5.frozen? ⟨b, j * 2, none⟩ = false := (R2.fz _).trans ((R1.fz _).trans (hD4.out.fz _))
          have y1 : w5.frozen? ⟨b, j * 2 + 1, none⟩ = false := (R2.fz _).trans ((R1.fz _).trans (hD4.out.fz _))
          have hz5 : w.heap.size < w5.heap.size := by rw [R2.size, R1.size]; exact hz4
          have hb5 : b < w5.heap.size := by rw [R2.size, R1.size]; exact hb4
          have hos : Hid (w5.os = w4.os ∧ w5.tape = w4.tape ∧ w5.output = w4.output) := by rw [hw5]; exact ⟨rfl, rfl, rfl⟩
          replace R1 := Lib.hid R1
          replace R2 := Lib.hid R2
          clear hw5 a0 a1 a2 a3 a3' z2 z3 f4
          go_upto_region 9 with fail
          refine Plan.wp_region_below 6 [(0, true), (1, true), (2, true), (3, true), (4, true), (5, true), (6, false)] (by kernel_rfl) (by kernel_rfl) ?_
          (repeat (first | (refine Plan.plan_read (v := ?_) rfl rfl ?_ ?_; rotate_left; (focus ((intro wS hSw; have hkS := (bcell hSw).1; go_simp); try with_reducible rfl)); simp only [Act.put, List.setIfInBounds_toArray, List.set_cons_zero, List.set_cons_succ]) | (refine Plan.plan_skip rfl rfl ?_; simp only [Act.put, List.setIfInBounds_toArray, List.set_cons_zero, List.set_cons_succ])))
          (refine Plan.plan_last rfl (fun K hK => ?_); go_simp; refine hK.out _ _ ?_; clear hK K; try simp only [Act.put, List.setIfInBounds_toArray, List.set_cons_zero, List.set_cons_succ])
          have R3 := rest_store (j * 2) b0 (.slice none 0 0)
          have b1' := (R3.other (j * 2 + 1) (by omega)).trans b1
          have R4 := (rest_store (j * 2 + 1) b1' (.int .i64 0)).drew
          obtain rfl := hL.out
          obtain rfl := hdu.out
          have hT := DiskAt.turned hD4.out hk hj hkj.out R1.out R2.out R3 R4
          have hTS := Stp.turned (f := k) (g := j) hD4.out hk hj R1.out R2.out R3 R4 hos.out.1 hos.out.2.1 hos.out.2.2
          replace hT := Lib.hid hT
          replace hTS := Lib.hid hTS
          clear R3 R4 b1' b0 b1 y0 y1
          go_wp2_with fail
          go_ret
          exact ⟨by rw [hr2.out]; rfl, _, by rw [hr2.out]; exact hT.out, hSS.out.trans hTS.out⟩
end Go.Proofs.Ytmnimcdbfolhaaa
