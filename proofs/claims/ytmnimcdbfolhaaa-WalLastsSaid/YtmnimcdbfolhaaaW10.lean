/- The walk of Cut. -/
import Derived.Test.YtmnimcdbfolhaaaW9
set_option linter.unusedSimpArgs false
set_option linter.unusedVariables false
namespace Go.Proofs.Ytmnimcdbfolhaaa
open Go.RowKit DK
attribute [local go_sem] alloc_drewN setCell_drewN shape_drewN
set_option maxRecDepth 100000 in
set_option maxHeartbeats 4000000 in
theorem cut_any (b : Nat) (m : Dm) (s : St) (f n : Int) (w : World) (h : DiskAt w b m s) (hok : Ok s) (hq : s.q.length ≤ 1000000) (ha : s.armed ≤ 9223372036854775807) (hkl : s.keep.length ≤ 9223372036854775807) :
    Calls Try.prog 42 #[dp b, .int .i64 f, .int .i64 n] w fun e w' => e = .returned (.int .i64 (DK.cut s f n).1) ∧ ∃ m', DiskAt w' b m' (DK.cut s f n).2 ∧ Stp b m w m' w' := by
  unfold dp
  obtain ⟨w1, hw1⟩ : ∃ W, W = (w.alloc (.cells #[.int .i64 f] 3)).alloc (.cells #[.int .i64 n] 3) := ⟨_, rfl⟩
  have hb1 : Below w.heap.size w w1 := by rw [hw1]; exact (below_new w _).alloc (by simp) _
  have h1 := h.below hb1
  have hS1 : Stp b m w m w1 := Stp.of_below hb1
  have hz1 : w1.heap.size = w.heap.size + 2 := by rw [hw1]; simp
  have f1 : w1.cell? ⟨w.heap.size, 0, none⟩ = some (.int .i64 f) := by rw [hw1]; simp
  have n1 : w1.cell? ⟨w.heap.size + 1, 0, none⟩ = some (.int .i64 n) := by rw [hw1]; simp
  have nf1 : ¬ foot b m w.heap.size := fun q => by have := (h.foot_lt q).1; omega
  have nn1 : ¬ foot b m (w.heap.size + 1) := fun q => by have := (h.foot_lt q).1; omega
  have hn := h1.cn
  cases hd : s.down
  case true =>
    rw [hd] at hn
    have hr : Hid (DK.cut s f n = (9, s)) := by show _ = _; unfold DK.cut; rw [hd]; rfl
    replace h1 := Lib.hid h1
    clear hd h
    go_enter Try.func42, Try.ntmps42
    go_upto_region 1 with fail
    rw [← hw1]
    clear hw1
    go_wp2_with fail
    go_ret
    exact ⟨by rw [hr.out]; rfl, m, by rw [hr.out]; exact h1.out, hS1⟩
  case false =>
    rw [hd] at hn
    have K := interrupted_any b m s w1 h1 hok hq ha hkl
    unfold dp at K
    have hr : Hid (DK.cut s f n = if isDue s then (9, intS s) else if num f = true ∧ 0 ≤ n ∧ n ≤ (s.data f.toNat).length then (0, cutS (dueS s) f.toNat n.toNat) else (1, dueS s)) := by show _ = _; unfold DK.cut; rw [hd]; rfl
    have KN := Lib.hid (fun wx => number_any (.pointer (some ⟨b, 0, none⟩)) f wx)
    clear hd h
    cases hdd : isDue s
    case true =>
      rw [hdd] at K hr
      replace K := Lib.hid K
      clear hdd h1
      go_enter Try.func42, Try.ntmps42
      go_upto_region 1 with fail
      rw [← hw1]
      clear hw1
      go_wp2_with (go_at_call 65; (with_reducible refine K.out.mono ?_); rintro e w2 ⟨rfl, m1, hD1, hS2⟩)
      go_ret
      exact ⟨by rw [hr.out]; rfl, m1, by rw [hr.out]; exact hD1, hS1.trans hS2⟩
    case false =>
      rw [hdd, show intS s = dueS s by unfold intS; rw [hdd]; rfl] at K
      rw [hdd] at hr
      replace K := Lib.hid K
      have hokD := hok.dueS
      obtain ⟨s1, hs1⟩ : ∃ x, Hid (x = dueS s) := ⟨_, rfl⟩
      have hr1 : Hid (DK.cut s f n = if num f = true ∧ 0 ≤ n ∧ n ≤ (s1.data f.toNat).length then (0, cutS s1 f.toNat n.toNat) else (1, s1)) := by show _ = _; rw [hr.out, hs1.out]; rfl
      have hq1 : s1.q.length ≤ 1000000 := by rw [hs1.out]; exact hq
      rw [← hs1.out] at K hokD
      clear hdd hr
      go_enter Try.func42, Try.ntmps42
      go_upto_region 1 with fail
      rw [← hw1]
      clear hw1
      go_wp2_with fail
      go_at_call 65
      (with_reducible refine K.out.mono ?_)
      rintro e w2 ⟨rfl, m2, hD2, hS2⟩
      obtain ⟨f2, nf2⟩ := hS2.box h1 f1 nf1
      obtain ⟨n2, nn2⟩ := hS2.box h1 n1 nn1
      have hS := hS1.trans hS2
      have hb2 := hD2.lt
      have hzf : w.heap.size < w2.heap.size := by have := hS2.size; omega
      have hzn : w.heap.size + 1 < w2.heap.size := by have := hS2.size; omega
      replace h1 := trivial
      replace hS := Lib.hid hS
      clear f1 n1 nf1 nn1 hn hb1 hS1 hS2 K
      cases g : num f
      case false =>
        rw [g] at KN hr1
        have hr2 : Hid (DK.cut s f n = (1, s1)) := by show _ = _; rw [hr1.out]; simp
        replace hD2 := Lib.hid hD2
        clear g hr1
        go_upto_region 3 with fail
        refine Plan.wp_region_tree (.rd 0 (.rd 1 (.wr 2 (.rd 3 (.rd 4 (.rd 5 (.rd 6 (.rd 7 (.rd 8 (.rd 9 (.rd 10 (.rd 11 (.rd 12 (.rd 13 (.rd 14 (.rd 15 (.rd 16 (.rd 17 (.rd 18 (.rd 19 .done)))))))))))))))))))) (by kernel_rfl) (by kernel_rfl) ?_
        (repeat (first | (refine Plan.tree_read (v := ?_) rfl rfl ?_ ?_; rotate_left; (focus ((intro wS hSw; have hkS := (bcell hSw).1; go_simp); try with_reducible rfl)); simp only [Act.put, List.setIfInBounds_toArray, List.set_cons_zero, List.set_cons_succ]) | (refine Plan.tree_skip rfl rfl ?_; simp only [Act.put, List.setIfInBounds_toArray, List.set_cons_zero, List.set_cons_succ])))
        (refine Plan.tree_write rfl (fun K hK => ?_); try go_simp)
        go_at_call 49
        (with_reducible refine (KN.out _).mono ?_)
        rintro e w3 ⟨rfl, rfl⟩
        (refine hK.out _ _ ((Below.refl _ _).drew) ?_; clear hK K; try simp only [Act.put, List.setIfInBounds_toArray, List.set_cons_zero, List.set_cons_succ])
        (repeat (first | (refine Plan.tree_read (v := ?_) rfl rfl ?_ ?_; rotate_left; (focus ((intro wS hSw; have hkS := (bcell hSw).1; go_simp); try with_reducible rfl)); simp only [Act.put, List.setIfInBounds_toArray, List.set_cons_zero, List.set_cons_succ]) | (refine Plan.tree_skip rfl rfl ?_; simp only [Act.put, List.setIfInBounds_toArray, List.set_cons_zero, List.set_cons_succ])))
        refine Plan.tree_done ?_
        go_wp2_with fail
        go_ret
        exact ⟨by rw [hr2.out]; rfl, m2, by rw [hr2.out]; exact hD2.out.drew, hS.out.trans (Stp.of_below (Below.refl _ _).drew)⟩
      case true =>
        rw [g] at KN hr1
        have g2 := num_iff.1 g
        obtain ⟨k, rfl⟩ := Int.eq_ofNat_of_zero_le g2.1
        have hk : k < 8 := by omega
        have g3 : (0 : Int) ≤ (k : Int) ∧ (k : Int) < 8 := ⟨g2.1, g2.2⟩
        clear g
        by_cases hn0 : 0 ≤ n
        case neg =>
          have hr2 : Hid (DK.cut s (k : Int) n = (1, s1)) := by show _ = _; rw [hr1.out, if_neg (fun h => hn0 h.2.1)]
          have e1 : decide (n < 0) = true := decide_eq_true (by omega)
          replace hD2 := Lib.hid hD2
          clear hr1
          go_upto_region 3 with fail
          refine Plan.wp_region_tree (.rd 0 (.rd 1 (.wr 2 (.rd 3 (.rd 4 (.rd 5 (.rd 6 (.rd 7 (.rd 8 (.rd 9 (.rd 10 (.rd 11 (.rd 12 (.rd 13 (.rd 14 (.rd 15 (.rd 16 (.rd 17 (.rd 18 (.rd 19 .done)))))))))))))))))))) (by kernel_rfl) (by kernel_rfl) ?_
          (repeat (first | (refine Plan.tree_read (v := ?_) rfl rfl ?_ ?_; rotate_left; (focus ((intro wS hSw; have hkS := (bcell hSw).1; go_simp); try with_reducible rfl)); simp only [Act.put, List.setIfInBounds_toArray, List.set_cons_zero, List.set_cons_succ]) | (refine Plan.tree_skip rfl rfl ?_; simp only [Act.put, List.setIfInBounds_toArray, List.set_cons_zero, List.set_cons_succ])))
          (refine Plan.tree_write rfl (fun K hK => ?_); try go_simp)
          go_at_call 49
          (with_reducible refine (KN.out _).mono ?_)
          rintro e w3 ⟨rfl, rfl⟩
          (refine hK.out _ _ ((Below.refl _ _).drew) ?_; clear hK K; try simp only [Act.put, List.setIfInBounds_toArray, List.set_cons_zero, List.set_cons_succ])
          (repeat (first | (refine Plan.tree_read (v := ?_) rfl rfl ?_ ?_; rotate_left; (focus ((intro wS hSw; have hkS := (bcell hSw).1; go_simp); try with_reducible rfl)); simp only [Act.put, List.setIfInBounds_toArray, List.set_cons_zero, List.set_cons_succ]) | (refine Plan.tree_skip rfl rfl ?_; simp only [Act.put, List.setIfInBounds_toArray, List.set_cons_zero, List.set_cons_succ])))
          refine Plan.tree_done ?_
          go_wp2_with fail
          go_ret
          exact ⟨by rw [hr2.out]; rfl, m2, by rw [hr2.out]; exact hD2.out.drew, hS.out.trans (Stp.of_below (Below.refl _ _).drew)⟩
        case pos =>
          obtain ⟨nn, rfl⟩ := Int.eq_ofNat_of_zero_le hn0
          have e1 : decide ((nn : Int) < 0) = false := decide_eq_false (by omega)
          have c0 := hD2.cd k hk
          obtain ⟨X, hX⟩ : ∃ x, Hid (x = s1.data k) := ⟨_, rfl⟩
          have hlX : X.length ≤ 16777216 := by rw [hX.out]; exact hokD.len k hk
          rw [← hX.out] at c0
          by_cases hle : nn ≤ X.length
          case neg =>
            have hr2 : Hid (DK.cut s (k : Int) (nn : Int) = (1, s1)) := by show _ = _; rw [hr1.out, if_neg (fun h => hle (by have := h.2.2; rw [hX.out]; simpa using this))]
            have e2 : decide ((X.length : Int) < (nn : Int)) = true := decide_eq_true (by omega)
            have e3 : X.length < nn := by omega
            replace hD2 := Lib.hid hD2
            clear hr1 hle
            go_upto_region 3 with fail
            refine Plan.wp_region_tree (.rd 0 (.rd 1 (.wr 2 (.rd 3 (.rd 4 (.rd 5 (.rd 6 (.rd 7 (.rd 8 (.rd 9 (.rd 10 (.rd 11 (.rd 12 (.rd 13 (.rd 14 (.rd 15 (.rd 16 (.rd 17 (.rd 18 (.rd 19 .done)))))))))))))))))))) (by kernel_rfl) (by kernel_rfl) ?_
            (repeat (first | (refine Plan.tree_read (v := ?_) rfl rfl ?_ ?_; rotate_left; (focus ((intro wS hSw; have hkS := (bcell hSw).1; go_simp); try with_reducible rfl)); simp only [Act.put, List.setIfInBounds_toArray, List.set_cons_zero, List.set_cons_succ]) | (refine Plan.tree_skip rfl rfl ?_; simp only [Act.put, List.setIfInBounds_toArray, List.set_cons_zero, List.set_cons_succ])))
            (refine Plan.tree_write rfl (fun K hK => ?_); try go_simp)
            go_at_call 49
            (with_reducible refine (KN.out _).mono ?_)
            rintro e w3 ⟨rfl, rfl⟩
            (refine hK.out _ _ ((Below.refl _ _).drew) ?_; clear hK K; try simp only [Act.put, List.setIfInBounds_toArray, List.set_cons_zero, List.set_cons_succ])
            (repeat (first | (refine Plan.tree_read (v := ?_) rfl rfl ?_ ?_; rotate_left; (focus ((intro wS hSw; have hkS := (bcell hSw).1; go_simp); try with_reducible rfl)); simp only [Act.put, List.setIfInBounds_toArray, List.set_cons_zero, List.set_cons_succ]) | (refine Plan.tree_skip rfl rfl ?_; simp only [Act.put, List.setIfInBounds_toArray, List.set_cons_zero, List.set_cons_succ])))
            refine Plan.tree_done ?_
            go_wp2_with fail
            go_ret
            exact ⟨by rw [hr2.out]; rfl, m2, by rw [hr2.out]; exact hD2.out.drew, hS.out.trans (Stp.of_below (Below.refl _ _).drew)⟩
          case pos =>
            have hr2 : Hid (DK.cut s (k : Int) (nn : Int) = (0, cutS s1 k nn)) := by show _ = _; rw [hr1.out, if_pos ⟨rfl, hn0, by rw [hX.out] at hle; simpa using hle⟩]; rfl
            have e2 : decide ((X.length : Int) < (nn : Int)) = false := decide_eq_false (by omega)
            have e3 : ¬ X.length < nn := by omega
            have hu := hD2.cu k hk
            have hrd := hD2.rd k hk
            rw [← hX.out] at hrd
            replace hD2 := Lib.hid hD2
            replace hrd := Lib.hid hrd
            clear hr1
            go_upto_region 3 with fail
            refine Plan.wp_region_tree (.rd 0 (.rd 1 (.wr 2 (.rd 3 (.rd 4 (.rd 5 (.rd 6 (.rd 7 (.rd 8 (.rd 9 (.rd 10 (.rd 11 (.rd 12 (.rd 13 (.rd 14 (.rd 15 (.rd 16 (.rd 17 (.rd 18 (.rd 19 .done)))))))))))))))))))) (by kernel_rfl) (by kernel_rfl) ?_
            (repeat (first | (refine Plan.tree_read (v := ?_) rfl rfl ?_ ?_; rotate_left; (focus ((intro wS hSw; have hkS := (bcell hSw).1; go_simp); try with_reducible rfl)); simp only [Act.put, List.setIfInBounds_toArray, List.set_cons_zero, List.set_cons_succ]) | (refine Plan.tree_skip rfl rfl ?_; simp only [Act.put, List.setIfInBounds_toArray, List.set_cons_zero, List.set_cons_succ])))
            (refine Plan.tree_write rfl (fun K hK => ?_); try go_simp)
            go_at_call 49
            (with_reducible refine (KN.out _).mono ?_)
            rintro e w3 ⟨rfl, rfl⟩
            (refine hK.out _ _ ((Below.refl _ _).drew) ?_; clear hK K; try simp only [Act.put, List.setIfInBounds_toArray, List.set_cons_zero, List.set_cons_succ])
            (repeat (first | (refine Plan.tree_read (v := ?_) rfl rfl ?_ ?_; rotate_left; (focus ((intro wS hSw; have hkS := (bcell hSw).1; go_simp); try with_reducible rfl)); simp only [Act.put, List.setIfInBounds_toArray, List.set_cons_zero, List.set_cons_succ]) | (refine Plan.tree_skip rfl rfl ?_; simp only [Act.put, List.setIfInBounds_toArray, List.set_cons_zero, List.set_cons_succ])))
            refine Plan.tree_done ?_
            have hcap := owns_room hrd.out
            have e4 : (nn : Int) ≤ (m2.dc k : Int) := by omega
            have hfz := hD2.out.fz (k * 2)
            go_upto_region 5 with fail
            have hDa := hD2.out.drew
            have hSa := hS.out.trans (Stp.of_below (m := m2) (b := b) (Below.refl w2.heap.size w2).drew)
            obtain ⟨wa, hwa⟩ : ∃ x, x = w2.drew := ⟨_, rfl⟩
            rw [← hwa] at hDa hSa ⊢
            have fa : wa.cell? ⟨w.heap.size, 0, none⟩ = some (.int .i64 k) := by rw [hwa]; exact f2
            have na : wa.cell? ⟨w.heap.size + 1, 0, none⟩ = some (.int .i64 nn) := by rw [hwa]; exact n2
            have za : w.heap.size + 1 < wa.heap.size := by rw [hwa]; exact hzn
            have hba : b < wa.heap.size := by rw [hwa]; exact hb2
            have hza : w.heap.size < wa.heap.size := by omega
            clear hwa f2 n2 hzf hzn c0 hu hD2 hrd hS hfz hb2
            refine Plan.wp_region_tree (.rd 0 (.rd 1 (.rd 2 (.rd 3 (.rd 4 (.rd 5 .done)))))) (by kernel_rfl) (by kernel_rfl) ?_
            (repeat (first | (refine Plan.tree_read (v := ?_) rfl rfl ?_ ?_; rotate_left; (focus ((intro wS hSw; have hkS := (bcell hSw).1; go_simp); try with_reducible rfl)); simp only [Act.put, List.setIfInBounds_toArray, List.set_cons_zero, List.set_cons_succ]) | (refine Plan.tree_skip rfl rfl ?_; simp only [Act.put, List.setIfInBounds_toArray, List.set_cons_zero, List.set_cons_succ])))
            refine Plan.tree_done ?_
            go_upto_region 6 with fail
            obtain ⟨wb, hwb⟩ : ∃ x, x = wa.drew := ⟨_, rfl⟩
            have hDb := hDa.drew
            rw [← hwb] at hDb ⊢
            have fb : wb.cell? ⟨w.heap.size, 0, none⟩ = some (.int .i64 k) := by rw [hwb]; exact fa
            have nb : wb.cell? ⟨w.heap.size + 1, 0, none⟩ = some (.int .i64 nn) := by rw [hwb]; exact na
            have zb : w.heap.size + 1 < wb.heap.size := by rw [hwb]; exact za
            have hbb : b < wb.heap.size := by rw [hwb]; exact hba
            have hzb : w.heap.size < wb.heap.size := by omega
            have hSb := hSa.trans (Stp.of_below (m := m2) (b := b) (w' := wb) (by rw [hwb]; exact (Below.refl _ _).drew))
            have c0 := hDb.cd k hk
            have hrd := hDb.rd k hk
            have zd := hDb.fz (k * 2)
            rw [← hX.out] at c0 hrd
            replace hDb := Lib.hid hDb
            replace hSb := Lib.hid hSb
            replace hrd := Lib.hid hrd
            clear hwb fa na za hba hza hDa hSa
            refine Plan.wp_region_below 9 [(0, true), (1, true), (2, true), (3, true), (4, true), (5, true), (6, true), (7, true), (8, true), (9, false)] (by kernel_rfl) (by kernel_rfl) ?_
            (repeat (first | (refine Plan.plan_read (v := ?_) rfl rfl ?_ ?_; rotate_left; (focus ((intro wS hSw; have hkS := (bcell hSw).1; go_simp); try with_reducible rfl)); simp only [Act.put, List.setIfInBounds_toArray, List.set_cons_zero, List.set_cons_succ]) | (refine Plan.plan_skip rfl rfl ?_; simp only [Act.put, List.setIfInBounds_toArray, List.set_cons_zero, List.set_cons_succ])))
            (refine Plan.plan_last rfl (fun K hK => ?_); go_simp; refine hK.out _ _ ?_; clear hK K; try simp only [Act.put, List.setIfInBounds_toArray, List.set_cons_zero, List.set_cons_succ])
            have hDc := (DiskAt.cutData hDb.out hk (show nn ≤ (s1.data k).length by rw [← hX.out]; exact hle)).drew
            have hSc := hSb.out.trans ((stp_store m2 (k * 2) (.slice (ad (m2.dA k)) nn (m2.dc k))).trans (Stp.of_below (Below.refl _ _).drew))
            obtain ⟨wc, hwc⟩ : ∃ x, x = (wb.setCell ⟨b, k * 2, none⟩ (.slice (ad (m2.dA k)) nn (m2.dc k))).drew := ⟨_, rfl⟩
            rw [← hwc] at hDc hSc ⊢
            have nfb : b ≠ w.heap.size := fun e => nf2 (.inl e.symm)
            have nnb : b ≠ w.heap.size + 1 := fun e => nn2 (.inl e.symm)
            have fc : wc.cell? ⟨w.heap.size, 0, none⟩ = some (.int .i64 k) := by
              rw [hwc]; exact (World.cell?_setCell_other _ _ _ _ (fun e => nfb (by injection e))).trans fb
            have nc : wc.cell? ⟨w.heap.size + 1, 0, none⟩ = some (.int .i64 nn) := by
              rw [hwc]; exact (World.cell?_setCell_other _ _ _ _ (fun e => nnb (by injection e))).trans nb
            have zc : w.heap.size + 1 < wc.heap.size := by rw [hwc]; simpa using zb
            have hbc : b < wc.heap.size := by rw [hwc]; simpa using hbb
            have hzc : w.heap.size < wc.heap.size := by omega
            obtain ⟨du, hdu⟩ : ∃ x, Hid (x = s1.dur k) := ⟨_, rfl⟩
            have u0 : wc.cell? ⟨b, k * 2 + 1, none⟩ = some (.int .i64 du) := by rw [hdu.out]; exact hDc.cu k hk
            have zu := hDc.fz (k * 2 + 1)
            have e6 : (if nn < du then (nn : Int) else (du : Int)) = ((min du nn : Nat) : Int) := by split <;> omega
            have e5 : (if (nn : Int) < (du : Int) then (nn : Int) else (du : Int)) = ((min du nn : Nat) : Int) := by split <;> omega
            replace hDc := Lib.hid hDc
            replace hSc := Lib.hid hSc
            clear hwc fb nb zb hbb hzb c0 zd hDb hSb hrd
            go_upto_region 7 with fail
            refine Plan.wp_region_below 9 [(0, true), (1, true), (2, true), (3, true), (4, true), (5, true), (6, true), (7, true), (8, true), (9, false)] (by kernel_rfl) (by kernel_rfl) ?_
            (repeat (first | (refine Plan.plan_read (v := ?_) rfl rfl ?_ ?_; rotate_left; (focus ((intro wS hSw; have hkS := (bcell hSw).1; go_simp); try with_reducible rfl)); simp only [Act.put, List.setIfInBounds_toArray, List.set_cons_zero, List.set_cons_succ]) | (refine Plan.plan_skip rfl rfl ?_; simp only [Act.put, List.setIfInBounds_toArray, List.set_cons_zero, List.set_cons_succ])))
            (refine Plan.plan_last rfl (fun K hK => ?_); go_simp; refine hK.out _ _ ?_; clear hK K; try simp only [Act.put, List.setIfInBounds_toArray, List.set_cons_zero, List.set_cons_succ])
            have hDd := (DiskAt.setDur hDc.out hk (min du nn)).drew
            have hSd := hSc.out.trans ((stp_store m2 (k * 2 + 1) (.int .i64 ((min du nn : Nat) : Int))).trans (Stp.of_below (Below.refl _ _).drew))
            obtain ⟨wd, hwd⟩ : ∃ x, x = (wc.setCell ⟨b, k * 2 + 1, none⟩ (.int .i64 ((min du nn : Nat) : Int))).drew := ⟨_, rfl⟩
            rw [← hwd] at hDd hSd ⊢
            have fd : wd.cell? ⟨w.heap.size, 0, none⟩ = some (.int .i64 k) := by
              rw [hwd]; exact (World.cell?_setCell_other _ _ _ _ (fun e => nfb (by injection e))).trans fc
            have nd : wd.cell? ⟨w.heap.size + 1, 0, none⟩ = some (.int .i64 nn) := by
              rw [hwd]; exact (World.cell?_setCell_other _ _ _ _ (fun e => nnb (by injection e))).trans nc
            have zd : w.heap.size + 1 < wd.heap.size := by rw [hwd]; simpa using zc
            have hlf : some w.heap.size ≠ m2.lA := fun e => nf2 (.inr (.inr (.inl e.symm)))
            have hln : some (w.heap.size + 1) ≠ m2.lA := fun e => nn2 (.inr (.inr (.inl e.symm)))
            have hp : Pred 67 #[.pointer (some ⟨w.heap.size, 0, none⟩), .pointer (some ⟨w.heap.size + 1, 0, none⟩)] (fun p => decide (p.file = k) && decide (nn ≤ p.fr)) m2.lA wd := fun wx p hg =>
              cut1_any w.heap.size (w.heap.size + 1) k nn wx ((Plan.grown_cells hg w.heap.size 0 (by omega) hlf).trans fd) ((Plan.grown_cells hg (w.heap.size + 1) 0 zd hln).trans nd) p
            have K := Lib.hid (delete_any 67 #[.pointer (some ⟨w.heap.size, 0, none⟩), .pointer (some ⟨w.heap.size + 1, 0, none⟩)] _ (b + 1) m2.lA m2.lc s1.q wd Try.call67 hDd.rl hq1 hp)
            have c16 := hDd.cl
            have z16 := hDd.fz 16
            have hbd := hDd.lt
            have nlb : some b ≠ m2.lA := fun e => by have := hDd.llt e.symm; omega
            obtain ⟨F, hF⟩ : ∃ F, Hid (F = s1.q.filter (fun p => !(decide (p.file = k) && decide (nn ≤ p.fr)))) := ⟨_, rfl⟩
            rw [← hF.out] at K
            have hFl : F.length ≤ 1000000 := by rw [hF.out]; exact Nat.le_trans (List.length_filter_le _ _) hq1
            obtain ⟨nq, hnq⟩ : ∃ n, Hid (n = s1.q.length) := ⟨_, rfl⟩
            replace c16 : wd.cell? ⟨b, 16, none⟩ = some (.slice (ad m2.lA) nq m2.lc) := by rw [hnq.out]; exact c16
            rw [← hnq.out] at K
            replace hDd := Lib.hid hDd
            replace hSd := Lib.hid hSd
            clear hwd fc nc zc hbc hzc u0 zu hDc hSc hp
            go_upto_region 9 with (go_at_call 66; (with_reducible refine K.out.mono ?_); rintro e we ⟨rfl, hO, hG⟩; have y := (Plan.grown_cells hG b 16 hbd nlb).trans c16; have yf := (World.frozen?_of_block (a := ⟨b, 16, none⟩) (hG.block b hbd nlb)).trans z16; replace hO := Lib.hid hO; replace hG := Lib.hid hG)
            obtain ⟨r1, r2⟩ := hDd.out.listed hG.out hO.out (.inl rfl)
            have hSe := hSd.out.trans r2
            obtain ⟨wf, hwf⟩ : ∃ W, W = we.setCell ⟨b, 16, none⟩ (.slice (ad m2.lA) F.length m2.lc) := ⟨_, rfl⟩
            rw [← hwf] at r1 hSe ⊢
            have ff : wf.cell? ⟨w.heap.size, 0, none⟩ = some (.int .i64 k) := by
              rw [hwf]; exact (World.cell?_setCell_other _ _ _ _ (fun e => nfb (by injection e))).trans ((Plan.grown_cells hG.out w.heap.size 0 (by omega) hlf).trans fd)
            have nf : wf.cell? ⟨w.heap.size + 1, 0, none⟩ = some (.int .i64 nn) := by
              rw [hwf]; exact (World.cell?_setCell_other _ _ _ _ (fun e => nnb (by injection e))).trans ((Plan.grown_cells hG.out (w.heap.size + 1) 0 zd hln).trans nd)
            have d16 := r1.cl
            have hDf : DiskAt wf b m2 { s1 with data := upd s1.data k ((s1.data k).take nn), dur := upd s1.dur k (min du nn), q := cutQ k nn F 0 } := by
              have e : cutQ k nn F 0 = F := by unfold cutQ; simp
              rw [e]; exact r1
            obtain ⟨ff8, hff8⟩ : ∃ n, Hid (n = F.length) := ⟨_, rfl⟩
            replace d16 : wf.cell? ⟨b, 16, none⟩ = some (.slice (ad m2.lA) ff8 m2.lc) := by rw [hff8.out]; exact d16
            replace hFl : ff8 ≤ 1000000 := by rw [hff8.out]; exact hFl
            replace hDf := Lib.hid hDf
            replace hSe := Lib.hid hSe
            clear K c16 z16 fd nd zd hO hG y yf hDd hSd r1 r2 hwf
            go_wp2_with fail
            go_loopw [75] (fun i wr => ∃ j : Nat, j ≤ ff8 ∧ i = .int .i64 j ∧ DiskAt wr b m2 { s1 with data := upd s1.data k ((s1.data k).take nn), dur := upd s1.dur k (min du nn), q := cutQ k nn F j } ∧ wr.cell? ⟨w.heap.size, 0, none⟩ = some (.int .i64 k) ∧ wr.cell? ⟨w.heap.size + 1, 0, none⟩ = some (.int .i64 nn) ∧ Stp b m2 wf m2 wr) (fun i _ => ff8 - (intOf i).toNat)
            case atStart => exact ⟨0, Nat.zero_le _, rfl, hDf.out, ff, nf, Stp.refl _ _ _⟩
            case round =>
              clear ff nf d16
              obtain ⟨j, hj, rfl, hD, fr, nr, hSr⟩ := hrel
              have hfl : w.heap.size < wr.heap.size := World.block_lt_of_cell? wr ⟨w.heap.size, 0, none⟩ fr
              have hnl : w.heap.size + 1 < wr.heap.size := World.block_lt_of_cell? wr ⟨w.heap.size + 1, 0, none⟩ nr
              by_cases hlt : j < ff8
              · obtain ⟨p, hp⟩ : ∃ p, F[j]? = some p := ⟨_, List.getElem?_eq_getElem (by have := hff8.out; omega)⟩
                have hcq := cutQ_at (f := k) (n := nn) hp
                obtain ⟨g, hg, hg1, hg2, p0, p1, p2⟩ := hD.pend hcq
                have hjI : (0 : Int) ≤ (j : Int) ∧ (j : Int) < (ff8 : Int) := by omega
                obtain ⟨fi, hfi⟩ : ∃ x, Hid (x = p.file) := ⟨_, rfl⟩
                obtain ⟨un, hun⟩ : ∃ x, Hid (x = p.un) := ⟨_, rfl⟩
                rw [← hfi.out] at p0
                rw [← hun.out] at p2
                have hlA : ad m2.lA = some ⟨g, 0, none⟩ := by rw [hg]; rfl
                rw [hlA]
                have hbr := hD.lt
                have l16 : wr.cell? ⟨b, 16, none⟩ = some (.slice (some ⟨g, 0, none⟩) ff8 m2.lc) := by
                  have := hD.cl
                  rw [hlA] at this
                  rw [this, hff8.out, ← cutQ_len k nn F j]
                have hg9 := Lib.hid hg
                have hlA9 := Lib.hid hlA
                have hp9 := Lib.hid hp
                replace hD := Lib.hid hD
                replace hSr := Lib.hid hSr
                clear hg hp hcq hlA
                go_upto_region 12 with fail
                obtain ⟨ws, hws⟩ : ∃ W, W = wr.alloc (.cells #[.int .i64 fi, .int .i64 p.fr, .int .i64 un] 94) := ⟨_, rfl⟩
                rw [← hws]
                have hBs : Below wr.heap.size wr ws := by rw [hws]; exact below_new _ _
                have x0 : ws.cell? ⟨wr.heap.size, 0, none⟩ = some (.int .i64 fi) := by rw [hws]; simp
                have x2 : ws.cell? ⟨wr.heap.size, 2, none⟩ = some (.int .i64 un) := by rw [hws]; simp
                have fs : ws.cell? ⟨w.heap.size, 0, none⟩ = some (.int .i64 k) := (hBs.cell (p := ⟨w.heap.size, 0, none⟩) hfl).trans fr
                have ns : ws.cell? ⟨w.heap.size + 1, 0, none⟩ = some (.int .i64 nn) := (hBs.cell (p := ⟨w.heap.size + 1, 0, none⟩) hnl).trans nr
                have l16 : ws.cell? ⟨b, 16, none⟩ = some (.slice (some ⟨g, 0, none⟩) ff8 m2.lc) := (hBs.cell (p := ⟨b, 16, none⟩) hbr).trans l16
                have hDs := hD.out.below hBs
                have hzs : wr.heap.size < ws.heap.size := by rw [hws]; simp
                have hSs := hSr.out.trans (Stp.of_below (b := b) (m := m2) hBs)
                clear hws p0 p1 p2 fr nr
                by_cases hfk : fi = k
                · obtain rfl := hfk
                  have eq1 : ((fi : Int) == (fi : Int)) = true := by simp
                  have hgs : g < ws.heap.size := by omega
                  have hbs : b < ws.heap.size := by omega
                  have hfs : w.heap.size < ws.heap.size := by omega
                  have hns : w.heap.size + 1 < ws.heap.size := by omega
                  have e8 : (if nn < un then (nn : Int) else (un : Int)) = ((min un nn : Nat) : Int) := by split <;> omega
                  have e7 : (if (nn : Int) < (un : Int) then (nn : Int) else (un : Int)) = ((min un nn : Nat) : Int) := by split <;> omega
                  obtain ⟨g', hg', _, _, y0, y1, y2⟩ := hDs.pend (cutQ_at (f := fi) (n := nn) hp9.out)
                  obtain rfl : g = g' := by rw [hg9.out] at hg'; exact Option.some.inj hg'
                  have row := hDs.rl
                  rw [hlA9.out] at row
                  have yf := row.frozenAt (j * 3 + 2)
                  have st := row.stored (j * 3 + 2) (.int .i64 ((min un nn : Nat) : Int))
                  rw [rowPd_un _ j p (min un nn) (cutQ_at hp9.out)] at st
                  replace st := Lib.hid st
                  replace hDs := Lib.hid hDs
                  replace hSs := Lib.hid hSs
                  clear hg' y0 y1 row hBs
                  go_upto_region 13 with fail
                  refine Plan.wp_region_below 11 [(0, true), (1, true), (2, true), (3, true), (4, true), (5, true), (6, true), (7, true), (8, true), (9, true), (10, true), (11, false)] (by kernel_rfl) (by kernel_rfl) ?_
                  (repeat (first | (refine Plan.plan_read (v := ?_) rfl rfl ?_ ?_; rotate_left; (focus ((intro wS hSw; have hkS := (bcell hSw).1; go_simp); try with_reducible rfl)); simp only [Act.put, List.setIfInBounds_toArray, List.set_cons_zero, List.set_cons_succ]) | (refine Plan.plan_skip rfl rfl ?_; simp only [Act.put, List.setIfInBounds_toArray, List.set_cons_zero, List.set_cons_succ])))
                  (refine Plan.plan_last rfl (fun K hK => ?_); go_simp; refine hK.out _ _ ?_; clear hK K; try simp only [Act.put, List.setIfInBounds_toArray, List.set_cons_zero, List.set_cons_succ])
                  have hql : ((cutQ fi nn F j).set j { p with un := min un nn }).length = (cutQ fi nn F j).length := List.length_set
                  have hDn := DiskAt.drew (DiskAt.pokeList hDs.out (w' := ws.setCell ⟨g, j * 3 + 2, none⟩ (.int .i64 ((min un nn : Nat) : Int))) (q := (cutQ fi nn F j).set j { p with un := min un nn }) (by rw [hg9.out]; exact st.out.2) hql (by rw [hql, hlA9.out]; exact st.out.1))
                  have hSn := (hSs.out.trans (Stp.row (b := b) (m := m2) (by rw [hg9.out]; exact st.out.2))).trans (Stp.of_below (b := b) (m := m2) (Below.refl _ _).drew)
                  have hlf2 : some w.heap.size ≠ some g := by rw [← hg9.out]; exact hlf
                  have hln2 : some (w.heap.size + 1) ≠ some g := by rw [← hg9.out]; exact hln
                  have fs2 := (Plan.grown_cells st.out.2 w.heap.size 0 hfs hlf2).trans fs
                  have ns2 := (Plan.grown_cells st.out.2 (w.heap.size + 1) 0 hns hln2).trans ns
                  have hcp : cutP fi nn p = { p with un := min un nn } := by unfold cutP; rw [if_pos hfi.out.symm, hun.out]
                  replace hDn := Lib.hid hDn
                  replace hSn := Lib.hid hSn
                  replace fs2 := Lib.hid fs2
                  replace ns2 := Lib.hid ns2
                  replace hcp := Lib.hid hcp
                  clear hql hlf2 hln2 fs ns x0 x2 l16 y2 yf
                  go_wp2_with fail
                  go_roundw
                  case rel => exact ⟨j + 1, by omega, by go_num, by rw [cutQ_next hp9.out, hcp.out]; exact hDn.out, fs2.out, ns2.out, hSn.out⟩
                  case measure => simp [intOf]; omega
                · have eq1 : ((fi : Int) == (k : Int)) = false := by rw [beq_eq_false_iff_ne]; omega
                  have hne : ¬ (fi : Int) = (k : Int) := by omega
                  replace hDs := Lib.hid hDs
                  replace hSs := Lib.hid hSs
                  go_wp2_with fail
                  go_roundw
                  case rel => exact ⟨j + 1, by omega, by go_num, by rw [cutQ_same hp9.out (by rw [← hfi.out]; exact hfk)]; exact hDs.out, fs, ns, hSs.out⟩
                  case measure => simp [intOf]; omega
              · obtain rfl : j = ff8 := by omega
                replace hD := Lib.hid hD
                replace hSr := Lib.hid hSr
                go_wp2_with fail
                go_ret
                refine ⟨by rw [hr2.out]; rfl, m2, ?_, hSe.out.trans hSr.out⟩
                rw [hr2.out]
                have e : cutQ k nn F j = F.map (cutP k nn) := by unfold cutQ; rw [hff8.out, List.take_length, List.drop_length, List.append_nil]
                have := hD.out
                rw [e, hF.out, hdu.out] at this
                exact this
end Go.Proofs.Ytmnimcdbfolhaaa
