/- Joined of: LA5. -/
import Derived.Test.YtminphldifncaaaDoorG07
import Derived.Test.YtminphldifncaaaDoorA10
import Derived.Test.YtminphldifncaaaDoorG09
/- AsofTells answers true for every input. (Printed by gen_la5.py.) -/
set_option linter.unusedSimpArgs false
set_option linter.unusedVariables false
namespace Go.Proofs.YtminphldifncaaaDoor
open Go.RowKit LG
attribute [local go_sem] alloc_drewN setCell_drewN shape_drewN

set_option maxRecDepth 100000 in
set_option maxHeartbeats 2000000 in
theorem tells_any (X : Bas) (pl ow : List Bts) (l : List Et) (C : Option Addr) (cc : Nat) (owner place fr un known later : Int) (w : World) (hT : Tabs w) (hX : X.l1 = ow.length) (hO : StrsAt w w.heap.size X.a1 ow) (hN : NamesAt w w.heap.size X.P pl) (hC : EntsAt w w.heap.size C l) (hl : l.length ≤ 9223372036854775807) (hpl : pl.length ≤ 9223372036854775807) (hol : ow.length ≤ 9223372036854775807)
    (hp1 : Hid (∀ x ∈ pl, x.length ≤ 9223372036854775807)) (ho1 : Hid (∀ x ∈ ow, x.length ≤ 9223372036854775807)) (hI : LitsIn l) (hRf : RefsIn l) :
    Calls Tryd.prog 5 #[.agg #[.string X.nm, .slice X.a1 X.l1 X.c1, .int .i64 X.cl, .slice X.P pl.length X.cP, .slice X.a4 X.l4 X.c4, .slice X.a5 X.l5 X.c5, .slice X.a6 X.l6 X.c6, .slice X.a7 X.l7 X.c7, .slice X.a8 X.l8 X.c8, .slice X.a9 X.l9 X.c9, .int .i64 X.er], .slice C l.length cc, .int .i64 owner, .int .i64 place, .int .i64 fr, .int .i64 un, .int .i64 known, .int .i64 later] w fun x w' => x = .returned (.bool true) ∧ Below w.heap.size w w' := by
  obtain ⟨N, hNN⟩ : ∃ N, w.heap.size = N := ⟨_, rfl⟩
  obtain ⟨W, hW⟩ : ∃ W, W = w.alloc (.cells #[.string X.nm, .slice X.a1 X.l1 X.c1, .int .i64 X.cl, .slice X.P pl.length X.cP, .slice X.a4 X.l4 X.c4, .slice X.a5 X.l5 X.c5, .slice X.a6 X.l6 X.c6, .slice X.a7 X.l7 X.c7, .slice X.a8 X.l8 X.c8, .slice X.a9 X.l9 X.c9, .int .i64 X.er] 31) := ⟨_, rfl⟩
  have hbW : Below N w W := by rw [hW, ← hNN]; exact (Below.refl _ _).alloc (Nat.le_refl _) _
  have hzW : N < W.heap.size := by rw [hW]; simp; omega
  have hbx : W.heap[N]? = some (basO X X.a1 X.l1 pl.length) := by rw [hW, ← hNN]; exact heap_alloc_new _ _
  have hTW : Tabs W := hT.below hT.size (by rw [hNN]; exact hbW) (by omega)
  have KS := Lib.hid (small_any W hTW)
  rw [hW] at KS
  have hWx := Lib.hid hW
  rw [hNN] at hO hN hC
  clear hW
  replace hX := Lib.hid hX
  have fO : ∀ wx, Below N w wx → StrsAt wx N X.a1 ow := fun wx hb => hO.below hb
  have fN : ∀ wx, Below N w wx → NamesAt wx N X.P pl := fun wx hb => hN.below hb
  have fC : ∀ wx, Below N w wx → EntsAt wx N C l := fun wx hb => hC.below hb
  go_enter Tryd.func5, Tryd.ntmps5
  go_wp2_with fail
  go_at_call 9
  refine KS.out.mono ?_
  rw [← hWx.out]
  rintro e1 w1 ⟨rfl, hb1⟩
  clear KS
  have hbx1 := (hb1.block N hzW).trans hbx
  have hb01 : Below N w w1 := hbW.trans (hb1.mono (by omega))
  obtain ⟨c0, c1, c2, c3, c4, c5, c6, c7, c8, c9, c10⟩ := basO_cells hbx1
  have z1 : N < w1.heap.size := Nat.lt_of_lt_of_le hzW hb1.size
  have KF := Lib.hid (few_any X pl ow l C cc w1 hX.out (CellsAt.more (fO _ hb01) (by omega)) (NamesAt.more (fN _ hb01) (by omega)) hl hpl hol hp1 ho1)
  unfold FewIs at KF
  go_wp2_with (first | (go_at_call 10; refine KF.out.mono ?_; rintro e2 w2 ⟨fb, rfl, hf, hb2⟩; cases fb) | fail)
  · go_ret
    exact ⟨rfl, by rw [hNN]; exact hb01.trans (hb2.mono (by omega))⟩
  have hF := hf (by first | trivial | rfl)
  clear hf KF c0 c1 c2 c3 c4 c5 c6 c7 c8 c9 c10
  have hl40 := hF.l40
  have hbx2 := (hb2.block N z1).trans hbx1
  have hb02 : Below N w w2 := hb01.trans (hb2.mono (by omega))
  have z2 : N < w2.heap.size := Nat.lt_of_lt_of_le z1 hb2.size
  have KC1 := Lib.hid (change_any l C cc owner un known later w2 (fC _ hb02) (by omega) (by omega))
  obtain ⟨Y, hY⟩ : ∃ Y, changeR l owner un known later = Y := ⟨_, rfl⟩
  have hYl : Y.length ≤ 40 := by rw [← hY]; unfold changeR; rw [insSortK_len]; exact Nat.le_trans (List.length_filter_le _ _) hl40
  have HY := Lib.hid hY
  rw [hY] at KC1
  clear hY hbx1 hbx hb1 hb2 hbW hb01 z1 hzW
  go_upto_region 6 with (first | (go_at_call 14; (with_reducible refine KC1.out.mono ?_); rintro e6 w6 ⟨CA, ca, rfl, hca, hYA, hb6⟩; have KC2 := Lib.hid (rchange_any l C cc owner un known later w6 ((fC _ (hb02.trans (hb6.mono (by omega))))) (by have := hb6.size; omega) (by omega)); rw [HY.out] at KC2) | (go_at_call 20; (with_reducible refine KC2.out.mono ?_); rintro e7 w7 ⟨CB, cb, rfl, hcb, hYB, hb7⟩; have KQ := Lib.hid (rsame_any Y Y CA CB ca cb w7 ((hYA.below hb7).more hb7.size) hYB (by omega) (by omega)); unfold SameIs at KQ; rw [show SameL Y Y = true from decide_eq_true rfl] at KQ) | (go_at_call 13; refine KQ.out.mono ?_; rintro e8 w8 ⟨rfl, nn, hw8⟩; have hb78 : Below w7.heap.size w7 w8 := (by rw [hw8]; exact below_drewN (Below.refl _ _) nn); clear hw8) | fail)
  have hb28 := hb6.trans ((hb7.trans (hb78.mono hb7.size)).mono hb6.size)
  have hb08 := hb02.trans (hb28.mono (by omega))
  have hbx8 := (hb28.block N z2).trans hbx2
  have z8 : N < w8.heap.size := Nat.lt_of_lt_of_le z2 hb28.size
  have hT8 : Tabs w8 := hT.below hT.size (by rw [hNN]; exact hb08) (by omega)
  have hpn : Hid (∀ x ∈ pl, x.length ≤ 1100000) := fun x hx => Nat.le_trans (hF.pn x hx) (by omega)
  have hon : Hid (∀ x ∈ ow, x.length ≤ 1100000) := fun x hx => Nat.le_trans (hF.on x hx) (by omega)
  clear KC1 KC2 KQ hbx2 hYA hYB hb28 hb6 hb7 hb78 hb02 z2
  obtain ⟨a1, ha1⟩ : ∃ a, account l owner place un known = a := ⟨_, rfl⟩
  obtain ⟨S, hS⟩ : ∃ s, stmtL ow pl l owner fr un known = s := ⟨_, rfl⟩
  have haa : (a1 == a1) = true := by simp
  have hss : ((bs S).toList == (bs S).toList) = true := by simp
  refine Plan.wp_region_treeS (fun wx => wx.heap[N]? = some (basO X X.a1 X.l1 pl.length)) (.rd 0 (.rd 1 (.rd 2 (.rd 3 (.rd 4 (.rd 5 (.rd 6 (.rd 7 (.rd 8 (.rd 9 (.rd 11 (.rd 12 (.rd 13 (.rd 14 (.rd 15 (.wr 10 (.wr 16 (.rd 17 (.rd 18 (.rd 19 (.rd 20 (.rd 21 (.rd 22 (.rd 23 (.rd 24 (.rd 25 (.rd 27 (.rd 28 (.rd 29 (.rd 30 (.rd 31 (.rd 32 (.wr 26 (.wr 33 (.rd 34 (.rd 35 (.rd 36 .done))))))))))))))))))))))))))))))))))))) (by kernel_rfl) (by kernel_rfl) hbx8 ?_
  (repeat (first | (refine Plan.tree_read (v := ?_) rfl rfl ?_ ?_; rotate_left; (focus ((intro wS hSw; have hSx := basO_cells hSw; go_simp); try with_reducible rfl)); simp only [Act.put, List.setIfInBounds_toArray, List.set_cons_zero, List.set_cons_succ]) | (refine Plan.tree_skip rfl rfl ?_; simp only [Act.put, List.setIfInBounds_toArray, List.set_cons_zero, List.set_cons_succ])))
  have hbd : Below w8.heap.size w8 w8.drew := (Below.refl _ _).drew
  have K1 := at_any l C cc owner place un known w8.drew (fC _ (hb08.trans (hbd.mono (by omega)))) (by show N ≤ w8.heap.size; omega) (by omega) hI
  rw [ha1] at K1
  replace K1 := Lib.hid K1
  (refine Plan.tree_write rfl (fun K hK => ?_); try go_simp)
  go_at_call 16
  refine K1.out.mono ?_
  rintro e9 w9 ⟨rfl, hb9'⟩
  have hb9 : Below w8.heap.size w8 w9 := hbd.trans hb9'
  have hbx9 := (hb9.block N z8).trans hbx8
  have hb09 := hb08.trans (hb9.mono (by omega))
  have z9 : N < w9.heap.size := Nat.lt_of_lt_of_le z8 hb9.size
  have K2 := rat_any l C cc owner place un known w9 (fC _ hb09) (by omega) (by omega) hI
  rw [ha1] at K2
  replace K2 := Lib.hid K2
  clear hb9'
  (refine hK.out _ _ (hbx9) ?_; clear hK K; try simp only [Act.put, List.setIfInBounds_toArray, List.set_cons_zero, List.set_cons_succ])
  (repeat (first | (refine Plan.tree_read (v := ?_) rfl rfl ?_ ?_; rotate_left; (focus ((intro wS hSw; have hSx := basO_cells hSw; go_simp); try with_reducible rfl)); simp only [Act.put, List.setIfInBounds_toArray, List.set_cons_zero, List.set_cons_succ]) | (refine Plan.tree_skip rfl rfl ?_; simp only [Act.put, List.setIfInBounds_toArray, List.set_cons_zero, List.set_cons_succ])))
  (refine Plan.tree_write rfl (fun K hK => ?_); try go_simp)
  go_at_call 21
  refine K2.out.mono ?_
  rintro e10 w10 ⟨rfl, hb10⟩
  have hbx10 := (hb10.block N z9).trans hbx9
  have hb010 := hb09.trans (hb10.mono (by omega))
  have z10 : N < w10.heap.size := Nat.lt_of_lt_of_le z9 hb10.size
  have K3 := stmt_any X pl ow l C cc owner fr un known w10 (hT.below hT.size (by rw [hNN]; exact hb010) (by omega)) hX.out (CellsAt.more (fO _ hb010) (by omega)) (NamesAt.more (fN _ hb010) (by omega)) ((fC _ hb010).more (by omega)) (by omega) hI hRf hpl hon hpn
  rw [hS] at K3
  replace K3 := Lib.hid K3
  (refine hK.out _ _ (hbx10) ?_; clear hK K; try simp only [Act.put, List.setIfInBounds_toArray, List.set_cons_zero, List.set_cons_succ])
  (repeat (first | (refine Plan.tree_read (v := ?_) rfl rfl ?_ ?_; rotate_left; (focus ((intro wS hSw; have hSx := basO_cells hSw; go_simp); try with_reducible rfl)); simp only [Act.put, List.setIfInBounds_toArray, List.set_cons_zero, List.set_cons_succ]) | (refine Plan.tree_skip rfl rfl ?_; simp only [Act.put, List.setIfInBounds_toArray, List.set_cons_zero, List.set_cons_succ])))
  (refine Plan.tree_write rfl (fun K hK => ?_); try go_simp)
  go_at_call 15
  refine K3.out.mono ?_
  rintro e11 w11 ⟨rfl, hb11⟩
  have hbx11 := (hb11.block N z10).trans hbx10
  have hb011 := hb010.trans (hb11.mono (by omega))
  have z11 : N < w11.heap.size := Nat.lt_of_lt_of_le z10 hb11.size
  have K4 := rstmt_any X pl ow l C cc owner fr un known w11 (hT.below hT.size (by rw [hNN]; exact hb011) (by omega)) hX.out (CellsAt.more (fO _ hb011) (by omega)) (NamesAt.more (fN _ hb011) (by omega)) ((fC _ hb011).more (by omega)) (by omega) hI hRf hpl hon hpn
  rw [hS] at K4
  replace K4 := Lib.hid K4
  (refine hK.out _ _ (hbx11) ?_; clear hK K; try simp only [Act.put, List.setIfInBounds_toArray, List.set_cons_zero, List.set_cons_succ])
  (repeat (first | (refine Plan.tree_read (v := ?_) rfl rfl ?_ ?_; rotate_left; (focus ((intro wS hSw; have hSx := basO_cells hSw; go_simp); try with_reducible rfl)); simp only [Act.put, List.setIfInBounds_toArray, List.set_cons_zero, List.set_cons_succ]) | (refine Plan.tree_skip rfl rfl ?_; simp only [Act.put, List.setIfInBounds_toArray, List.set_cons_zero, List.set_cons_succ])))
  (refine Plan.tree_write rfl (fun K hK => ?_); try go_simp)
  go_at_call 22
  refine K4.out.mono ?_
  rintro e12 w12 ⟨rfl, hb12⟩
  have hbx12 := (hb12.block N z11).trans hbx11
  have hb012 := hb011.trans (hb12.mono (by omega))
  (refine hK.out _ _ (hbx12) ?_; clear hK K; try simp only [Act.put, List.setIfInBounds_toArray, List.set_cons_zero, List.set_cons_succ])
  (repeat (first | (refine Plan.tree_read (v := ?_) rfl rfl ?_ ?_; rotate_left; (focus ((intro wS hSw; have hSx := basO_cells hSw; go_simp); try with_reducible rfl)); simp only [Act.put, List.setIfInBounds_toArray, List.set_cons_zero, List.set_cons_succ]) | (refine Plan.tree_skip rfl rfl ?_; simp only [Act.put, List.setIfInBounds_toArray, List.set_cons_zero, List.set_cons_succ])))
  refine Plan.tree_done ?_
  go_wp2_with fail
  go_ret
  exact ⟨rfl, by rw [hNN]; exact hb012⟩
end Go.Proofs.YtminphldifncaaaDoor

