/- Joined of: LA4. -/
import Derived.Test.YtminphldifncaaaDoorG07
/- AsofStays answers true for every input. (Printed by gen_la4.py.) -/
set_option linter.unusedSimpArgs false
set_option linter.unusedVariables false
namespace Go.Proofs.YtminphldifncaaaDoor
open Go.RowKit LG
attribute [local go_sem] alloc_drewN setCell_drewN shape_drewN

set_option maxRecDepth 100000 in
set_option maxHeartbeats 2000000 in
theorem stays_any (X : Bas) (pl ow : List Bts) (l : List Et) (C : Option Addr) (cc : Nat) (e : Et) (owner fr un known : Int) (w : World) (hT : Tabs w) (hX : X.l1 = ow.length) (hO : StrsAt w w.heap.size X.a1 ow) (hN : NamesAt w w.heap.size X.P pl) (hC : EntsAt w w.heap.size C l) (hl : l.length ≤ 9223372036854775807) (hpl : pl.length ≤ 9223372036854775807) (hol : ow.length ≤ 9223372036854775807)
    (hp1 : Hid (∀ x ∈ pl, x.length ≤ 9223372036854775807)) (ho1 : Hid (∀ x ∈ ow, x.length ≤ 9223372036854775807)) (hI : LitsIn l) (hRf : RefsIn l) (hIe : LitsIn [e]) (hRe : RefsIn [e]) :
    Calls Tryd.prog 3 #[.agg #[.string X.nm, .slice X.a1 X.l1 X.c1, .int .i64 X.cl, .slice X.P pl.length X.cP, .slice X.a4 X.l4 X.c4, .slice X.a5 X.l5 X.c5, .slice X.a6 X.l6 X.c6, .slice X.a7 X.l7 X.c7, .slice X.a8 X.l8 X.c8, .slice X.a9 X.l9 X.c9, .int .i64 X.er], .slice C l.length cc, .agg #[.int .i64 e.day, .int .i64 e.known, .int .i64 e.owner, .int .i64 e.place, .int .i64 e.litres, .int .i64 e.why, .int .i64 e.ref], .int .i64 owner, .int .i64 fr, .int .i64 un, .int .i64 known] w fun x w' => x = .returned (.bool true) ∧ Below w.heap.size w w' := by
  obtain ⟨N, hNN⟩ : ∃ N, w.heap.size = N := ⟨_, rfl⟩
  obtain ⟨W, hW⟩ : ∃ W, W = (w.alloc (.cells #[.string X.nm, .slice X.a1 X.l1 X.c1, .int .i64 X.cl, .slice X.P pl.length X.cP, .slice X.a4 X.l4 X.c4, .slice X.a5 X.l5 X.c5, .slice X.a6 X.l6 X.c6, .slice X.a7 X.l7 X.c7, .slice X.a8 X.l8 X.c8, .slice X.a9 X.l9 X.c9, .int .i64 X.er] 31)).alloc (.cells #[.int .i64 e.day, .int .i64 e.known, .int .i64 e.owner, .int .i64 e.place, .int .i64 e.litres, .int .i64 e.why, .int .i64 e.ref] 34) := ⟨_, rfl⟩
  have hbW : Below N w W := by rw [hW, ← hNN]; exact ((Below.refl _ _).alloc (Nat.le_refl _) _).alloc (by simp) _
  have hzW : W.heap.size = N + 1 + 1 := by rw [hW]; simp [hNN]
  have hbx : W.heap[N]? = some (basO X X.a1 X.l1 pl.length) := by rw [hW, Below.heap_alloc _ _ _ (by simp; omega), ← hNN]; exact heap_alloc_new _ _
  have hbe : W.heap[N + 1]? = some (.cells e.cells.toArray 34 (0, 0)) := by
    rw [hW, ← hNN]
    have := heap_alloc_new (w.alloc (.cells #[.string X.nm, .slice X.a1 X.l1 X.c1, .int .i64 X.cl, .slice X.P pl.length X.cP, .slice X.a4 X.l4 X.c4, .slice X.a5 X.l5 X.c5, .slice X.a6 X.l6 X.c6, .slice X.a7 X.l7 X.c7, .slice X.a8 X.l8 X.c8, .slice X.a9 X.l9 X.c9, .int .i64 X.er] 31)) (.cells #[.int .i64 e.day, .int .i64 e.known, .int .i64 e.owner, .int .i64 e.place, .int .i64 e.litres, .int .i64 e.why, .int .i64 e.ref] 34)
    rw [World.size_alloc] at this; exact this
  have hTW : Tabs W := hT.below hT.size (by rw [hNN]; exact hbW) (by omega)
  have KS := Lib.hid (small_any W hTW)
  rw [hW] at KS
  have hWx := Lib.hid hW
  rw [hNN] at hO hN hC
  have hzW2 : N + 1 < W.heap.size := by omega
  clear hW hzW
  replace hX := Lib.hid hX
  have fO : ∀ wx, Below N w wx → StrsAt wx N X.a1 ow := fun wx hb => hO.below hb
  have fN : ∀ wx, Below N w wx → NamesAt wx N X.P pl := fun wx hb => hN.below hb
  have fC : ∀ wx, Below N w wx → EntsAt wx N C l := fun wx hb => hC.below hb
  go_enter Tryd.func3, Tryd.ntmps3
  go_wp2_with fail
  go_at_call 9
  refine KS.out.mono ?_
  rw [← hWx.out]
  rintro e1 w1 ⟨rfl, hb1⟩
  clear KS
  have hbx1 := (hb1.block N (by omega)).trans hbx
  have hbe1 := (hb1.block (N + 1) hzW2).trans hbe
  have hb01 : Below N w w1 := hbW.trans (hb1.mono (by omega))
  obtain ⟨c0, c1, c2, c3, c4, c5, c6, c7, c8, c9, c10⟩ := basO_cells hbx1
  have hec : ∀ j u, e.cells[j]? = some u → w1.cell? ⟨N + 1, j, none⟩ = some u := fun j u hj => by simp [World.cell?, hbe1]; exact hj
  have e1c : w1.cell? ⟨N + 1, 1, none⟩ = some (.int .i64 e.known) := hec 1 _ rfl
  have z1 := hb1.size
  have KF := Lib.hid (few_any X pl ow l C cc w1 hX.out (CellsAt.more (fO _ hb01) (by omega)) (NamesAt.more (fN _ hb01) (by omega)) hl hpl hol hp1 ho1)
  unfold FewIs at KF
  by_cases hkn : e.known ≤ known
  · have d1 : decide (e.known ≤ known) = true := decide_eq_true hkn
    go_wp2_with (first | (go_at_call 10; refine KF.out.mono ?_; rintro e2 w2 ⟨fb, rfl, hf, hb2⟩; have e2c := (hb2.cell (p := ⟨N + 1, 1, none⟩) (by show N + 1 < w1.heap.size; omega)).trans e1c; cases fb) | fail)
    all_goals (go_ret; exact ⟨rfl, by rw [hNN]; exact hb01.trans (hb2.mono (by omega))⟩)
  have d1 : decide (e.known ≤ known) = false := decide_eq_false hkn
  go_wp2_with (first | (go_at_call 10; refine KF.out.mono ?_; rintro e2 w2 ⟨fb, rfl, hf, hb2⟩; have e2c := (hb2.cell (p := ⟨N + 1, 1, none⟩) (by show N + 1 < w1.heap.size; omega)).trans e1c; cases fb) | fail)
  · go_ret
    exact ⟨rfl, by rw [hNN]; exact hb01.trans (hb2.mono (by omega))⟩
  have hF := hf (by simp)
  clear KF hf c0 c1 c2 c3 c4 c5 c6 c7 c8 c9 c10 e1c e2c hec
  have z2 := hb2.size
  have hb02 := hb01.trans (hb2.mono (by omega))
  have hbx2 := (hb2.block N (by omega)).trans hbx1
  have hbe2 := (hb2.block (N + 1) (by omega)).trans hbe1
  clear hbx1 hbe1 hbx hbe
  have KP := Lib.hid (posts_any l C cc w2 (fC _ hb02) (by omega) hl hI)
  have hled := posts_led l
  have hlen := posts_len l
  have hin := posts_in hI
  have hrefs : RefsIn (postsR l) := fun x hx => by
    have key := bookT_ok (psOf_8 l) (psOf l).length (Nat.le_refl _)
    unfold bookT at key
    rw [List.take_length] at key
    obtain ⟨p, hp, hxp⟩ := key.2 x hx
    obtain ⟨a, ha, rfl⟩ := List.mem_map.1 hp
    simp only [pairP, List.mem_cons, List.not_mem_nil, or_false] at hxp
    rcases hxp with rfl | rfl
    · exact hRf _ (List.mem_of_mem_take ha)
    · exact hRf a (List.mem_of_mem_take ha)
  generalize postsR l = a at KP hled hlen hin hrefs
  go_at_call 11
  refine KP.out.mono ?_
  rintro e3 w3 ⟨D, dc, rfl, hdc, hD, hb3⟩
  clear KP
  have z3 := hb3.size
  have hb03 := hb02.trans (hb3.mono (by omega))
  have hbx3 := (hb3.block N (by omega)).trans hbx2
  have hbe3 := (hb3.block (N + 1) (by omega)).trans hbe2
  have hec3 : ∀ j u, e.cells[j]? = some u → w3.cell? ⟨N + 1, j, none⟩ = some u := fun j u hj => by simp [World.cell?, hbe3]; exact hj
  have f0 : w3.cell? ⟨N + 1, 0, none⟩ = some (.int .i64 e.day) := hec3 0 _ rfl
  have f1 : w3.cell? ⟨N + 1, 1, none⟩ = some (.int .i64 e.known) := hec3 1 _ rfl
  have f2 : w3.cell? ⟨N + 1, 2, none⟩ = some (.int .i64 e.owner) := hec3 2 _ rfl
  have f3 : w3.cell? ⟨N + 1, 3, none⟩ = some (.int .i64 e.place) := hec3 3 _ rfl
  have f4 : w3.cell? ⟨N + 1, 4, none⟩ = some (.int .i64 e.litres) := hec3 4 _ rfl
  have f5 : w3.cell? ⟨N + 1, 5, none⟩ = some (.int .i64 e.why) := hec3 5 _ rfl
  have f6 : w3.cell? ⟨N + 1, 6, none⟩ = some (.int .i64 e.ref) := hec3 6 _ rfl
  have zN3 : N + 1 < w3.heap.size := by omega
  have hneg : IntKind.i64.wrap (-e.litres) = wrap64 (-e.litres) := by rw [IntWalk.i64_left]
  obtain ⟨W2, hW2⟩ : ∃ W, W = w3.alloc (.cells #[.int .i64 e.day, .int .i64 e.known, .int .i64 (-1), .int .i64 e.place, .int .i64 (wrap64 (-e.litres)), .int .i64 e.why, .int .i64 e.ref] 34) := ⟨_, rfl⟩
  obtain ⟨Wp, hWp⟩ : ∃ W, W = W2.alloc (.cells #[.int .i64 e.day, .int .i64 e.known, .int .i64 e.owner, .int .i64 e.place, .int .i64 e.litres, .int .i64 e.why, .int .i64 e.ref, .int .i64 e.day, .int .i64 e.known, .int .i64 (-1), .int .i64 e.place, .int .i64 (wrap64 (-e.litres)), .int .i64 e.why, .int .i64 e.ref] 34) := ⟨_, rfl⟩
  have hb32 : Below w3.heap.size w3 W2 := by rw [hW2]; exact below_new _ _
  have hz2 : W2.heap.size = w3.heap.size + 1 := by rw [hW2]; simp
  have hbp : Below w3.heap.size w3 Wp := by rw [hWp]; exact hb32.alloc hb32.size _
  have hpIn : LitsIn (pairP e) := fun x hx => by
    simp only [pairP, List.mem_cons, List.not_mem_nil, or_false] at hx
    rcases hx with rfl | rfl
    · exact hIe _ (List.mem_singleton_self _)
    · unfold riverE wrap64 In64; dsimp only; omega
  have hPE : EntsAt Wp Wp.heap.size (some ⟨w3.heap.size + 1, 0, none⟩) (pairP e) := fun _ => ⟨w3.heap.size + 1, 0, rfl, by rw [hWp]; simp; omega, fun k r hk j v hj => by
    have h1 := rowE_get (pairP e) k r hk j (by have := (List.getElem?_eq_some_iff.1 hj).1; simpa [Et.cells] using this)
    rw [hj] at h1
    have := cells_at (w := W2) hz2 34 (rowE (pairP e)) (k * 7 + j) v h1
    rw [Addr.add_lit] at this
    rw [hWp]; exact this⟩
  have K := Lib.hid (post_any a (pairP e) D (some ⟨w3.heap.size + 1, 0, none⟩) dc 2 Wp (B := Wp.heap.size) ((hD.below hbp).more hbp.size) hPE (Nat.le_refl _) (by omega) (by simp [pairP]) hin hpIn)
  obtain ⟨rl, rn, hr⟩ : ∃ rl rn, postR a (pairP e) = (rl, rn) := ⟨_, _, rfl⟩
  rw [hr, show (pairP e).length = 2 from rfl] at K
  have hbpz := hbp.size
  rw [hWp, hW2] at K
  replace hWp := Lib.hid hWp
  replace hW2 := Lib.hid hW2
  have hHr := Lib.hid hr
  clear hz2 hPE hb32 hec3 hr
  have hDp : EntsAt Wp Wp.heap.size D a := (hD.below hbp).more hbp.size
  have hbxp := (hbp.block N (by omega)).trans hbx3
  have hbep := (hbp.block (N + 1) zN3).trans hbe3
  have hb0p := hb03.trans (hbp.mono (by omega))
  by_cases h0 : rn = 0
  case neg =>
    have d0 : (rn != 0) = true := by simpa using h0
    go_wp2_with (first | (go_at_call 12; refine K.out.mono ?_; rw [← hW2.out, ← hWp.out]; rintro x1 w5 ⟨F1, f1', rfl, hfc, hF1, hF2, hb5⟩) | fail)
    go_ret
    exact ⟨rfl, by rw [hNN]; exact hb0p.trans (hb5.mono (by omega))⟩
  subst h0
  obtain ⟨hpb, -, -, hrl⟩ := postR_zero (l := a) (p := pairP e) (by rw [hHr.out])
  rw [hHr.out] at hrl
  replace hrl : rl = a ++ pairP e := hrl
  have hlate : ∀ x ∈ pairP e, known < x.known := fun x hx => by
    simp only [pairP, List.mem_cons, List.not_mem_nil, or_false] at hx
    rcases hx with rfl | rfl
    · omega
    · show known < e.known; omega
  have q1 := later_change (l := a) hlate owner un (-1)
  have q2 := later_stmt (l := a) hlate ow pl owner fr un
  have q3 := later_account (l := a) hlate owner e.place un
  rw [← hrl] at q1 q2 q3
  have hll : rl.length ≤ 26 := by rw [hrl, List.length_append]; simp [pairP]; omega
  have hrin : LitsIn rl := fun x hx => by
    rw [hrl] at hx
    rcases List.mem_append.1 hx with h | h
    · exact hin x h
    · exact hpIn x h
  have hrrf : RefsIn rl := fun x hx => by
    rw [hrl] at hx
    rcases List.mem_append.1 hx with h | h
    · exact hrefs x h
    · simp only [pairP, List.mem_cons, List.not_mem_nil, or_false] at h
      rcases h with rfl | rfl
      · exact hRe _ (List.mem_singleton_self _)
      · exact hRe e (List.mem_singleton_self _)
  have hcl : (changeR a owner un (-1) known).length ≤ 24 := by unfold changeR; rw [insSortK_len]; exact Nat.le_trans (List.length_filter_le _ _) hlen
  obtain ⟨Y, hY⟩ : ∃ Y, changeR a owner un (-1) known = Y := ⟨_, rfl⟩
  obtain ⟨S, hS⟩ : ∃ S, stmtL ow pl a owner fr un known = S := ⟨_, rfl⟩
  obtain ⟨A, hA⟩ : ∃ A, account a owner e.place un known = A := ⟨_, rfl⟩
  rw [hY] at q1 hcl
  rw [hS] at q2
  rw [hA] at q3
  have q1 := Lib.hid q1
  have q2 := Lib.hid q2
  have q3 := Lib.hid q3
  have hY := Lib.hid hY
  have hS := Lib.hid hS
  have hA := Lib.hid hA
  clear hrl hHr
  go_upto_region 12 with (first | (go_at_call 12; refine K.out.mono ?_; rw [← hW2.out, ← hWp.out]; rintro x1 w5 ⟨F1, f1', rfl, hfc, hF1, hF2, hb5⟩) | fail)
  have hb05 := hb0p.trans (hb5.mono (by omega))
  have zp5 := hb5.size
  have hbx5 := (hb5.block N (by omega)).trans hbxp
  have hbe5 := (hb5.block (N + 1) (by omega)).trans hbep
  have hD5 := (hDp.below hb5).more hb5.size
  have KC1 := Lib.hid (change_any a D dc owner un (-1) known w5 hD5 (Nat.le_refl _) (by omega))
  rw [hY.out] at KC1
  clear K hW2 hWp hbxp hbep hDp f0 f1 f2 f3 f4 f5 f6 hbx3 hbe3 hbx2 hbe2 d1
  go_upto_region 13 with (first | (go_at_call 14; (with_reducible refine KC1.out.mono ?_); rintro e6 w6 ⟨CA, ca, rfl, hca, hYA, hb6⟩; have KC2 := Lib.hid (change_any rl F1 f1' owner un (-1) known w6 ((hF1.below hb6).more hb6.size) (Nat.le_refl _) (by omega)); rw [q1.out] at KC2) | (go_at_call 14; (with_reducible refine KC2.out.mono ?_); rintro e7 w7 ⟨CB, cb, rfl, hcb, hYB, hb7⟩; have KQ := Lib.hid (rsame_any Y Y CA CB ca cb w7 ((hYA.below hb7).more hb7.size) hYB (by omega) (by omega)); unfold SameIs at KQ; rw [show SameL Y Y = true from decide_eq_true rfl] at KQ) | (go_at_call 13; refine KQ.out.mono ?_; rintro e8 w8 ⟨rfl, nn, hw8⟩; have hb78 : Below w7.heap.size w7 w8 := (by rw [hw8]; exact below_drewN (Below.refl _ _) nn); clear hw8) | fail)
  have hb58 := hb6.trans ((hb7.trans (hb78.mono hb7.size)).mono hb6.size)
  have hb08 := hb05.trans (hb58.mono (by omega))
  have hbx8 := (hb58.block N (by omega)).trans hbx5
  have hbe8 := (hb58.block (N + 1) (by omega)).trans hbe5
  have hD8 := (hD5.below hb58).more hb58.size
  have hF8 := (hF1.below hb58).more hb58.size
  have z58 := hb58.size
  have hT8 : Tabs w8 := hT.below hT.size (by rw [hNN]; exact hb08) (by omega)
  have hpn : Hid (∀ x ∈ pl, x.length ≤ 100000) := fun x hx => Nat.le_trans (hF.pn x hx) (by omega)
  have hon : Hid (∀ x ∈ ow, x.length ≤ 100000) := fun x hx => Nat.le_trans (hF.on x hx) (by omega)
  clear KC1 KC2 KQ hbx5 hbe5 hD5 hF1 hYA hYB
  refine Plan.wp_region_treeS (fun wx => wx.heap[N]? = some (basO X X.a1 X.l1 pl.length) ∧ wx.heap[N + 1]? = some (.cells e.cells.toArray 34 (0, 0))) (.rd 0 (.rd 1 (.rd 2 (.rd 3 (.rd 4 (.rd 5 (.rd 6 (.rd 7 (.rd 8 (.rd 9 (.rd 10 (.rd 12 (.rd 13 (.rd 14 (.rd 15 (.rd 16 (.rd 17 (.wr 11 (.wr 18 (.rd 19 (.rd 20 (.rd 21 (.rd 22 (.rd 23 (.rd 24 (.rd 25 (.rd 26 (.rd 27 (.rd 29 (.rd 30 (.rd 31 (.rd 32 (.rd 33 (.rd 34 (.wr 28 (.wr 35 (.rd 36 (.rd 37 (.rd 38 .done))))))))))))))))))))))))))))))))))))))) (by kernel_rfl) (by kernel_rfl) ⟨hbx8, hbe8⟩ ?_
  (repeat (first | (refine Plan.tree_read (v := ?_) rfl rfl ?_ ?_; rotate_left; (focus ((intro wS hSw; have hSx := cells11 hSw; go_simp); try with_reducible rfl)); simp only [Act.put, List.setIfInBounds_toArray, List.set_cons_zero, List.set_cons_succ]) | (refine Plan.tree_skip rfl rfl ?_; simp only [Act.put, List.setIfInBounds_toArray, List.set_cons_zero, List.set_cons_succ])))
  have hbd : Below w8.heap.size w8 w8.drew := (Below.refl _ _).drew
  have KS1 := Lib.hid (stmt_any X pl ow a D dc owner fr un known w8.drew (hT8.drewN 1) hX.out (CellsAt.more (fO _ (hb08.trans (hbd.mono (by omega)))) (by show N ≤ w8.heap.size; omega)) (NamesAt.more (fN _ (hb08.trans (hbd.mono (by omega)))) (by show N ≤ w8.heap.size; omega)) (hD8.below hbd) (by omega) hin hrefs hpl hon hpn)
  rw [hS.out] at KS1
  (refine Plan.tree_write rfl (fun K hK => ?_); try go_simp)
  go_at_call 15
  refine KS1.out.mono ?_
  rintro e9 w9 ⟨rfl, hb9'⟩
  have hb9 : Below w8.heap.size w8 w9 := hbd.trans hb9'
  have z89 := hb9.size
  have hbx9 := (hb9.block N (by omega)).trans hbx8
  have hbe9 := (hb9.block (N + 1) (by omega)).trans hbe8
  have hb09 := hb08.trans (hb9.mono (by omega))
  have KS2 := Lib.hid (stmt_any X pl ow rl F1 f1' owner fr un known w9 (hT.below hT.size (by rw [hNN]; exact hb09) (by omega)) hX.out (CellsAt.more (fO _ hb09) (by omega)) (NamesAt.more (fN _ hb09) (by omega)) ((hF8.below hb9).more hb9.size) (by omega) hrin hrrf hpl hon hpn)
  rw [q2.out] at KS2
  clear hb9'
  (refine hK.out _ _ (⟨hbx9, hbe9⟩) ?_; clear hK K; try simp only [Act.put, List.setIfInBounds_toArray, List.set_cons_zero, List.set_cons_succ])
  (repeat (first | (refine Plan.tree_read (v := ?_) rfl rfl ?_ ?_; rotate_left; (focus ((intro wS hSw; have hSx := cells11 hSw; go_simp); try with_reducible rfl)); simp only [Act.put, List.setIfInBounds_toArray, List.set_cons_zero, List.set_cons_succ]) | (refine Plan.tree_skip rfl rfl ?_; simp only [Act.put, List.setIfInBounds_toArray, List.set_cons_zero, List.set_cons_succ])))
  (refine Plan.tree_write rfl (fun K hK => ?_); try go_simp)
  go_at_call 15
  refine KS2.out.mono ?_
  rintro e10 w10 ⟨rfl, hb10⟩
  have z910 := hb10.size
  have hbx10 := (hb10.block N (by omega)).trans hbx9
  have hbe10 := (hb10.block (N + 1) (by omega)).trans hbe9
  have hb010 := hb09.trans (hb10.mono (by omega))
  have hss : ((bs S).toList == (bs S).toList) = true := by simp
  have hb810 := hb9.trans (hb10.mono hb9.size)
  have KT1 := Lib.hid (at_any a D dc owner e.place un known w10 (hD8.below hb810) (by omega) (by omega) hin)
  rw [hA.out] at KT1
  (refine hK.out _ _ (⟨hbx10, hbe10⟩) ?_; clear hK K; try simp only [Act.put, List.setIfInBounds_toArray, List.set_cons_zero, List.set_cons_succ])
  (repeat (first | (refine Plan.tree_read (v := ?_) rfl rfl ?_ ?_; rotate_left; (focus ((intro wS hSw; have hSx := cells11 hSw; go_simp); try with_reducible rfl)); simp only [Act.put, List.setIfInBounds_toArray, List.set_cons_zero, List.set_cons_succ]) | (refine Plan.tree_skip rfl rfl ?_; simp only [Act.put, List.setIfInBounds_toArray, List.set_cons_zero, List.set_cons_succ])))
  (refine Plan.tree_write rfl (fun K hK => ?_); try go_simp)
  go_at_call 16
  refine KT1.out.mono ?_
  rintro e11 w11 ⟨rfl, hb11⟩
  have z1011 := hb11.size
  have hbx11 := (hb11.block N (by omega)).trans hbx10
  have hbe11 := (hb11.block (N + 1) (by omega)).trans hbe10
  have hb811 := hb810.trans (hb11.mono (by omega))
  have KT2 := Lib.hid (at_any rl F1 f1' owner e.place un known w11 (hF8.below hb811) (by omega) (by omega) hrin)
  rw [q3.out] at KT2
  (refine hK.out _ _ (⟨hbx11, hbe11⟩) ?_; clear hK K; try simp only [Act.put, List.setIfInBounds_toArray, List.set_cons_zero, List.set_cons_succ])
  (repeat (first | (refine Plan.tree_read (v := ?_) rfl rfl ?_ ?_; rotate_left; (focus ((intro wS hSw; have hSx := cells11 hSw; go_simp); try with_reducible rfl)); simp only [Act.put, List.setIfInBounds_toArray, List.set_cons_zero, List.set_cons_succ]) | (refine Plan.tree_skip rfl rfl ?_; simp only [Act.put, List.setIfInBounds_toArray, List.set_cons_zero, List.set_cons_succ])))
  (refine Plan.tree_write rfl (fun K hK => ?_); try go_simp)
  go_at_call 16
  refine KT2.out.mono ?_
  rintro e12 w12 ⟨rfl, hb12⟩
  have z1112 := hb12.size
  have hbx12 := (hb12.block N (by omega)).trans hbx11
  have hbe12 := (hb12.block (N + 1) (by omega)).trans hbe11
  have hb012 := hb08.trans ((hb811.trans (hb12.mono (by omega))).mono (by omega))
  (refine hK.out _ _ (⟨hbx12, hbe12⟩) ?_; clear hK K; try simp only [Act.put, List.setIfInBounds_toArray, List.set_cons_zero, List.set_cons_succ])
  (repeat (first | (refine Plan.tree_read (v := ?_) rfl rfl ?_ ?_; rotate_left; (focus ((intro wS hSw; have hSx := cells11 hSw; go_simp); try with_reducible rfl)); simp only [Act.put, List.setIfInBounds_toArray, List.set_cons_zero, List.set_cons_succ]) | (refine Plan.tree_skip rfl rfl ?_; simp only [Act.put, List.setIfInBounds_toArray, List.set_cons_zero, List.set_cons_succ])))
  refine Plan.tree_done ?_
  go_wp2_with fail
  go_ret
  exact ⟨rfl, by rw [hNN]; exact hb012⟩
end Go.Proofs.YtminphldifncaaaDoor

