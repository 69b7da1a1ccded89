/- AsofLearns answers true for every input. -/
import Derived.Test.YtminphldifncaaaDoorA7
set_option linter.unusedSimpArgs false
set_option linter.unusedVariables false
namespace Go.Proofs.YtminphldifncaaaDoor
open Go.RowKit LG
attribute [local go_sem] alloc_drewN setCell_drewN shape_drewN

theorem below_own' {W w1 : World} {n₀ e size k : Nat} {v : Value} {xs : List Value} (hrow : W.ownsRow n₀ e size v k xs) (hn₀ : n₀ ≤ W.heap.size) (hgrow : W.grownBy w1 v.ownBlock) : Below n₀ W w1 :=
  (Below.refl n₀ W).grown hgrow hn₀ fun j ej => (hrow.lt j ej).1
set_option maxRecDepth 100000 in
set_option maxHeartbeats 1000000 in
theorem learns_any (l : List Et) (C : Option Addr) (cc : Nat) (owner day one two mid : Int) (w : World) (hT : Tabs w) (hC : EntsAt w w.heap.size C l) (hl : l.length ≤ 9223372036854775807) :
    Calls Tryd.prog 6 #[.slice C l.length cc, .int .i64 owner, .int .i64 day, .int .i64 one, .int .i64 two, .int .i64 mid] w fun e w' => e = .returned (.bool true) ∧ Below w.heap.size w w' := by
  obtain ⟨i0, hi, hz0, hz1, hz2⟩ := info_parts Tryd.infoEntry
  go_enter Tryd.func6, Tryd.ntmps6
  go_wp2_with fail
  go_at_call 9
  refine (small_any w hT).mono ?_
  rintro e1 w1 ⟨rfl, hb1⟩
  have KM := Lib.hid (modest_any l C cc w1 (hC.below hb1) hb1.size hl)
  unfold ModIs at KM
  by_cases g : one ≤ mid ∧ mid ≤ two
  case neg =>
    rcases Int.lt_or_le mid one with q | q
    · have d1 : decide (mid < one) = true := decide_eq_true q
      go_wp2_with (first | (go_at_call 23; refine KM.out.mono ?_; rintro e2 _ ⟨fb, rfl, hm, rfl⟩; cases fb) | fail)
      all_goals (go_ret; exact ⟨rfl, hb1⟩)
    · have d1 : decide (mid < one) = false := decide_eq_false (by omega)
      have d2 : decide (two < mid) = true := decide_eq_true (by omega)
      go_wp2_with (first | (go_at_call 23; refine KM.out.mono ?_; rintro e2 _ ⟨fb, rfl, hm, rfl⟩; cases fb) | fail)
      all_goals (go_ret; exact ⟨rfl, hb1⟩)
  obtain ⟨g1, g2⟩ := g
  have d1 : decide (mid < one) = false := decide_eq_false (by omega)
  have d2 : decide (two < mid) = false := decide_eq_false (by omega)
  go_wp2_with (first | (go_at_call 23; refine KM.out.mono ?_; rintro e2 _ ⟨fb, rfl, hm, rfl⟩; cases fb) | fail)
  · go_ret
    exact ⟨rfl, hb1⟩
  have hM := hm (by simp)
  clear KM hm d1 d2
  have hCb : ∀ wx, Below w.heap.size w wx → EntsAt wx w.heap.size C l := fun wx hb => hC.below hb
  have hl40 := hM.1
  have KC := Lib.hid (change_any l C cc owner day one two w1 (hCb _ hb1) hb1.size (by omega))
  have hcl : ∀ a b, (changeR l owner day a b).length ≤ 40 := fun a b => by
    unfold changeR; rw [insSortK_len]; exact Nat.le_trans (List.length_filter_le _ _) hl40
  have hMc : Modest (changeR l owner day one two) := ⟨hcl _ _, fun e he => hM.2 e (List.mem_filter.1 ((ST.insSort_stab ltKnown swoKnown _).perm.mem_iff.1 he)).1⟩
  have hsum := change_litS hM owner day one two (by omega)
  have hcut := Lib.hid (change_cut l owner day one mid two g1 g2)
  have hc12 := hcl one two
  have hc1m := hcl one mid
  have hcm2 := hcl mid two
  obtain ⟨X, hX⟩ : ∃ X, changeR l owner day one two = X := ⟨_, rfl⟩
  obtain ⟨Y, hY⟩ : ∃ X, changeR l owner day one mid = X := ⟨_, rfl⟩
  obtain ⟨Z, hZ⟩ : ∃ X, changeR l owner day mid two = X := ⟨_, rfl⟩
  rw [hX] at KC hMc hsum hcut hc12
  rw [hY] at hcut hc1m
  rw [hZ] at hcut hcm2
  obtain ⟨a1, ha1⟩ : ∃ a, account l owner (-1) day one = a := ⟨_, rfl⟩
  obtain ⟨a2, ha2⟩ : ∃ a, account l owner (-1) day two = a := ⟨_, rfl⟩
  obtain ⟨sx, hsx⟩ : ∃ a, litS X = a := ⟨_, rfl⟩
  have hb := hM.sub (m := X) (by rw [← hX]; unfold changeR; rw [insSortK_len]; exact List.length_filter_le _ _) (fun e he => by rw [← hX] at he; exact (List.mem_filter.1 ((ST.insSort_stab ltKnown swoKnown _).perm.mem_iff.1 he)).1)
  rw [ha1, ha2, hsx] at hsum
  rw [hsx] at hb
  have hi1 : In64 a1 := by rw [← ha1]; exact account_in _ _ _ _ _
  have hwr : IntKind.i64.wrap (a2 - a1) = sx := by rw [IntKind.wrap_i64]; omega
  have hwr2 : wrap64 (a2 - a1) = sx := by rw [IntWalk.wrap64_in _ (by omega)]; omega
  have hne : (sx != sx) = false := by simp
  replace ha1 := Lib.hid ha1
  replace ha2 := Lib.hid ha2
  replace hsx := Lib.hid hsx
  have hXYZ : Hid (X.length = Y.length + Z.length) := by show _ = _; rw [hcut.out, List.length_append]
  have hX := Lib.hid hX
  have hY := Lib.hid hY
  have hZ := Lib.hid hZ
  go_at_call 14
  refine KC.out.mono ?_
  rintro e3 w2 ⟨CX, cx, rfl, hcx, hEX, hb2⟩
  have hb02 := hb1.trans (hb2.mono hb1.size)
  have KS := Lib.hid (sumw_any X CX cx w2 hEX (Nat.le_refl _) hMc)
  rw [hsx.out] at KS
  have KA2 := Lib.hid (at_any l C cc owner (-1) day two w2 (hCb _ hb02) hb02.size (by omega) hM.in_)
  rw [ha2.out] at KA2
  clear KC hsum
  go_upto_region 8 with (first | (go_at_call 24; refine KS.out.mono ?_; rintro e4 _ ⟨rfl, rfl⟩) | (go_at_call 16; (with_reducible refine KA2.out.mono ?_); rintro e5 w3 ⟨rfl, hb3⟩; have hb03 := hb02.trans (hb3.mono hb02.size); have KA1 := Lib.hid (at_any l C cc owner (-1) day one w3 (hCb _ hb03) hb03.size (by omega) hM.in_); rw [ha1.out] at KA1) | (go_at_call 16; (with_reducible refine KA1.out.mono ?_); rintro e6 w4 ⟨rfl, hb4⟩) | fail)
  have hb34 := hb3.trans (hb4.mono hb3.size)
  have hb04 := hb02.trans (hb34.mono hb02.size)
  have hO0 : (w4.alloc (.cells #[] 34)).ownsRow w4.heap.size 34 7 (.slice (some ⟨w4.heap.size, 0, none⟩) 0 0) 0 [] := World.ownsRow_made w4 #[] 0 (Nat.le_refl _) (by unfold maxLen; omega) (by simp)
  have hA4 := below_new w4 (.cells #[] 34)
  have hb05 := hb04.trans (hA4.mono hb04.size)
  have KY := Lib.hid (change_any l C cc owner day one mid (w4.alloc (.cells #[] 34)) (hCb _ hb05) hb05.size (by omega))
  rw [hY.out] at KY
  have hEX4 : EntsAt w4 w2.heap.size CX X := hEX.below hb34
  clear KS KA2 KA1
  go_upto_region 9 with (first | (go_at_call 14; (with_reducible refine KY.out.mono ?_); rintro e7 w6 ⟨CY, cy, rfl, hcy, hEY, hb6⟩; have hO6 := row_below hO0 hb6; have hA6 := hA4.trans (hb6.mono hA4.size); have RY := Lib.hid (reads_ents hEY)) | (at_builtin; refine wpList_append_any _ rfl _ _ 32 rfl w4.heap.size 34 i0 _ 7 56 Tryd.underlying32 hi hz0 hz1 hz2 rfl (by decide) _ 0 [] rfl hO6 _ CY Y.length cy (rowE Y) rfl RY.out (rowE_one Y) (by unfold maxLen; omega) (by omega) hA6.size ?_; intro v7 w7 hO7 hg7 hob7; clear hob7; have hA7 := hA6.trans (below_own' hO6 hA6.size hg7); have hb07 := hb04.trans (hA7.mono hb04.size); have KZ := Lib.hid (change_any l C cc owner day mid two w7 (hCb _ hb07) hb07.size (by omega)); rw [hZ.out] at KZ) | (go_at_call 14; (with_reducible refine KZ.out.mono ?_); rintro e8 w8 ⟨CZ, cz, rfl, hcz, hEZ, hb8⟩; have hO8 := row_below hO7 hb8; have hA8 := hA7.trans (hb8.mono hA7.size); have RZ := Lib.hid (reads_ents hEZ)) | (at_builtin; refine wpList_append_any _ rfl _ _ 32 rfl w4.heap.size 34 i0 _ 7 56 Tryd.underlying32 hi hz0 hz1 hz2 rfl (by decide) _ (0 + Y.length) ([] ++ rowE Y) rfl hO8 _ CZ Z.length cz (rowE Z) rfl RZ.out (rowE_one Z) (by unfold maxLen; omega) (by omega) hA8.size ?_; intro v9 w9 hO9 hg9 hob9; clear hob9; have hA9 := hA8.trans (below_own' hO8 hA8.size hg9)) | fail)
  have hO9' : w9.ownsRow w4.heap.size 34 7 v9 X.length (rowE X) := by
    have h := hO9
    rw [Nat.zero_add, List.nil_append, ← rowE_append, ← hcut.out] at h
    rw [hXYZ.out]; exact h
  obtain ⟨D, dc, rfl, hD, _⟩ := ents_of_owns hO9'
  have hb09 := hb04.trans (hA9.mono hb04.size)
  have KQ := Lib.hid (rsame_any X X CX D cx dc w9 ((hEX4.below (hA9.mono hb34.size)).more (Nat.le_trans hb34.size hA9.size)) hD (by omega) (by omega))
  unfold SameIs at KQ
  rw [show SameL X X = true from decide_eq_true rfl] at KQ
  go_wp2_with (first | (go_at_call 13; refine KQ.out.mono ?_; rintro e10 _ ⟨rfl, nn, rfl⟩) | fail)
  go_ret
  exact ⟨rfl, hb09.trans ((below_drewN (Below.refl _ _) nn).mono hb09.size)⟩
end Go.Proofs.YtminphldifncaaaDoor
