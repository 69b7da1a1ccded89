/- The walk of peopled. (Printed by gen_g9.py.) -/
import Derived.Test.YthoigjkelinjhaaG7
import Derived.Deep.Cut
import Derived.Deep.CutRange
import Derived.BigGuardPart
set_option linter.unusedSimpArgs false
set_option linter.unusedVariables false
namespace Go.Proofs.Ythoigjkelinjhaa.RT
open Go.RowKit BV
attribute [local go_sem] alloc_drewN setCell_drewN shape_drewN
theorem three_at {w : World} {b : Nat} {x y z : Int} {t : TypeId} (h : Box w b #[.int .i64 x, .int .i64 y, .int .i64 z] t) (m : Nat) (hm : m < 3) : ∃ tv : Int, w.cell? ⟨b, m, none⟩ = some (.int .i64 tv) := by
  match m, hm with
  | 0, _ => exact ⟨_, h.cell rfl⟩
  | 1, _ => exact ⟨_, h.cell rfl⟩
  | 2, _ => exact ⟨_, h.cell rfl⟩
set_option maxRecDepth 100000 in
set_option maxHeartbeats 8000000 in
theorem peopled_any (X : Bas) (pl : CM.Pl) (w : World) (hX : BasOk w w.heap.size X pl) : Calls Try.prog 37 #[.agg #[.string X.nm, .slice X.a1 X.l1 X.c1, .int .i64 X.cl, .slice X.P pl.length X.cP, .slice X.a4 X.l4 X.c4, .slice X.a5 X.l5 X.c5, .slice X.a6 X.l6 X.c6, .slice X.a7 X.l7 X.c7, .slice X.a8 X.l8 X.c8, .slice X.a9 X.l9 X.c9, .int .i64 X.er]] w (SomeB w) := by
  have hpl := hX.pla.1
  have n4 := hX.lnk.1
  have n5 := hX.twn.1
  have n6 := hX.gau.1
  have n7 := hX.roa.1
  have n8 := hX.she.1
  obtain ⟨nm, a1, l1, c1, cl, P, cP, a4, l4, c4, a5, l5, c5, a6, l6, c6, a7, l7, c7, a8, l8, c8, a9, l9, c9, er⟩ := X
  dsimp only at n4 n5 n6 n7 n8 ⊢
  have hB0 : Below w.heap.size w (w.alloc (.cells (#[.string nm, .slice a1 l1 c1, .int .i64 cl, .slice P pl.length cP, .slice a4 l4 c4, .slice a5 l5 c5, .slice a6 l6 c6, .slice a7 l7 c7, .slice a8 l8 c8, .slice a9 l9 c9, .int .i64 er]) 31)) := (Below.refl _ _).alloc (Nat.le_refl _) _
  have hX0 : Box (w.alloc (.cells (#[.string nm, .slice a1 l1 c1, .int .i64 cl, .slice P pl.length cP, .slice a4 l4 c4, .slice a5 l5 c5, .slice a6 l6 c6, .slice a7 l7 c7, .slice a8 l8 c8, .slice a9 l9 c9, .int .i64 er]) 31)) w.heap.size (#[.string nm, .slice a1 l1 c1, .int .i64 cl, .slice P pl.length cP, .slice a4 l4 c4, .slice a5 l5 c5, .slice a6 l6 c6, .slice a7 l7 c7, .slice a8 l8 c8, .slice a9 l9 c9, .int .i64 er]) 31 := Box.new w _ _
  have HO := Lib.hid hX
  have KI := Lib.hid (fun n lo hi wx => in_any n lo hi wx)
  have KV := Lib.hid (fun n wx => vol_any n wx)
  clear hX
  go_enter Try.func37, Try.ntmps37
  go_wp2_with fail
  generalize (w.alloc (.cells (#[.string nm, .slice a1 l1 c1, .int .i64 cl, .slice P pl.length cP, .slice a4 l4 c4, .slice a5 l5 c5, .slice a6 l6 c6, .slice a7 l7 c7, .slice a8 l8 c8, .slice a9 l9 c9, .int .i64 er]) 31)) = w0 at hB0 hX0 ⊢
  have hX := hX0
  have hB := hB0
  clear hX0 hB0
  go_loopw [5] (fun iv wr => ∃ i : Nat, i ≤ l5 ∧ iv = .int .i64 i ∧ Box wr w.heap.size (#[.string nm, .slice a1 l1 c1, .int .i64 cl, .slice P pl.length cP, .slice a4 l4 c4, .slice a5 l5 c5, .slice a6 l6 c6, .slice a7 l7 c7, .slice a8 l8 c8, .slice a9 l9 c9, .int .i64 er]) 31 ∧ Below w.heap.size w wr) (fun iv _ => l5 - (intOf iv).toNat)
  case atStart => exact ⟨0, Nat.zero_le _, rfl, hX, hB⟩
  case round =>
    clear hX hB
    obtain ⟨i, hi, rfl, hX, hB⟩ := hrel
    have x1 : wr.cell? ⟨w.heap.size, 1, none⟩ = some (.slice a1 l1 c1) := hX.cell rfl
    have x2 : wr.cell? ⟨w.heap.size, 2, none⟩ = some (.int .i64 cl) := hX.cell rfl
    have x3 : wr.cell? ⟨w.heap.size, 3, none⟩ = some (.slice P pl.length cP) := hX.cell rfl
    have x4 : wr.cell? ⟨w.heap.size, 4, none⟩ = some (.slice a4 l4 c4) := hX.cell rfl
    have x5 : wr.cell? ⟨w.heap.size, 5, none⟩ = some (.slice a5 l5 c5) := hX.cell rfl
    have x6 : wr.cell? ⟨w.heap.size, 6, none⟩ = some (.slice a6 l6 c6) := hX.cell rfl
    have x7 : wr.cell? ⟨w.heap.size, 7, none⟩ = some (.slice a7 l7 c7) := hX.cell rfl
    have x8 : wr.cell? ⟨w.heap.size, 8, none⟩ = some (.slice a8 l8 c8) := hX.cell rfl
    have hwz := hX.lt
    by_cases hlt : i < l5
    · obtain ⟨b, off, p, ec, hb, _, q0, q1, q2, q3, q4, q5, q6⟩ := Tn.at_ (HO.out.below hB).twn hlt
      dsimp only at ec
      rw [ec] at x5
      have Hec := Lib.hid ec
      clear ec
      have hbw : b < wr.heap.size := by have := hB.size; omega
      have hBa := hB.alloc hB.size (.cells p.cells.toArray 110)
      have hXa : Box (wr.alloc (.cells p.cells.toArray 110)) w.heap.size (#[.string nm, .slice a1 l1 c1, .int .i64 cl, .slice P pl.length cP, .slice a4 l4 c4, .slice a5 l5 c5, .slice a6 l6 c6, .slice a7 l7 c7, .slice a8 l8 c8, .slice a9 l9 c9, .int .i64 er]) 31 := hX.keep (Below.heap_alloc _ _ _ hwz)
      go_wp2_with (first | (go_at_call 31; (with_reducible refine (KI.out _ _ _ _).mono ?_); rintro e5 w5 ⟨b, rfl, rfl, _⟩; cases b) | (go_at_call 32; (with_reducible refine (KV.out _ _).mono ?_); rintro e5 w5 ⟨b, rfl, rfl⟩; cases b) | fail)
      all_goals first
        | (go_ret; exact ⟨false, rfl, hBa⟩)
        | (go_roundw
           case rel => exact ⟨i + 1, by omega, by go_num, hXa, hBa⟩
           case measure => simp [intOf]; omega)
    · obtain rfl : l5 = i := by omega
      clear hlt hi x1 x2 x3 x4 hwz
      go_wp2_with fail
      go_loopw [7] (fun iv wr => ∃ i : Nat, i ≤ l6 ∧ iv = .int .i64 i ∧ Box wr w.heap.size (#[.string nm, .slice a1 l1 c1, .int .i64 cl, .slice P pl.length cP, .slice a4 l4 c4, .slice a5 l5 c5, .slice a6 l6 c6, .slice a7 l7 c7, .slice a8 l8 c8, .slice a9 l9 c9, .int .i64 er]) 31 ∧ Below w.heap.size w wr) (fun iv _ => l6 - (intOf iv).toNat)
      case atStart => exact ⟨0, Nat.zero_le _, rfl, hX, hB⟩
      case round =>
        clear hX hB
        obtain ⟨i, hi, rfl, hX, hB⟩ := hrel
        have x1 : wr.cell? ⟨w.heap.size, 1, none⟩ = some (.slice a1 l1 c1) := hX.cell rfl
        have x2 : wr.cell? ⟨w.heap.size, 2, none⟩ = some (.int .i64 cl) := hX.cell rfl
        have x3 : wr.cell? ⟨w.heap.size, 3, none⟩ = some (.slice P pl.length cP) := hX.cell rfl
        have x4 : wr.cell? ⟨w.heap.size, 4, none⟩ = some (.slice a4 l4 c4) := hX.cell rfl
        have x5 : wr.cell? ⟨w.heap.size, 5, none⟩ = some (.slice a5 l5 c5) := hX.cell rfl
        have x6 : wr.cell? ⟨w.heap.size, 6, none⟩ = some (.slice a6 l6 c6) := hX.cell rfl
        have x7 : wr.cell? ⟨w.heap.size, 7, none⟩ = some (.slice a7 l7 c7) := hX.cell rfl
        have x8 : wr.cell? ⟨w.heap.size, 8, none⟩ = some (.slice a8 l8 c8) := hX.cell rfl
        have hwz := hX.lt
        by_cases hlt : i < l6
        · obtain ⟨b, off, p, ec, hb, _, q0, q1, q2, q3, q4⟩ := Gg.at_ (HO.out.below hB).gau hlt
          dsimp only at ec
          rw [ec] at x6
          have Hec := Lib.hid ec
          clear ec
          have hbw : b < wr.heap.size := by have := hB.size; omega
          have hBa := hB.alloc hB.size (.cells p.cells.toArray 114)
          have hXa : Box (wr.alloc (.cells p.cells.toArray 114)) w.heap.size (#[.string nm, .slice a1 l1 c1, .int .i64 cl, .slice P pl.length cP, .slice a4 l4 c4, .slice a5 l5 c5, .slice a6 l6 c6, .slice a7 l7 c7, .slice a8 l8 c8, .slice a9 l9 c9, .int .i64 er]) 31 := hX.keep (Below.heap_alloc _ _ _ hwz)
          obtain ⟨gnm, kd, tg, ger, gdr⟩ := p
          dsimp only [Gg.cells] at *
          have K1 := Lib.hid (fun wx => in_is kd 0 2 wx)
          have K3 := Lib.hid (fun wx => in_is ger 0 1099511627776 wx)
          have K4 := Lib.hid (fun wx => in_is gdr 0 1440 wx)
          unfold InB at K1 K3 K4
          obtain ⟨b1, hb1⟩ : ∃ b, inB kd 0 2 = b := ⟨_, rfl⟩
          obtain ⟨b3, hb3⟩ : ∃ b, inB ger 0 1099511627776 = b := ⟨_, rfl⟩
          obtain ⟨b4, hb4⟩ : ∃ b, inB gdr 0 1440 = b := ⟨_, rfl⟩
          rw [hb1] at K1
          rw [hb3] at K3
          rw [hb4] at K4
          clear hb3 hb4
          have Hb1 := Lib.hid hb1
          clear hb1
          go_upto_region 14 with fail
          have hB2 : Below w.heap.size w ((wr.alloc (.cells #[.string gnm, .int .i64 kd, .int .i64 tg, .int .i64 ger, .int .i64 gdr] 114)).alloc (.cells #[.int .i64 (pl.length : Int), .int .i64 cl, .int .i64 (l4 : Int)] 3)) := hBa.alloc hBa.size _
          have hX2 : Box ((wr.alloc (.cells #[.string gnm, .int .i64 kd, .int .i64 tg, .int .i64 ger, .int .i64 gdr] 114)).alloc (.cells #[.int .i64 (pl.length : Int), .int .i64 cl, .int .i64 (l4 : Int)] 3)) w.heap.size (#[.string nm, .slice a1 l1 c1, .int .i64 cl, .slice P pl.length cP, .slice a4 l4 c4, .slice a5 l5 c5, .slice a6 l6 c6, .slice a7 l7 c7, .slice a8 l8 c8, .slice a9 l9 c9, .int .i64 er]) 31 := hXa.keep (Below.heap_alloc _ _ _ hXa.lt)
          have hG2 : Box ((wr.alloc (.cells #[.string gnm, .int .i64 kd, .int .i64 tg, .int .i64 ger, .int .i64 gdr] 114)).alloc (.cells #[.int .i64 (pl.length : Int), .int .i64 cl, .int .i64 (l4 : Int)] 3)) wr.heap.size #[.string gnm, .int .i64 kd, .int .i64 tg, .int .i64 ger, .int .i64 gdr] 114 := (Box.new wr _ _).keep (Below.heap_alloc _ _ _ (by simp))
          have hS2 : Box ((wr.alloc (.cells #[.string gnm, .int .i64 kd, .int .i64 tg, .int .i64 ger, .int .i64 gdr] 114)).alloc (.cells #[.int .i64 (pl.length : Int), .int .i64 cl, .int .i64 (l4 : Int)] 3)) (wr.heap.size + 1) #[.int .i64 (pl.length : Int), .int .i64 cl, .int .i64 (l4 : Int)] 3 := by
            have := Box.new (wr.alloc (.cells #[.string gnm, .int .i64 kd, .int .i64 tg, .int .i64 ger, .int .i64 gdr] 114)) #[.int .i64 (pl.length : Int), .int .i64 cl, .int .i64 (l4 : Int)] 3
            simpa using this
          generalize ((wr.alloc (.cells #[.string gnm, .int .i64 kd, .int .i64 tg, .int .i64 ger, .int .i64 gdr] 114)).alloc (.cells #[.int .i64 (pl.length : Int), .int .i64 cl, .int .i64 (l4 : Int)] 3)) = W at hB2 hX2 hG2 hS2 ⊢
          have g1 : W.cell? ⟨wr.heap.size, 1, none⟩ = some (.int .i64 kd) := hG2.cell rfl
          have g2 : W.cell? ⟨wr.heap.size, 2, none⟩ = some (.int .i64 tg) := hG2.cell rfl
          have g3 : W.cell? ⟨wr.heap.size, 3, none⟩ = some (.int .i64 ger) := hG2.cell rfl
          have g4 : W.cell? ⟨wr.heap.size, 4, none⟩ = some (.int .i64 gdr) := hG2.cell rfl
          have hgz := hG2.lt
          have hsz := hS2.lt
          have hBd := hB2.drew
          have hXd : Box W.drew w.heap.size (#[.string nm, .slice a1 l1 c1, .int .i64 cl, .slice P pl.length cP, .slice a4 l4 c4, .slice a5 l5 c5, .slice a6 l6 c6, .slice a7 l7 c7, .slice a8 l8 c8, .slice a9 l9 c9, .int .i64 er]) 31 := hX2
          have HS2 := Lib.hid hS2
          clear hBa hXa hB2 hX2 hG2 hS2
          clear x1 x2 x3 x4 x5 x6 x7 x8 q0 q1 q2 q3 q4
          cases b1
          · refine Plan.wp_region_below 27 [(0, true), (1, true), (2, false), (3, true), (4, true), (5, true), (6, true), (7, true), (8, true), (9, true), (10, true), (11, true), (12, true), (13, true), (14, true), (15, true), (16, true), (17, true), (18, true), (19, true), (20, true), (21, true), (22, true), (23, true), (24, true), (25, true), (26, true), (27, false)] (by kernel_rfl) (by kernel_rfl) ?_
            (repeat (first | (refine Plan.plan_read (v := ?_) rfl rfl ?_ ?_; rotate_left; (focus ((intro wS hSw; have hkS := (bcell hSw).1; try (have hkT := fun (b o : Nat) (h : b < w.heap.size) => hkS b o (by first | omega | (simp; omega) | (simp; done))); go_simp); try with_reducible rfl)); simp only [Act.put, List.setIfInBounds_toArray, List.set_cons_zero, List.set_cons_succ]) | (refine Plan.plan_skip rfl rfl ?_; simp only [Act.put, List.setIfInBounds_toArray, List.set_cons_zero, List.set_cons_succ])))
            refine Plan.plan_write rfl (fun K hK => ?_)
            go_simp
            go_at_call 31
            (with_reducible refine (K1.out _).mono ?_)
            rintro e4 w4 ⟨rfl, rfl⟩
            try go_simp
            refine hK.out _ _ ((Below.refl _ _).drew) ?_
            clear hK K
            try simp only [Act.put, List.setIfInBounds_toArray, List.set_cons_zero, List.set_cons_succ]
            (repeat (first | (refine Plan.plan_read (v := ?_) rfl rfl ?_ ?_; rotate_left; (focus ((intro wS hSw; have hkS := (bcell hSw).1; try (have hkT := fun (b o : Nat) (h : b < w.heap.size) => hkS b o (by first | omega | (simp; omega) | (simp; done))); go_simp); try with_reducible rfl)); simp only [Act.put, List.setIfInBounds_toArray, List.set_cons_zero, List.set_cons_succ]) | (refine Plan.plan_skip rfl rfl ?_; simp only [Act.put, List.setIfInBounds_toArray, List.set_cons_zero, List.set_cons_succ])))
            refine Plan.plan_last rfl (fun K hK => ?_)
            go_simp
            refine hK.out _ _ ?_
            clear hK K
            try simp only [Act.put, List.setIfInBounds_toArray, List.set_cons_zero, List.set_cons_succ]
            go_wp2_with fail
            go_ret
            exact ⟨false, rfl, hBd⟩
          · have hk : 0 ≤ kd ∧ kd ≤ 2 := by
              have hb1 := Hb1.out
              unfold inB at hb1
              simp only [Bool.and_eq_true, decide_eq_true_eq] at hb1
              exact hb1
            clear Hb1
            obtain ⟨m, rfl⟩ := Int.eq_ofNat_of_zero_le hk.1
            have hm : m < 3 := by omega
            have hm2 : (m : Int) < 3 := by omega
            have hm3 : decide ((m : Int) < 3) = true := decide_eq_true hm2
            have hm4 : ¬ 3 ≤ m := by omega
            obtain ⟨tv, htv⟩ := three_at HS2.out m hm
            obtain ⟨z, hz⟩ : ∃ z, IntKind.i64.wrap (tv - 1) = z := ⟨_, rfl⟩
            have K2 := Lib.hid (fun wx => in_is tg 0 z wx)
            unfold InB at K2
            obtain ⟨b2, hb2⟩ : ∃ b, inB tg 0 z = b := ⟨_, rfl⟩
            rw [hb2] at K2
            clear hb2 hk
            cases b2
            · refine Plan.wp_region_below 27 [(0, true), (1, true), (2, false), (3, true), (4, true), (5, true), (6, true), (7, true), (8, true), (9, true), (10, true), (11, true), (12, true), (13, false), (14, true), (15, true), (16, true), (17, true), (18, true), (19, true), (20, true), (21, true), (22, true), (23, true), (24, true), (25, true), (26, true), (27, false)] (by kernel_rfl) (by kernel_rfl) ?_
              (repeat (first | (refine Plan.plan_read (v := ?_) rfl rfl ?_ ?_; rotate_left; (focus ((intro wS hSw; have hkS := (bcell hSw).1; try (have hkT := fun (b o : Nat) (h : b < w.heap.size) => hkS b o (by first | omega | (simp; omega) | (simp; done))); go_simp); try with_reducible rfl)); simp only [Act.put, List.setIfInBounds_toArray, List.set_cons_zero, List.set_cons_succ]) | (refine Plan.plan_skip rfl rfl ?_; simp only [Act.put, List.setIfInBounds_toArray, List.set_cons_zero, List.set_cons_succ])))
              refine Plan.plan_write rfl (fun K hK => ?_)
              go_simp
              go_at_call 31
              (with_reducible refine (K1.out _).mono ?_)
              rintro e4 w4 ⟨rfl, rfl⟩
              try go_simp
              refine hK.out _ _ ((Below.refl _ _).drew) ?_
              clear hK K
              try simp only [Act.put, List.setIfInBounds_toArray, List.set_cons_zero, List.set_cons_succ]
              (repeat (first | (refine Plan.plan_read (v := ?_) rfl rfl ?_ ?_; rotate_left; (focus ((intro wS hSw; have hkS := (bcell hSw).1; try (have hkT := fun (b o : Nat) (h : b < w.heap.size) => hkS b o (by first | omega | (simp; omega) | (simp; done))); go_simp); try with_reducible rfl)); simp only [Act.put, List.setIfInBounds_toArray, List.set_cons_zero, List.set_cons_succ]) | (refine Plan.plan_skip rfl rfl ?_; simp only [Act.put, List.setIfInBounds_toArray, List.set_cons_zero, List.set_cons_succ])))
              refine Plan.plan_write rfl (fun K hK => ?_)
              go_simp
              go_at_call 31
              (with_reducible refine (K2.out _).mono ?_)
              rintro e5 w5 ⟨rfl, rfl⟩
              try go_simp
              refine hK.out _ _ ((Below.refl _ _).drew) ?_
              clear hK K
              try simp only [Act.put, List.setIfInBounds_toArray, List.set_cons_zero, List.set_cons_succ]
              (repeat (first | (refine Plan.plan_read (v := ?_) rfl rfl ?_ ?_; rotate_left; (focus ((intro wS hSw; have hkS := (bcell hSw).1; try (have hkT := fun (b o : Nat) (h : b < w.heap.size) => hkS b o (by first | omega | (simp; omega) | (simp; done))); go_simp); try with_reducible rfl)); simp only [Act.put, List.setIfInBounds_toArray, List.set_cons_zero, List.set_cons_succ]) | (refine Plan.plan_skip rfl rfl ?_; simp only [Act.put, List.setIfInBounds_toArray, List.set_cons_zero, List.set_cons_succ])))
              refine Plan.plan_last rfl (fun K hK => ?_)
              go_simp
              refine hK.out _ _ ?_
              clear hK K
              try simp only [Act.put, List.setIfInBounds_toArray, List.set_cons_zero, List.set_cons_succ]
              go_wp2_with fail
              go_ret
              exact ⟨false, rfl, hBd⟩
            · cases b3
              · refine Plan.wp_region_below 27 [(0, true), (1, true), (2, false), (3, true), (4, true), (5, true), (6, true), (7, true), (8, true), (9, true), (10, true), (11, true), (12, true), (13, false), (14, true), (15, true), (16, true), (17, true), (18, true), (19, false), (20, true), (21, true), (22, true), (23, true), (24, true), (25, true), (26, true), (27, false)] (by kernel_rfl) (by kernel_rfl) ?_
                (repeat (first | (refine Plan.plan_read (v := ?_) rfl rfl ?_ ?_; rotate_left; (focus ((intro wS hSw; have hkS := (bcell hSw).1; try (have hkT := fun (b o : Nat) (h : b < w.heap.size) => hkS b o (by first | omega | (simp; omega) | (simp; done))); go_simp); try with_reducible rfl)); simp only [Act.put, List.setIfInBounds_toArray, List.set_cons_zero, List.set_cons_succ]) | (refine Plan.plan_skip rfl rfl ?_; simp only [Act.put, List.setIfInBounds_toArray, List.set_cons_zero, List.set_cons_succ])))
                refine Plan.plan_write rfl (fun K hK => ?_)
                go_simp
                go_at_call 31
                (with_reducible refine (K1.out _).mono ?_)
                rintro e4 w4 ⟨rfl, rfl⟩
                try go_simp
                refine hK.out _ _ ((Below.refl _ _).drew) ?_
                clear hK K
                try simp only [Act.put, List.setIfInBounds_toArray, List.set_cons_zero, List.set_cons_succ]
                (repeat (first | (refine Plan.plan_read (v := ?_) rfl rfl ?_ ?_; rotate_left; (focus ((intro wS hSw; have hkS := (bcell hSw).1; try (have hkT := fun (b o : Nat) (h : b < w.heap.size) => hkS b o (by first | omega | (simp; omega) | (simp; done))); go_simp); try with_reducible rfl)); simp only [Act.put, List.setIfInBounds_toArray, List.set_cons_zero, List.set_cons_succ]) | (refine Plan.plan_skip rfl rfl ?_; simp only [Act.put, List.setIfInBounds_toArray, List.set_cons_zero, List.set_cons_succ])))
                refine Plan.plan_write rfl (fun K hK => ?_)
                go_simp
                go_at_call 31
                (with_reducible refine (K2.out _).mono ?_)
                rintro e5 w5 ⟨rfl, rfl⟩
                try go_simp
                refine hK.out _ _ ((Below.refl _ _).drew) ?_
                clear hK K
                try simp only [Act.put, List.setIfInBounds_toArray, List.set_cons_zero, List.set_cons_succ]
                (repeat (first | (refine Plan.plan_read (v := ?_) rfl rfl ?_ ?_; rotate_left; (focus ((intro wS hSw; have hkS := (bcell hSw).1; try (have hkT := fun (b o : Nat) (h : b < w.heap.size) => hkS b o (by first | omega | (simp; omega) | (simp; done))); go_simp); try with_reducible rfl)); simp only [Act.put, List.setIfInBounds_toArray, List.set_cons_zero, List.set_cons_succ]) | (refine Plan.plan_skip rfl rfl ?_; simp only [Act.put, List.setIfInBounds_toArray, List.set_cons_zero, List.set_cons_succ])))
                refine Plan.plan_write rfl (fun K hK => ?_)
                go_simp
                go_at_call 31
                (with_reducible refine (K3.out _).mono ?_)
                rintro e6 w6 ⟨rfl, rfl⟩
                try go_simp
                refine hK.out _ _ ((Below.refl _ _).drew) ?_
                clear hK K
                try simp only [Act.put, List.setIfInBounds_toArray, List.set_cons_zero, List.set_cons_succ]
                (repeat (first | (refine Plan.plan_read (v := ?_) rfl rfl ?_ ?_; rotate_left; (focus ((intro wS hSw; have hkS := (bcell hSw).1; try (have hkT := fun (b o : Nat) (h : b < w.heap.size) => hkS b o (by first | omega | (simp; omega) | (simp; done))); go_simp); try with_reducible rfl)); simp only [Act.put, List.setIfInBounds_toArray, List.set_cons_zero, List.set_cons_succ]) | (refine Plan.plan_skip rfl rfl ?_; simp only [Act.put, List.setIfInBounds_toArray, List.set_cons_zero, List.set_cons_succ])))
                refine Plan.plan_last rfl (fun K hK => ?_)
                go_simp
                refine hK.out _ _ ?_
                clear hK K
                try simp only [Act.put, List.setIfInBounds_toArray, List.set_cons_zero, List.set_cons_succ]
                go_wp2_with fail
                go_ret
                exact ⟨false, rfl, hBd⟩
              · cases b4
                · refine Plan.wp_region_below 27 [(0, true), (1, true), (2, false), (3, true), (4, true), (5, true), (6, true), (7, true), (8, true), (9, true), (10, true), (11, true), (12, true), (13, false), (14, true), (15, true), (16, true), (17, true), (18, true), (19, false), (20, true), (21, true), (22, true), (23, true), (24, true), (25, false), (26, true), (27, false)] (by kernel_rfl) (by kernel_rfl) ?_
                  (repeat (first | (refine Plan.plan_read (v := ?_) rfl rfl ?_ ?_; rotate_left; (focus ((intro wS hSw; have hkS := (bcell hSw).1; try (have hkT := fun (b o : Nat) (h : b < w.heap.size) => hkS b o (by first | omega | (simp; omega) | (simp; done))); go_simp); try with_reducible rfl)); simp only [Act.put, List.setIfInBounds_toArray, List.set_cons_zero, List.set_cons_succ]) | (refine Plan.plan_skip rfl rfl ?_; simp only [Act.put, List.setIfInBounds_toArray, List.set_cons_zero, List.set_cons_succ])))
                  refine Plan.plan_write rfl (fun K hK => ?_)
                  go_simp
                  go_at_call 31
                  (with_reducible refine (K1.out _).mono ?_)
                  rintro e4 w4 ⟨rfl, rfl⟩
                  try go_simp
                  refine hK.out _ _ ((Below.refl _ _).drew) ?_
                  clear hK K
                  try simp only [Act.put, List.setIfInBounds_toArray, List.set_cons_zero, List.set_cons_succ]
                  (repeat (first | (refine Plan.plan_read (v := ?_) rfl rfl ?_ ?_; rotate_left; (focus ((intro wS hSw; have hkS := (bcell hSw).1; try (have hkT := fun (b o : Nat) (h : b < w.heap.size) => hkS b o (by first | omega | (simp; omega) | (simp; done))); go_simp); try with_reducible rfl)); simp only [Act.put, List.setIfInBounds_toArray, List.set_cons_zero, List.set_cons_succ]) | (refine Plan.plan_skip rfl rfl ?_; simp only [Act.put, List.setIfInBounds_toArray, List.set_cons_zero, List.set_cons_succ])))
                  refine Plan.plan_write rfl (fun K hK => ?_)
                  go_simp
                  go_at_call 31
                  (with_reducible refine (K2.out _).mono ?_)
                  rintro e5 w5 ⟨rfl, rfl⟩
                  try go_simp
                  refine hK.out _ _ ((Below.refl _ _).drew) ?_
                  clear hK K
                  try simp only [Act.put, List.setIfInBounds_toArray, List.set_cons_zero, List.set_cons_succ]
                  (repeat (first | (refine Plan.plan_read (v := ?_) rfl rfl ?_ ?_; rotate_left; (focus ((intro wS hSw; have hkS := (bcell hSw).1; try (have hkT := fun (b o : Nat) (h : b < w.heap.size) => hkS b o (by first | omega | (simp; omega) | (simp; done))); go_simp); try with_reducible rfl)); simp only [Act.put, List.setIfInBounds_toArray, List.set_cons_zero, List.set_cons_succ]) | (refine Plan.plan_skip rfl rfl ?_; simp only [Act.put, List.setIfInBounds_toArray, List.set_cons_zero, List.set_cons_succ])))
                  refine Plan.plan_write rfl (fun K hK => ?_)
                  go_simp
                  go_at_call 31
                  (with_reducible refine (K3.out _).mono ?_)
                  rintro e6 w6 ⟨rfl, rfl⟩
                  try go_simp
                  refine hK.out _ _ ((Below.refl _ _).drew) ?_
                  clear hK K
                  try simp only [Act.put, List.setIfInBounds_toArray, List.set_cons_zero, List.set_cons_succ]
                  (repeat (first | (refine Plan.plan_read (v := ?_) rfl rfl ?_ ?_; rotate_left; (focus ((intro wS hSw; have hkS := (bcell hSw).1; try (have hkT := fun (b o : Nat) (h : b < w.heap.size) => hkS b o (by first | omega | (simp; omega) | (simp; done))); go_simp); try with_reducible rfl)); simp only [Act.put, List.setIfInBounds_toArray, List.set_cons_zero, List.set_cons_succ]) | (refine Plan.plan_skip rfl rfl ?_; simp only [Act.put, List.setIfInBounds_toArray, List.set_cons_zero, List.set_cons_succ])))
                  refine Plan.plan_write rfl (fun K hK => ?_)
                  go_simp
                  go_at_call 31
                  (with_reducible refine (K4.out _).mono ?_)
                  rintro e7 w7 ⟨rfl, rfl⟩
                  try go_simp
                  refine hK.out _ _ ((Below.refl _ _).drew) ?_
                  clear hK K
                  try simp only [Act.put, List.setIfInBounds_toArray, List.set_cons_zero, List.set_cons_succ]
                  (repeat (first | (refine Plan.plan_read (v := ?_) rfl rfl ?_ ?_; rotate_left; (focus ((intro wS hSw; have hkS := (bcell hSw).1; try (have hkT := fun (b o : Nat) (h : b < w.heap.size) => hkS b o (by first | omega | (simp; omega) | (simp; done))); go_simp); try with_reducible rfl)); simp only [Act.put, List.setIfInBounds_toArray, List.set_cons_zero, List.set_cons_succ]) | (refine Plan.plan_skip rfl rfl ?_; simp only [Act.put, List.setIfInBounds_toArray, List.set_cons_zero, List.set_cons_succ])))
                  refine Plan.plan_last rfl (fun K hK => ?_)
                  go_simp
                  refine hK.out _ _ ?_
                  clear hK K
                  try simp only [Act.put, List.setIfInBounds_toArray, List.set_cons_zero, List.set_cons_succ]
                  go_wp2_with fail
                  go_ret
                  exact ⟨false, rfl, hBd⟩
                · refine Plan.wp_region_below 27 [(0, true), (1, true), (2, false), (3, true), (4, true), (5, true), (6, true), (7, true), (8, true), (9, true), (10, true), (11, true), (12, true), (13, false), (14, true), (15, true), (16, true), (17, true), (18, true), (19, false), (20, true), (21, true), (22, true), (23, true), (24, true), (25, false), (26, true), (27, false)] (by kernel_rfl) (by kernel_rfl) ?_
                  (repeat (first | (refine Plan.plan_read (v := ?_) rfl rfl ?_ ?_; rotate_left; (focus ((intro wS hSw; have hkS := (bcell hSw).1; try (have hkT := fun (b o : Nat) (h : b < w.heap.size) => hkS b o (by first | omega | (simp; omega) | (simp; done))); go_simp); try with_reducible rfl)); simp only [Act.put, List.setIfInBounds_toArray, List.set_cons_zero, List.set_cons_succ]) | (refine Plan.plan_skip rfl rfl ?_; simp only [Act.put, List.setIfInBounds_toArray, List.set_cons_zero, List.set_cons_succ])))
                  refine Plan.plan_write rfl (fun K hK => ?_)
                  go_simp
                  go_at_call 31
                  (with_reducible refine (K1.out _).mono ?_)
                  rintro e4 w4 ⟨rfl, rfl⟩
                  try go_simp
                  refine hK.out _ _ ((Below.refl _ _).drew) ?_
                  clear hK K
                  try simp only [Act.put, List.setIfInBounds_toArray, List.set_cons_zero, List.set_cons_succ]
                  (repeat (first | (refine Plan.plan_read (v := ?_) rfl rfl ?_ ?_; rotate_left; (focus ((intro wS hSw; have hkS := (bcell hSw).1; try (have hkT := fun (b o : Nat) (h : b < w.heap.size) => hkS b o (by first | omega | (simp; omega) | (simp; done))); go_simp); try with_reducible rfl)); simp only [Act.put, List.setIfInBounds_toArray, List.set_cons_zero, List.set_cons_succ]) | (refine Plan.plan_skip rfl rfl ?_; simp only [Act.put, List.setIfInBounds_toArray, List.set_cons_zero, List.set_cons_succ])))
                  refine Plan.plan_write rfl (fun K hK => ?_)
                  go_simp
                  go_at_call 31
                  (with_reducible refine (K2.out _).mono ?_)
                  rintro e5 w5 ⟨rfl, rfl⟩
                  try go_simp
                  refine hK.out _ _ ((Below.refl _ _).drew) ?_
                  clear hK K
                  try simp only [Act.put, List.setIfInBounds_toArray, List.set_cons_zero, List.set_cons_succ]
                  (repeat (first | (refine Plan.plan_read (v := ?_) rfl rfl ?_ ?_; rotate_left; (focus ((intro wS hSw; have hkS := (bcell hSw).1; try (have hkT := fun (b o : Nat) (h : b < w.heap.size) => hkS b o (by first | omega | (simp; omega) | (simp; done))); go_simp); try with_reducible rfl)); simp only [Act.put, List.setIfInBounds_toArray, List.set_cons_zero, List.set_cons_succ]) | (refine Plan.plan_skip rfl rfl ?_; simp only [Act.put, List.setIfInBounds_toArray, List.set_cons_zero, List.set_cons_succ])))
                  refine Plan.plan_write rfl (fun K hK => ?_)
                  go_simp
                  go_at_call 31
                  (with_reducible refine (K3.out _).mono ?_)
                  rintro e6 w6 ⟨rfl, rfl⟩
                  try go_simp
                  refine hK.out _ _ ((Below.refl _ _).drew) ?_
                  clear hK K
                  try simp only [Act.put, List.setIfInBounds_toArray, List.set_cons_zero, List.set_cons_succ]
                  (repeat (first | (refine Plan.plan_read (v := ?_) rfl rfl ?_ ?_; rotate_left; (focus ((intro wS hSw; have hkS := (bcell hSw).1; try (have hkT := fun (b o : Nat) (h : b < w.heap.size) => hkS b o (by first | omega | (simp; omega) | (simp; done))); go_simp); try with_reducible rfl)); simp only [Act.put, List.setIfInBounds_toArray, List.set_cons_zero, List.set_cons_succ]) | (refine Plan.plan_skip rfl rfl ?_; simp only [Act.put, List.setIfInBounds_toArray, List.set_cons_zero, List.set_cons_succ])))
                  refine Plan.plan_write rfl (fun K hK => ?_)
                  go_simp
                  go_at_call 31
                  (with_reducible refine (K4.out _).mono ?_)
                  rintro e7 w7 ⟨rfl, rfl⟩
                  try go_simp
                  refine hK.out _ _ ((Below.refl _ _).drew) ?_
                  clear hK K
                  try simp only [Act.put, List.setIfInBounds_toArray, List.set_cons_zero, List.set_cons_succ]
                  (repeat (first | (refine Plan.plan_read (v := ?_) rfl rfl ?_ ?_; rotate_left; (focus ((intro wS hSw; have hkS := (bcell hSw).1; try (have hkT := fun (b o : Nat) (h : b < w.heap.size) => hkS b o (by first | omega | (simp; omega) | (simp; done))); go_simp); try with_reducible rfl)); simp only [Act.put, List.setIfInBounds_toArray, List.set_cons_zero, List.set_cons_succ]) | (refine Plan.plan_skip rfl rfl ?_; simp only [Act.put, List.setIfInBounds_toArray, List.set_cons_zero, List.set_cons_succ])))
                  refine Plan.plan_last rfl (fun K hK => ?_)
                  go_simp
                  refine hK.out _ _ ?_
                  clear hK K
                  try simp only [Act.put, List.setIfInBounds_toArray, List.set_cons_zero, List.set_cons_succ]
                  go_wp2_with fail
                  go_roundw
                  case rel => exact ⟨i + 1, by omega, by go_num, hXd, hBd⟩
                  case measure => simp [intOf]; omega
        · obtain rfl : l6 = i := by omega
          clear hlt hi x1 x2 x3 x4 hwz
          go_wp2_with fail
          go_loopw [10] (fun iv wr => ∃ i : Nat, i ≤ l7 ∧ iv = .int .i64 i ∧ Box wr w.heap.size (#[.string nm, .slice a1 l1 c1, .int .i64 cl, .slice P pl.length cP, .slice a4 l4 c4, .slice a5 l5 c5, .slice a6 l6 c6, .slice a7 l7 c7, .slice a8 l8 c8, .slice a9 l9 c9, .int .i64 er]) 31 ∧ Below w.heap.size w wr) (fun iv _ => l7 - (intOf iv).toNat)
          case atStart => exact ⟨0, Nat.zero_le _, rfl, hX, hB⟩
          case round =>
            clear hX hB
            obtain ⟨i, hi, rfl, hX, hB⟩ := hrel
            have x1 : wr.cell? ⟨w.heap.size, 1, none⟩ = some (.slice a1 l1 c1) := hX.cell rfl
            have x2 : wr.cell? ⟨w.heap.size, 2, none⟩ = some (.int .i64 cl) := hX.cell rfl
            have x3 : wr.cell? ⟨w.heap.size, 3, none⟩ = some (.slice P pl.length cP) := hX.cell rfl
            have x4 : wr.cell? ⟨w.heap.size, 4, none⟩ = some (.slice a4 l4 c4) := hX.cell rfl
            have x5 : wr.cell? ⟨w.heap.size, 5, none⟩ = some (.slice a5 l5 c5) := hX.cell rfl
            have x6 : wr.cell? ⟨w.heap.size, 6, none⟩ = some (.slice a6 l6 c6) := hX.cell rfl
            have x7 : wr.cell? ⟨w.heap.size, 7, none⟩ = some (.slice a7 l7 c7) := hX.cell rfl
            have x8 : wr.cell? ⟨w.heap.size, 8, none⟩ = some (.slice a8 l8 c8) := hX.cell rfl
            have hwz := hX.lt
            by_cases hlt : i < l7
            · obtain ⟨b, off, p, ec, hb, _, q0, q1, q2, q3, q4, q5, q6⟩ := Rd.at_ (HO.out.below hB).roa hlt
              dsimp only at ec
              rw [ec] at x7
              have Hec := Lib.hid ec
              clear ec
              have hbw : b < wr.heap.size := by have := hB.size; omega
              have hBa := hB.alloc hB.size (.cells p.cells.toArray 116)
              have hXa : Box (wr.alloc (.cells p.cells.toArray 116)) w.heap.size (#[.string nm, .slice a1 l1 c1, .int .i64 cl, .slice P pl.length cP, .slice a4 l4 c4, .slice a5 l5 c5, .slice a6 l6 c6, .slice a7 l7 c7, .slice a8 l8 c8, .slice a9 l9 c9, .int .i64 er]) 31 := hX.keep (Below.heap_alloc _ _ _ hwz)
              obtain ⟨rnm, rf, rt, rh, rw1, rb, rl⟩ := p
              dsimp only [Rd.cells] at *
              obtain ⟨d1, gd1⟩ : ∃ b, (rf == rt) = b := ⟨_, rfl⟩
              obtain ⟨d2, gd2⟩ : ∃ b, decide (rb < 0) = b := ⟨_, rfl⟩
              obtain ⟨d3, gd3⟩ : ∃ b, decide (0 < rl) = b := ⟨_, rfl⟩
              go_upto_region 20 with fail
              simp only [List.append_eq, List.cons_append, List.nil_append]
              go_cut [189] from 124 to 189 (fun s189 wx => IsB s189 ∧ wx = wr.alloc (.cells #[.string rnm, .int .i64 rf, .int .i64 rt, .int .i64 rh, .int .i64 rw1, .int .i64 rb, .int .i64 rl] 116))
              case first =>
                repeat (rename (∀ (a : Act) (w : World), Code.wp _ _ _ a w → _) => A1; clear A1)
                clear hBa hXa hX hB Hec HO hb
                go_wp2_with (first | (go_at_call 31; (with_reducible refine (KI.out _ _ _ _).mono ?_); rintro e5 w5 ⟨b, rfl, rfl, _⟩; cases b) | (go_at_call 32; (with_reducible refine (KV.out _ _).mono ?_); rintro e5 w5 ⟨b, rfl, rfl⟩; cases b) | fail)
                all_goals
                  go_meet
                  exact ⟨⟨_, rfl⟩, rfl⟩
              case rest =>
                obtain ⟨⟨b9, rfl⟩, rfl⟩ := hcut
                go_wp2_with fail
                all_goals first
                  | (go_ret; exact ⟨false, rfl, hBa⟩)
                  | (go_roundw
                     case rel => exact ⟨i + 1, by omega, by go_num, hXa, hBa⟩
                     case measure => simp [intOf]; omega)
            · obtain rfl : l7 = i := by omega
              clear hlt hi x1 x2 x3 x4 hwz
              go_wp2_with fail
              go_loopw [12] (fun iv wr => ∃ i : Nat, i ≤ l8 ∧ iv = .int .i64 i ∧ Box wr w.heap.size (#[.string nm, .slice a1 l1 c1, .int .i64 cl, .slice P pl.length cP, .slice a4 l4 c4, .slice a5 l5 c5, .slice a6 l6 c6, .slice a7 l7 c7, .slice a8 l8 c8, .slice a9 l9 c9, .int .i64 er]) 31 ∧ Below w.heap.size w wr) (fun iv _ => l8 - (intOf iv).toNat)
              case atStart => exact ⟨0, Nat.zero_le _, rfl, hX, hB⟩
              case round =>
                clear hX hB
                obtain ⟨i, hi, rfl, hX, hB⟩ := hrel
                have x1 : wr.cell? ⟨w.heap.size, 1, none⟩ = some (.slice a1 l1 c1) := hX.cell rfl
                have x2 : wr.cell? ⟨w.heap.size, 2, none⟩ = some (.int .i64 cl) := hX.cell rfl
                have x3 : wr.cell? ⟨w.heap.size, 3, none⟩ = some (.slice P pl.length cP) := hX.cell rfl
                have x4 : wr.cell? ⟨w.heap.size, 4, none⟩ = some (.slice a4 l4 c4) := hX.cell rfl
                have x5 : wr.cell? ⟨w.heap.size, 5, none⟩ = some (.slice a5 l5 c5) := hX.cell rfl
                have x6 : wr.cell? ⟨w.heap.size, 6, none⟩ = some (.slice a6 l6 c6) := hX.cell rfl
                have x7 : wr.cell? ⟨w.heap.size, 7, none⟩ = some (.slice a7 l7 c7) := hX.cell rfl
                have x8 : wr.cell? ⟨w.heap.size, 8, none⟩ = some (.slice a8 l8 c8) := hX.cell rfl
                have hwz := hX.lt
                by_cases hlt : i < l8
                · obtain ⟨b, off, p, ec, hb, _, q0, q1⟩ := Sh.at_ (HO.out.below hB).she hlt
                  dsimp only at ec
                  rw [ec] at x8
                  have Hec := Lib.hid ec
                  clear ec
                  have hbw : b < wr.heap.size := by have := hB.size; omega
                  have hBa := hB.alloc hB.size (.cells p.cells.toArray 112)
                  have hXa : Box (wr.alloc (.cells p.cells.toArray 112)) w.heap.size (#[.string nm, .slice a1 l1 c1, .int .i64 cl, .slice P pl.length cP, .slice a4 l4 c4, .slice a5 l5 c5, .slice a6 l6 c6, .slice a7 l7 c7, .slice a8 l8 c8, .slice a9 l9 c9, .int .i64 er]) 31 := hX.keep (Below.heap_alloc _ _ _ hwz)
                  go_wp2_with (first | (go_at_call 31; (with_reducible refine (KI.out _ _ _ _).mono ?_); rintro e5 w5 ⟨b, rfl, rfl, _⟩; cases b) | (go_at_call 32; (with_reducible refine (KV.out _ _).mono ?_); rintro e5 w5 ⟨b, rfl, rfl⟩; cases b) | fail)
                  all_goals first
                    | (go_ret; exact ⟨false, rfl, hB⟩)
                    | (go_roundw
                       case rel => exact ⟨i + 1, by omega, by go_num, hX, hB⟩
                       case measure => simp [intOf]; omega)
                · obtain rfl : l8 = i := by omega
                  clear hlt hi x1 x2 x3 x4 hwz
                  go_wp2_with fail
                  go_ret
                  exact ⟨true, rfl, hB⟩
end Go.Proofs.Ythoigjkelinjhaa.RT
