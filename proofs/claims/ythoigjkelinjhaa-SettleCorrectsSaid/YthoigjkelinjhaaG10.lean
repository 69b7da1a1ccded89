/- The walk of sloped. (Printed by gen_g10.py.) -/
import Derived.Test.YthoigjkelinjhaaG7
set_option linter.unusedSimpArgs false
set_option linter.unusedVariables false
namespace Go.Proofs.Ythoigjkelinjhaa.RT
open Go.RowKit BV
attribute [local go_sem] alloc_drewN setCell_drewN shape_drewN
def IsI (v : Value) : Prop := ∃ n : Int, v = .int .i64 n
theorem lk_at' {w : World} {B len : Nat} {C : Option Addr} (h : Sl w B 108 18 C len) {i : Nat} (hi : i < len) : ∃ (b off : Nat) (p : Lk), C = some ⟨b, off, none⟩ ∧ b < B ∧ p.ok w B ∧ w.rangeAt b (off + i * 18) p.cells := lk_at h hi
set_option maxRecDepth 100000 in
set_option maxHeartbeats 8000000 in
theorem sloped_any (X : Bas) (pl : CM.Pl) (p : Nat) (w : World) (hX : BasOk w w.heap.size X pl) (hp : p < pl.length) : Calls Try.prog 36 #[.agg #[.string X.nm, .slice X.a1 X.l1 X.c1, .int .i64 X.cl, .slice X.P pl.length X.cP, .slice X.a4 X.l4 X.c4, .slice X.a5 X.l5 X.c5, .slice X.a6 X.l6 X.c6, .slice X.a7 X.l7 X.c7, .slice X.a8 X.l8 X.c8, .slice X.a9 X.l9 X.c9, .int .i64 X.er], .int .i64 p] w (SomeI w) := by
  have hpl := hX.pla.1
  have hll := hX.lnk.1
  obtain ⟨nm, a1, l1, c1, cl, P, cP, a4, l4, c4, a5, l5, c5, a6, l6, c6, a7, l7, c7, a8, l8, c8, a9, l9, c9, er⟩ := X
  dsimp only at hll ⊢
  have hB0 : Below w.heap.size w (w.alloc (.cells (#[.string nm, .slice a1 l1 c1, .int .i64 cl, .slice P pl.length cP, .slice a4 l4 c4, .slice a5 l5 c5, .slice a6 l6 c6, .slice a7 l7 c7, .slice a8 l8 c8, .slice a9 l9 c9, .int .i64 er]) 31)) := (Below.refl _ _).alloc (Nat.le_refl _) _
  have hX0 : Box (w.alloc (.cells (#[.string nm, .slice a1 l1 c1, .int .i64 cl, .slice P pl.length cP, .slice a4 l4 c4, .slice a5 l5 c5, .slice a6 l6 c6, .slice a7 l7 c7, .slice a8 l8 c8, .slice a9 l9 c9, .int .i64 er]) 31)) w.heap.size (#[.string nm, .slice a1 l1 c1, .int .i64 cl, .slice P pl.length cP, .slice a4 l4 c4, .slice a5 l5 c5, .slice a6 l6 c6, .slice a7 l7 c7, .slice a8 l8 c8, .slice a9 l9 c9, .int .i64 er]) 31 := Box.new w _ _
  have HO := Lib.hid hX
  have KS := Lib.hid (fun n d wx => slope_any n d wx)
  obtain ⟨_, fs, hu, _⟩ := fieldsLk
  have HU := Lib.hid hu
  obtain ⟨bq, offq, r, ecq, hbq, _, q0, q1, q2, q3, q4, q5, q6, q7, _⟩ := Pv.at_ hX.pla hp
  dsimp only at ecq
  subst ecq
  have m6 := (hB0.cell (p := ⟨bq, offq + p * 12 + 6, none⟩) hbq).trans q6
  have m7 := (hB0.cell (p := ⟨bq, offq + p * 12 + 7, none⟩) hbq).trans q7
  clear hX hu q0 q1 q2 q3 q4 q5 q6 q7
  go_enter Try.func36, Try.ntmps36
  go_upto_region 1 with fail
  generalize (w.alloc (.cells (#[.string nm, .slice a1 l1 c1, .int .i64 cl, .slice (some ⟨bq, offq, none⟩) pl.length cP, .slice a4 l4 c4, .slice a5 l5 c5, .slice a6 l6 c6, .slice a7 l7 c7, .slice a8 l8 c8, .slice a9 l9 c9, .int .i64 er]) 31)) = w0 at hB0 hX0 m6 m7 ⊢
  have hwz : w.heap.size < w0.heap.size := hX0.lt
  have hbq0 : bq < w0.heap.size := by omega
  have x3 : w0.cell? ⟨w.heap.size, 3, none⟩ = some (.slice (some ⟨bq, offq, none⟩) pl.length cP) := hX0.cell rfl
  refine Plan.wp_region_below 13 [(0, true), (1, true), (2, true), (3, true), (4, true), (5, true), (6, true), (7, true), (8, true), (9, true), (10, true), (11, true), (12, false), (13, false)] (by kernel_rfl) (by kernel_rfl) ?_
  (repeat (first | (refine Plan.plan_read (v := ?_) rfl rfl ?_ ?_; rotate_left; (focus ((intro wS hSw; have hkS := (bcell hSw).1; try (have hkT := fun (b o : Nat) (h : b < w.heap.size) => hkS b o (by first | omega | (simp; omega) | (simp; done))); go_simp); try with_reducible rfl)); simp only [Act.put, List.setIfInBounds_toArray, List.set_cons_zero, List.set_cons_succ]) | (refine Plan.plan_skip rfl rfl ?_; simp only [Act.put, List.setIfInBounds_toArray, List.set_cons_zero, List.set_cons_succ])))
  refine Plan.plan_write rfl (fun K hK => ?_)
  go_simp
  go_at_call 50
  (with_reducible refine (KS.out _ _ _).mono ?_)
  rintro e4 w4 ⟨n4, rfl, rfl⟩
  try go_simp
  refine hK.out _ _ ((Below.refl _ _).drew) ?_
  clear hK K
  try simp only [Act.put, List.setIfInBounds_toArray, List.set_cons_zero, List.set_cons_succ]
  (repeat (first | (refine Plan.plan_read (v := ?_) rfl rfl ?_ ?_; rotate_left; (focus ((intro wS hSw; have hkS := (bcell hSw).1; try (have hkT := fun (b o : Nat) (h : b < w.heap.size) => hkS b o (by first | omega | (simp; omega) | (simp; done))); go_simp); try with_reducible rfl)); simp only [Act.put, List.setIfInBounds_toArray, List.set_cons_zero, List.set_cons_succ]) | (refine Plan.plan_skip rfl rfl ?_; simp only [Act.put, List.setIfInBounds_toArray, List.set_cons_zero, List.set_cons_succ])))
  refine Plan.plan_last rfl (fun K hK => ?_)
  go_simp
  refine hK.out _ _ ?_
  clear hK K
  try simp only [Act.put, List.setIfInBounds_toArray, List.set_cons_zero, List.set_cons_succ]
  clear m6 m7 x3
  go_wp2_with fail
  go_loopw [5, 6] (fun sv iv wr => ∃ (s : Int) (i : Nat), i ≤ l4 ∧ iv = .int .i64 i ∧ sv = .int .i64 s ∧ Box wr w.heap.size (#[.string nm, .slice a1 l1 c1, .int .i64 cl, .slice (some ⟨bq, offq, none⟩) pl.length cP, .slice a4 l4 c4, .slice a5 l5 c5, .slice a6 l6 c6, .slice a7 l7 c7, .slice a8 l8 c8, .slice a9 l9 c9, .int .i64 er]) 31 ∧ Below w.heap.size w wr) (fun _ iv _ => l4 - (intOf iv).toNat)
  case atStart => exact ⟨_, 0, Nat.zero_le _, rfl, rfl, hX0, hB0.drew⟩
  case round =>
    clear hX0 hB0 hwz hbq0
    obtain ⟨s, i, hi, rfl, rfl, hX, hB⟩ := hrel
    have x4 : wr.cell? ⟨w.heap.size, 4, none⟩ = some (.slice a4 l4 c4) := hX.cell rfl
    have hwz := hX.lt
    by_cases hlt : i < l4
    · obtain ⟨bl, offl, q, hal, hbl, hqo, hra0⟩ := lk_at' HO.out.lnk hlt
      have hra : wr.rangeAt bl (offl + i * 18) q.cells := fun j u hu => (hB.cell (p := ⟨bl, offl + i * 18 + j, none⟩) hbl).trans (hra0 j u hu)
      dsimp only at hal
      rw [hal] at x4
      have Hal := Lib.hid hal
      have HR := Lib.hid hra
      have HQ := Lib.hid hqo
      have hblw : bl < wr.heap.size := by have := hB.size; omega
      clear hal hra hra0 hqo
      have hY2 : Box (wr.alloc (.cells (#[.string ⟨#[]⟩, .int .i64 0, .int .i64 0, .int .i64 0, .slice none 0 0, .slice none 0 0, .slice none 0 0, .int .i64 0, .int .i64 0, .int .i64 0, .int .i64 0, .int .i64 0, .int .i64 0, .int .i64 0, .int .i64 0, .int .i64 0, .int .i64 0, .int .i64 0]) 108)) wr.heap.size (#[.string ⟨#[]⟩, .int .i64 0, .int .i64 0, .int .i64 0, .slice none 0 0, .slice none 0 0, .slice none 0 0, .int .i64 0, .int .i64 0, .int .i64 0, .int .i64 0, .int .i64 0, .int .i64 0, .int .i64 0, .int .i64 0, .int .i64 0, .int .i64 0, .int .i64 0]) 108 := Box.new _ _ _
      have hX2 : Box (wr.alloc (.cells (#[.string ⟨#[]⟩, .int .i64 0, .int .i64 0, .int .i64 0, .slice none 0 0, .slice none 0 0, .slice none 0 0, .int .i64 0, .int .i64 0, .int .i64 0, .int .i64 0, .int .i64 0, .int .i64 0, .int .i64 0, .int .i64 0, .int .i64 0, .int .i64 0, .int .i64 0]) 108)) w.heap.size (#[.string nm, .slice a1 l1 c1, .int .i64 cl, .slice (some ⟨bq, offq, none⟩) pl.length cP, .slice a4 l4 c4, .slice a5 l5 c5, .slice a6 l6 c6, .slice a7 l7 c7, .slice a8 l8 c8, .slice a9 l9 c9, .int .i64 er]) 31 := hX.keep (Below.heap_alloc _ _ _ hwz)
      have hB2 : Below w.heap.size w (wr.alloc (.cells (#[.string ⟨#[]⟩, .int .i64 0, .int .i64 0, .int .i64 0, .slice none 0 0, .slice none 0 0, .slice none 0 0, .int .i64 0, .int .i64 0, .int .i64 0, .int .i64 0, .int .i64 0, .int .i64 0, .int .i64 0, .int .i64 0, .int .i64 0, .int .i64 0, .int .i64 0]) 108)) := hB.alloc hB.size _
      have hne : w.heap.size ≠ wr.heap.size := by omega
      have Hth := Lib.hid (hY2.there (n := q.cells.toArray.size) rfl)
      have HX3 := Lib.hid (hX2.keep (heap_all hne q.cells.toArray.toList 0 _))
      have HY3 := Lib.hid (hY2.all q.cells.toArray.toList rfl)
      have hB3 := below_all hB2 (show w.heap.size ≤ wr.heap.size by omega) q.cells.toArray.toList 0
      clear hX2 hY2 hB2
      go_upto_region 6 with (first | (refine wpList_load_mid (by rfl) 108 _ (by rfl) bl (offl + i * 18) (by rfl) q.cells _ HR.out HU.out rfl (lkInfo q) ?_) | (refine wpList_store_mid (by rfl) 108 _ _ (by rfl) wr.heap.size 0 q.cells.toArray (by rfl) (by rfl) Hth.out (by simpa using lkInfo q) (lkOne q) ?_) | fail)
      generalize ((wr.alloc (.cells (#[.string ⟨#[]⟩, .int .i64 0, .int .i64 0, .int .i64 0, .slice none 0 0, .slice none 0 0, .slice none 0 0, .int .i64 0, .int .i64 0, .int .i64 0, .int .i64 0, .int .i64 0, .int .i64 0, .int .i64 0, .int .i64 0, .int .i64 0, .int .i64 0, .int .i64 0]) 108)).setCells wr.heap.size 0 q.cells) = W at HX3 HY3 hB3 ⊢
      clear Hth
      have HQw := HQ
      generalize wr.heap.size = b7 at HX3 HY3 ⊢
      have hX := HX3.out
      have hY := HY3.out
      have hB := hB3
      have KT1 := Lib.hid (fun wx (h : Below w.heap.size w wx) => steepest_any q.art q.lrt q.crt wx (HQw.out.up h).1)
      have KT2 := Lib.hid (fun wx (h : Below w.heap.size w wx) => steepest_any q.aL q.lL q.cL wx (HQw.out.up h).2.1)
      have KT3 := Lib.hid (fun wx (h : Below w.heap.size w wx) => steepest_any q.aH q.lH q.cH wx (HQw.out.up h).2.2)
      clear HX3 HY3 hB3 x4
      obtain ⟨f, hf⟩ : ∃ x, q.frm = x := ⟨_, rfl⟩
      obtain ⟨g, hg⟩ : ∃ x, q.to_ = x := ⟨_, rfl⟩
      have y2 : W.cell? ⟨b7, 2, none⟩ = some (.int .i64 f) := by rw [← hf]; exact hY.cell rfl
      have y1 : W.cell? ⟨b7, 1, none⟩ = some (.int .i64 q.kind) := hY.cell rfl
      have hbW := hY.lt
      go_upto_if 36 with fail
      go_cut [5] from 36 to 77 (fun s5 wx => IsI s5 ∧ Below W.heap.size W wx)
      case first =>
        by_cases hfp : f = (p : Int)
        · have e1 : (f == (p : Int)) = true := by simp [hfp]
          clear hfp hf hg
          by_cases hk0 : q.kind = 0
          · have y4 : W.cell? ⟨b7, 4, none⟩ = some (.slice q.art q.lrt q.crt) := hY.cell rfl
            have y5 : W.cell? ⟨b7, 5, none⟩ = some (.slice q.aL q.lL q.cL) := hY.cell rfl
            have y6 : W.cell? ⟨b7, 6, none⟩ = some (.slice q.aH q.lH q.cH) := hY.cell rfl
            have k0 : (q.kind == 0) = true := by simp [hk0]
            clear hk0
            go_wp2_with fail
            refine Plan.wp_region_tree (.rd 0 (.rd 1 (.rd 2 (.rd 4 (.rd 5 (.rd 6 (.rd 8 (.rd 9 (.rd 10 (.wr 3 (.wr 7 (.wr 11 (.rd 12 (.rd 13 (.rd 14 (.rd 15 .done)))))))))))))))) (by kernel_rfl) (by kernel_rfl) ?_
            (repeat (first | (refine Plan.tree_read (v := ?_) rfl rfl ?_ ?_; rotate_left; (focus ((intro wS hSw; have hkS := (bcell hSw).1; go_simp); try with_reducible rfl)); simp only [Act.put, List.setIfInBounds_toArray, List.set_cons_zero, List.set_cons_succ]) | (refine Plan.tree_skip rfl rfl ?_; simp only [Act.put, List.setIfInBounds_toArray, List.set_cons_zero, List.set_cons_succ])))
            (refine Plan.tree_write rfl (fun K hK => ?_); try go_simp)
            go_at_call 51
            (with_reducible refine (KT1.out _ hB.drew).mono ?_)
            rintro e4 w4 ⟨n4, rfl, hb4⟩
            have kB4 : Below W.heap.size W w4 := (Below.refl W.heap.size W).drew.trans (hb4.mono (Below.refl W.heap.size W).drew.size)
            (refine hK.out _ _ (kB4) ?_; clear hK K; try simp only [Act.put, List.setIfInBounds_toArray, List.set_cons_zero, List.set_cons_succ])
            (repeat (first | (refine Plan.tree_read (v := ?_) rfl rfl ?_ ?_; rotate_left; (focus ((intro wS hSw; have hkS := (bcell hSw).1; go_simp); try with_reducible rfl)); simp only [Act.put, List.setIfInBounds_toArray, List.set_cons_zero, List.set_cons_succ]) | (refine Plan.tree_skip rfl rfl ?_; simp only [Act.put, List.setIfInBounds_toArray, List.set_cons_zero, List.set_cons_succ])))
            (refine Plan.tree_write rfl (fun K hK => ?_); try go_simp)
            go_at_call 51
            (with_reducible refine (KT2.out _ (hB.trans (kB4.mono hB.size))).mono ?_)
            rintro e5 w5 ⟨n5, rfl, hb5⟩
            have kB5 : Below W.heap.size W w5 := kB4.trans (hb5.mono kB4.size)
            (refine hK.out _ _ (kB5) ?_; clear hK K; try simp only [Act.put, List.setIfInBounds_toArray, List.set_cons_zero, List.set_cons_succ])
            (repeat (first | (refine Plan.tree_read (v := ?_) rfl rfl ?_ ?_; rotate_left; (focus ((intro wS hSw; have hkS := (bcell hSw).1; go_simp); try with_reducible rfl)); simp only [Act.put, List.setIfInBounds_toArray, List.set_cons_zero, List.set_cons_succ]) | (refine Plan.tree_skip rfl rfl ?_; simp only [Act.put, List.setIfInBounds_toArray, List.set_cons_zero, List.set_cons_succ])))
            (refine Plan.tree_write rfl (fun K hK => ?_); try go_simp)
            go_at_call 51
            (with_reducible refine (KT3.out _ (hB.trans (kB5.mono hB.size))).mono ?_)
            rintro e6 w6 ⟨n6, rfl, hb6⟩
            have kB6 : Below W.heap.size W w6 := kB5.trans (hb6.mono kB5.size)
            (refine hK.out _ _ (kB6) ?_; clear hK K; try simp only [Act.put, List.setIfInBounds_toArray, List.set_cons_zero, List.set_cons_succ])
            (repeat (first | (refine Plan.tree_read (v := ?_) rfl rfl ?_ ?_; rotate_left; (focus ((intro wS hSw; have hkS := (bcell hSw).1; go_simp); try with_reducible rfl)); simp only [Act.put, List.setIfInBounds_toArray, List.set_cons_zero, List.set_cons_succ]) | (refine Plan.tree_skip rfl rfl ?_; simp only [Act.put, List.setIfInBounds_toArray, List.set_cons_zero, List.set_cons_succ])))
            refine Plan.tree_done ?_
            go_wp2_with fail
            all_goals
              go_meet
              exact ⟨⟨_, rfl⟩, kB6⟩
          · skip
            by_cases hk1 : q.kind = 1
            · have k0 : (q.kind == 0) = false := by simp; omega
              have k1 : (q.kind == 1) = true := by simp [hk1]
              clear hk0 hk1
              have y11 : W.cell? ⟨b7, 11, none⟩ = some (.int .i64 q.num) := hY.cell rfl
              have y12 : W.cell? ⟨b7, 12, none⟩ = some (.int .i64 q.den) := hY.cell rfl
              go_wp2_with (first | (go_at_call 50; (with_reducible refine (KS.out _ _ _).mono ?_); rintro e5 w5 ⟨n5, rfl, rfl⟩) | fail)
              all_goals
                go_meet
                exact ⟨⟨_, rfl⟩, Below.refl _ _⟩
            · skip
              by_cases hk5 : q.kind = 5
              · have k0 : (q.kind == 0) = false := by simp; omega
                have k1 : (q.kind == 1) = false := by simp; omega
                have k5 : (q.kind == 5) = true := by simp [hk5]
                clear hk0 hk1 hk5
                have y11 : W.cell? ⟨b7, 11, none⟩ = some (.int .i64 q.num) := hY.cell rfl
                have y12 : W.cell? ⟨b7, 12, none⟩ = some (.int .i64 q.den) := hY.cell rfl
                go_wp2_with (first | (go_at_call 50; (with_reducible refine (KS.out _ _ _).mono ?_); rintro e5 w5 ⟨n5, rfl, rfl⟩) | fail)
                all_goals
                  go_meet
                  exact ⟨⟨_, rfl⟩, Below.refl _ _⟩
              · skip
                by_cases hk3 : q.kind = 3
                · have k0 : (q.kind == 0) = false := by simp; omega
                  have k1 : (q.kind == 1) = false := by simp; omega
                  have k5 : (q.kind == 5) = false := by simp; omega
                  have k3 : (q.kind == 3) = true := by simp [hk3]
                  clear hk0 hk1 hk5 hk3
                  have y11 : W.cell? ⟨b7, 11, none⟩ = some (.int .i64 q.num) := hY.cell rfl
                  have y12 : W.cell? ⟨b7, 12, none⟩ = some (.int .i64 q.den) := hY.cell rfl
                  go_wp2_with (first | (go_at_call 50; (with_reducible refine (KS.out _ _ _).mono ?_); rintro e5 w5 ⟨n5, rfl, rfl⟩) | fail)
                  all_goals
                    go_meet
                    exact ⟨⟨_, rfl⟩, Below.refl _ _⟩
                · skip
                  by_cases hk4 : q.kind = 4
                  · have k0 : (q.kind == 0) = false := by simp; omega
                    have k1 : (q.kind == 1) = false := by simp; omega
                    have k5 : (q.kind == 5) = false := by simp; omega
                    have k3 : (q.kind == 3) = false := by simp; omega
                    have k4 : (q.kind == 4) = true := by simp [hk4]
                    clear hk0 hk1 hk5 hk3 hk4
                    have y11 : W.cell? ⟨b7, 11, none⟩ = some (.int .i64 q.num) := hY.cell rfl
                    have y12 : W.cell? ⟨b7, 12, none⟩ = some (.int .i64 q.den) := hY.cell rfl
                    go_wp2_with (first | (go_at_call 50; (with_reducible refine (KS.out _ _ _).mono ?_); rintro e5 w5 ⟨n5, rfl, rfl⟩) | fail)
                    all_goals
                      go_meet
                      exact ⟨⟨_, rfl⟩, Below.refl _ _⟩
                  · skip
                    have k0 : (q.kind == 0) = false := by simp; omega
                    have k1 : (q.kind == 1) = false := by simp; omega
                    have k5 : (q.kind == 5) = false := by simp; omega
                    have k3 : (q.kind == 3) = false := by simp; omega
                    have k4 : (q.kind == 4) = false := by simp; omega
                    clear hk0 hk1 hk5 hk3 hk4
                    go_wp2_with fail
                    go_meet
                    exact ⟨⟨_, rfl⟩, Below.refl _ _⟩
        · have e1 : (f == (p : Int)) = false := by simpa using hfp
          clear hfp hf hg
          go_wp2_with fail
          go_meet
          exact ⟨⟨_, rfl⟩, Below.refl _ _⟩
      case rest =>
        obtain ⟨⟨s', rfl⟩, hbc⟩ := hcut
        have hXc := hX.below hbc hX.lt
        have hYc := hY.below hbc hbW
        have hBc := hB.trans (hbc.mono hB.size)
        clear hX hY hB y1 y2
        have y3 : wc.cell? ⟨b7, 3, none⟩ = some (.int .i64 g) := by rw [← hg]; exact hYc.cell rfl
        clear hf hg
        have y1 : wc.cell? ⟨b7, 1, none⟩ = some (.int .i64 q.kind) := hYc.cell rfl
        have y15 : wc.cell? ⟨b7, 15, none⟩ = some (.int .i64 q.bnum) := hYc.cell rfl
        have y16 : wc.cell? ⟨b7, 16, none⟩ = some (.int .i64 q.bden) := hYc.cell rfl
        by_cases hgp : g = (p : Int)
        · have e1 : (g == (p : Int)) = true := by simp [hgp]
          clear hgp
          by_cases h0 : q.kind = 0
          · have k0 : (q.kind == 0) = true := by simp [h0]
            have k4 : (q.kind == 4) = false := by simp; omega
            clear h0
            go_wp2_with (first | (go_at_call 50; (with_reducible refine (KS.out _ _ _).mono ?_); rintro e5 w5 ⟨n5, rfl, rfl⟩) | fail)
            go_roundw
            case rel => exact ⟨_, i + 1, by omega, by go_num, rfl, hXc, hBc⟩
            case measure => simp [intOf]; omega
          · have k0 : (q.kind == 0) = false := by simpa using h0
            obtain ⟨b4, hb4⟩ : ∃ b, (q.kind == 4) = b := ⟨_, rfl⟩
            cases b4
            all_goals
              go_wp2_with (first | (go_at_call 50; (with_reducible refine (KS.out _ _ _).mono ?_); rintro e5 w5 ⟨n5, rfl, rfl⟩) | fail)
              go_roundw
              case rel => exact ⟨_, i + 1, by omega, by go_num, rfl, hXc, hBc⟩
              case measure => simp [intOf]; omega
        · have e1 : (g == (p : Int)) = false := by simpa using hgp
          go_wp2_with fail
          go_roundw
          case rel => exact ⟨_, i + 1, by omega, by go_num, rfl, hXc, hBc⟩
          case measure => simp [intOf]; omega
    · obtain rfl : l4 = i := by omega
      go_wp2_with fail
      go_ret
      exact ⟨_, rfl, hB⟩
end Go.Proofs.Ythoigjkelinjhaa.RT
