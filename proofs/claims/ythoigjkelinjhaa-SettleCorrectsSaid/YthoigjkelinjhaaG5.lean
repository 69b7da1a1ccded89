/- Walks of SamePoints and SameLink. (Printed by gen_g5.py.) -/
import Derived.Deep.Cut
import Derived.Deep.CutRange
import Derived.Test.YthoigjkelinjhaaG4
set_option linter.unusedSimpArgs false
set_option linter.unusedVariables false
namespace Go.Proofs.Ythoigjkelinjhaa.RT
open Go.RowKit BV
attribute [local go_sem] alloc_drewN setCell_drewN shape_drewN

/-- A truth value. -/
def IsB (v : Value) : Prop := ∃ b : Bool, v = .bool b
set_option maxRecDepth 100000 in
set_option maxHeartbeats 8000000 in
theorem samePoints_any (C : Option Addr) (len c : Nat) (E : Option Addr) (m e : Nat) (w : World) (hC : Sl w w.heap.size 128 2 C len) (hE : Sl w w.heap.size 128 2 E m) : Calls Try.prog 62 #[.slice C len c, .slice E m e] w (SomeB w) := by
  have hl := hC.1
  have HC := Lib.hid hC
  have HE := Lib.hid hE
  clear hC hE
  by_cases hlm : len = m
  · subst hlm
    go_enter Try.func62, Try.ntmps62
    go_wp2_with fail
    go_loopw [5] (fun iv wr => ∃ i : Nat, i ≤ len ∧ iv = .int .i64 i ∧ Below w.heap.size w wr) (fun iv _ => len - (intOf iv).toNat)
    case atStart => exact ⟨0, Nat.zero_le _, rfl, Below.refl _ _⟩
    case round =>
      obtain ⟨i, hi, rfl, hBr⟩ := hrel
      have hz := hBr.size
      by_cases hlt : i < len
      · obtain ⟨b, off, p, ec, hb, _, c0, c1⟩ := Pt.at_ (HC.out.below hBr) hlt
        obtain ⟨b', off', q, ec', hb', _, d0, d1⟩ := Pt.at_ (HE.out.below hBr) hlt
        subst ec ec'
        have hbw : b < wr.heap.size := by omega
        have hbw' : b' < wr.heap.size := by omega
        obtain ⟨x, hx⟩ : ∃ x, p.x = x := ⟨_, rfl⟩
        obtain ⟨y, hy⟩ : ∃ y, p.y = y := ⟨_, rfl⟩
        obtain ⟨u, hu⟩ : ∃ x, q.x = x := ⟨_, rfl⟩
        obtain ⟨v, hv⟩ : ∃ y, q.y = y := ⟨_, rfl⟩
        rw [hx] at c0
        rw [hy] at c1
        rw [hu] at d0
        rw [hv] at d1
        clear hx hy hu hv
        by_cases g1 : x = u
        · subst g1
          by_cases g2 : y = v
          · subst g2
            go_wp2_with fail
            refine Plan.wp_region_below 8 [(0, true), (1, true), (2, true), (3, true), (4, true), (5, true), (6, true), (7, true), (8, false)] (by kernel_rfl) (by kernel_rfl) ?_
            (repeat (first | (refine Plan.plan_read (v := ?_) rfl rfl ?_ ?_; rotate_left; (focus ((intro wS hSw; have hkS := (bcell hSw).1; try (have hkT := fun (b o : Nat) (h : b < w.heap.size) => hkS b o (by first | omega | (simp; omega) | (simp; done))); go_simp); try with_reducible rfl)); simp only [Act.put, List.setIfInBounds_toArray, List.set_cons_zero, List.set_cons_succ]) | (refine Plan.plan_skip rfl rfl ?_; simp only [Act.put, List.setIfInBounds_toArray, List.set_cons_zero, List.set_cons_succ])))
            refine Plan.plan_last rfl (fun K hK => ?_)
            go_simp
            refine hK.out _ _ ?_
            clear hK K
            try simp only [Act.put, List.setIfInBounds_toArray, List.set_cons_zero, List.set_cons_succ]
            go_wp2_with fail
            go_roundw
            case rel => exact ⟨i + 1, by omega, by go_num, hBr.drew⟩
            case measure => simp [intOf]; omega
          · have e2 : (y == v) = false := by simpa using g2
            go_wp2_with fail
            refine Plan.wp_region_below 8 [(0, true), (1, true), (2, true), (3, true), (4, true), (5, true), (6, true), (7, true), (8, false)] (by kernel_rfl) (by kernel_rfl) ?_
            (repeat (first | (refine Plan.plan_read (v := ?_) rfl rfl ?_ ?_; rotate_left; (focus ((intro wS hSw; have hkS := (bcell hSw).1; try (have hkT := fun (b o : Nat) (h : b < w.heap.size) => hkS b o (by first | omega | (simp; omega) | (simp; done))); go_simp); try with_reducible rfl)); simp only [Act.put, List.setIfInBounds_toArray, List.set_cons_zero, List.set_cons_succ]) | (refine Plan.plan_skip rfl rfl ?_; simp only [Act.put, List.setIfInBounds_toArray, List.set_cons_zero, List.set_cons_succ])))
            refine Plan.plan_last rfl (fun K hK => ?_)
            go_simp
            refine hK.out _ _ ?_
            clear hK K
            try simp only [Act.put, List.setIfInBounds_toArray, List.set_cons_zero, List.set_cons_succ]
            go_wp2_with fail
            go_ret
            exact ⟨false, rfl, hBr.drew⟩
        · have e1 : (x == u) = false := by simpa using g1
          go_wp2_with fail
          refine Plan.wp_region_below 8 [(0, true), (1, true), (2, true), (3, true), (4, true), (5, true), (6, true), (7, true), (8, false)] (by kernel_rfl) (by kernel_rfl) ?_
          (repeat (first | (refine Plan.plan_read (v := ?_) rfl rfl ?_ ?_; rotate_left; (focus ((intro wS hSw; have hkS := (bcell hSw).1; try (have hkT := fun (b o : Nat) (h : b < w.heap.size) => hkS b o (by first | omega | (simp; omega) | (simp; done))); go_simp); try with_reducible rfl)); simp only [Act.put, List.setIfInBounds_toArray, List.set_cons_zero, List.set_cons_succ]) | (refine Plan.plan_skip rfl rfl ?_; simp only [Act.put, List.setIfInBounds_toArray, List.set_cons_zero, List.set_cons_succ])))
          refine Plan.plan_last rfl (fun K hK => ?_)
          go_simp
          refine hK.out _ _ ?_
          clear hK K
          try simp only [Act.put, List.setIfInBounds_toArray, List.set_cons_zero, List.set_cons_succ]
          go_wp2_with fail
          go_ret
          exact ⟨false, rfl, hBr.drew⟩
      · obtain rfl : len = i := by omega
        go_wp2_with fail
        go_ret
        exact ⟨true, rfl, hBr⟩
  · have e1 : ((len : Int) != (m : Int)) = true := by simp; omega
    have e2 : (len != m) = true := by simpa using hlm
    go_enter Try.func62, Try.ntmps62
    go_wp2_with fail
    go_ret
    exact ⟨false, rfl, Below.refl _ _⟩
set_option maxRecDepth 100000 in
set_option maxHeartbeats 8000000 in
theorem sameLink_any (p q : Lk) (w : World) (hp : p.ok w w.heap.size) (hq : q.ok w w.heap.size) : Calls Try.prog 58 #[.agg p.cells.toArray, .agg q.cells.toArray] w (SomeB w) := by
  have hB0 : Below w.heap.size w ((w.alloc (.cells p.cells.toArray 108)).alloc (.cells q.cells.toArray 108)) := ((Below.refl _ _).alloc (Nat.le_refl _) _).alloc (by simp) _
  have hX0 : Box ((w.alloc (.cells p.cells.toArray 108)).alloc (.cells q.cells.toArray 108)) w.heap.size p.cells.toArray 108 := (Box.new w _ _).keep (Below.heap_alloc _ _ _ (by simp))
  have hY0 : Box ((w.alloc (.cells p.cells.toArray 108)).alloc (.cells q.cells.toArray 108)) (w.heap.size + 1) q.cells.toArray 108 := by
    have := Box.new (w.alloc (.cells p.cells.toArray 108)) q.cells.toArray 108
    simpa using this
  have K1 := Lib.hid (fun wx (h : Below w.heap.size w wx) => samePoints_any p.art p.lrt p.crt q.art q.lrt q.crt wx (hp.up h).1 (hq.up h).1)
  have K2 := Lib.hid (fun wx (h : Below w.heap.size w wx) => samePoints_any p.aL p.lL p.cL q.aL q.lL q.cL wx (hp.up h).2.1 (hq.up h).2.1)
  have K3 := Lib.hid (fun wx (h : Below w.heap.size w wx) => samePoints_any p.aH p.lH p.cH q.aH q.lH q.cH wx (hp.up h).2.2 (hq.up h).2.2)
  clear hp hq
  have HP := Lib.hid (Eq.refl p.cells.toArray)
  go_enter Try.func58, Try.ntmps58
  go_upto_region 1 with fail
  generalize ((w.alloc (.cells p.cells.toArray 108)).alloc (.cells q.cells.toArray 108)) = w0 at hB0 hX0 hY0 ⊢
  have z0 := hX0.lt
  have z1 := hY0.lt
  go_cut [5] from 8 to 31 (fun s5 wx => IsB s5 ∧ Below w0.heap.size w0 wx)
  case first =>
    have x0 : w0.cell? ⟨w.heap.size, 0, none⟩ = some (.string p.nm) := hX0.cell rfl
    have x1 : w0.cell? ⟨w.heap.size, 1, none⟩ = some (.int .i64 p.kind) := hX0.cell rfl
    have x2 : w0.cell? ⟨w.heap.size, 2, none⟩ = some (.int .i64 p.frm) := hX0.cell rfl
    have x3 : w0.cell? ⟨w.heap.size, 3, none⟩ = some (.int .i64 p.to_) := hX0.cell rfl
    have x4 : w0.cell? ⟨w.heap.size, 4, none⟩ = some (.slice p.art p.lrt p.crt) := hX0.cell rfl
    have x5 : w0.cell? ⟨w.heap.size, 5, none⟩ = some (.slice p.aL p.lL p.cL) := hX0.cell rfl
    have x6 : w0.cell? ⟨w.heap.size, 6, none⟩ = some (.slice p.aH p.lH p.cH) := hX0.cell rfl
    have x7 : w0.cell? ⟨w.heap.size, 7, none⟩ = some (.int .i64 p.positions) := hX0.cell rfl
    have x8 : w0.cell? ⟨w.heap.size, 8, none⟩ = some (.int .i64 p.speed) := hX0.cell rfl
    have x9 : w0.cell? ⟨w.heap.size, 9, none⟩ = some (.int .i64 p.leak) := hX0.cell rfl
    have x10 : w0.cell? ⟨w.heap.size, 10, none⟩ = some (.int .i64 p.crest) := hX0.cell rfl
    have x11 : w0.cell? ⟨w.heap.size, 11, none⟩ = some (.int .i64 p.num) := hX0.cell rfl
    have x12 : w0.cell? ⟨w.heap.size, 12, none⟩ = some (.int .i64 p.den) := hX0.cell rfl
    have x13 : w0.cell? ⟨w.heap.size, 13, none⟩ = some (.int .i64 p.prime) := hX0.cell rfl
    have x14 : w0.cell? ⟨w.heap.size, 14, none⟩ = some (.int .i64 p.brk) := hX0.cell rfl
    have x15 : w0.cell? ⟨w.heap.size, 15, none⟩ = some (.int .i64 p.bnum) := hX0.cell rfl
    have x16 : w0.cell? ⟨w.heap.size, 16, none⟩ = some (.int .i64 p.bden) := hX0.cell rfl
    have x17 : w0.cell? ⟨w.heap.size, 17, none⟩ = some (.int .i64 p.delay) := hX0.cell rfl
    have y0 : w0.cell? ⟨w.heap.size + 1, 0, none⟩ = some (.string q.nm) := hY0.cell rfl
    have y1 : w0.cell? ⟨w.heap.size + 1, 1, none⟩ = some (.int .i64 q.kind) := hY0.cell rfl
    have y2 : w0.cell? ⟨w.heap.size + 1, 2, none⟩ = some (.int .i64 q.frm) := hY0.cell rfl
    have y3 : w0.cell? ⟨w.heap.size + 1, 3, none⟩ = some (.int .i64 q.to_) := hY0.cell rfl
    have y4 : w0.cell? ⟨w.heap.size + 1, 4, none⟩ = some (.slice q.art q.lrt q.crt) := hY0.cell rfl
    have y5 : w0.cell? ⟨w.heap.size + 1, 5, none⟩ = some (.slice q.aL q.lL q.cL) := hY0.cell rfl
    have y6 : w0.cell? ⟨w.heap.size + 1, 6, none⟩ = some (.slice q.aH q.lH q.cH) := hY0.cell rfl
    have y7 : w0.cell? ⟨w.heap.size + 1, 7, none⟩ = some (.int .i64 q.positions) := hY0.cell rfl
    have y8 : w0.cell? ⟨w.heap.size + 1, 8, none⟩ = some (.int .i64 q.speed) := hY0.cell rfl
    have y9 : w0.cell? ⟨w.heap.size + 1, 9, none⟩ = some (.int .i64 q.leak) := hY0.cell rfl
    have y10 : w0.cell? ⟨w.heap.size + 1, 10, none⟩ = some (.int .i64 q.crest) := hY0.cell rfl
    have y11 : w0.cell? ⟨w.heap.size + 1, 11, none⟩ = some (.int .i64 q.num) := hY0.cell rfl
    have y12 : w0.cell? ⟨w.heap.size + 1, 12, none⟩ = some (.int .i64 q.den) := hY0.cell rfl
    have y13 : w0.cell? ⟨w.heap.size + 1, 13, none⟩ = some (.int .i64 q.prime) := hY0.cell rfl
    have y14 : w0.cell? ⟨w.heap.size + 1, 14, none⟩ = some (.int .i64 q.brk) := hY0.cell rfl
    have y15 : w0.cell? ⟨w.heap.size + 1, 15, none⟩ = some (.int .i64 q.bnum) := hY0.cell rfl
    have y16 : w0.cell? ⟨w.heap.size + 1, 16, none⟩ = some (.int .i64 q.bden) := hY0.cell rfl
    have y17 : w0.cell? ⟨w.heap.size + 1, 17, none⟩ = some (.int .i64 q.delay) := hY0.cell rfl
    go_wp2_with fail
    go_at_call 62
    (with_reducible refine (K1.out w0 hB0).mono ?_)
    rintro e1 w1 ⟨b, rfl, hb1⟩
    have hB1 := hB0.trans (hb1.mono hB0.size)
    have hX1 := hX0.below hb1 z0
    have hY1 := hY0.below hb1 z1
    have z2 := hX1.lt
    have z3 := hY1.lt
    clear x0 y0 x1 y1 x2 y2 x3 y3 x4 y4 x5 y5 x6 y6 x7 y7 x8 y8 x9 y9 x10 y10 x11 y11 x12 y12 x13 y13 x14 y14 x15 y15 x16 y16 x17 y17
    cases b
    · go_wp2_with fail
      go_meet
      exact ⟨⟨_, rfl⟩, hb1⟩
    · have x0 : w1.cell? ⟨w.heap.size, 0, none⟩ = some (.string p.nm) := hX1.cell rfl
      have x1 : w1.cell? ⟨w.heap.size, 1, none⟩ = some (.int .i64 p.kind) := hX1.cell rfl
      have x2 : w1.cell? ⟨w.heap.size, 2, none⟩ = some (.int .i64 p.frm) := hX1.cell rfl
      have x3 : w1.cell? ⟨w.heap.size, 3, none⟩ = some (.int .i64 p.to_) := hX1.cell rfl
      have x4 : w1.cell? ⟨w.heap.size, 4, none⟩ = some (.slice p.art p.lrt p.crt) := hX1.cell rfl
      have x5 : w1.cell? ⟨w.heap.size, 5, none⟩ = some (.slice p.aL p.lL p.cL) := hX1.cell rfl
      have x6 : w1.cell? ⟨w.heap.size, 6, none⟩ = some (.slice p.aH p.lH p.cH) := hX1.cell rfl
      have x7 : w1.cell? ⟨w.heap.size, 7, none⟩ = some (.int .i64 p.positions) := hX1.cell rfl
      have x8 : w1.cell? ⟨w.heap.size, 8, none⟩ = some (.int .i64 p.speed) := hX1.cell rfl
      have x9 : w1.cell? ⟨w.heap.size, 9, none⟩ = some (.int .i64 p.leak) := hX1.cell rfl
      have x10 : w1.cell? ⟨w.heap.size, 10, none⟩ = some (.int .i64 p.crest) := hX1.cell rfl
      have x11 : w1.cell? ⟨w.heap.size, 11, none⟩ = some (.int .i64 p.num) := hX1.cell rfl
      have x12 : w1.cell? ⟨w.heap.size, 12, none⟩ = some (.int .i64 p.den) := hX1.cell rfl
      have x13 : w1.cell? ⟨w.heap.size, 13, none⟩ = some (.int .i64 p.prime) := hX1.cell rfl
      have x14 : w1.cell? ⟨w.heap.size, 14, none⟩ = some (.int .i64 p.brk) := hX1.cell rfl
      have x15 : w1.cell? ⟨w.heap.size, 15, none⟩ = some (.int .i64 p.bnum) := hX1.cell rfl
      have x16 : w1.cell? ⟨w.heap.size, 16, none⟩ = some (.int .i64 p.bden) := hX1.cell rfl
      have x17 : w1.cell? ⟨w.heap.size, 17, none⟩ = some (.int .i64 p.delay) := hX1.cell rfl
      have y0 : w1.cell? ⟨w.heap.size + 1, 0, none⟩ = some (.string q.nm) := hY1.cell rfl
      have y1 : w1.cell? ⟨w.heap.size + 1, 1, none⟩ = some (.int .i64 q.kind) := hY1.cell rfl
      have y2 : w1.cell? ⟨w.heap.size + 1, 2, none⟩ = some (.int .i64 q.frm) := hY1.cell rfl
      have y3 : w1.cell? ⟨w.heap.size + 1, 3, none⟩ = some (.int .i64 q.to_) := hY1.cell rfl
      have y4 : w1.cell? ⟨w.heap.size + 1, 4, none⟩ = some (.slice q.art q.lrt q.crt) := hY1.cell rfl
      have y5 : w1.cell? ⟨w.heap.size + 1, 5, none⟩ = some (.slice q.aL q.lL q.cL) := hY1.cell rfl
      have y6 : w1.cell? ⟨w.heap.size + 1, 6, none⟩ = some (.slice q.aH q.lH q.cH) := hY1.cell rfl
      have y7 : w1.cell? ⟨w.heap.size + 1, 7, none⟩ = some (.int .i64 q.positions) := hY1.cell rfl
      have y8 : w1.cell? ⟨w.heap.size + 1, 8, none⟩ = some (.int .i64 q.speed) := hY1.cell rfl
      have y9 : w1.cell? ⟨w.heap.size + 1, 9, none⟩ = some (.int .i64 q.leak) := hY1.cell rfl
      have y10 : w1.cell? ⟨w.heap.size + 1, 10, none⟩ = some (.int .i64 q.crest) := hY1.cell rfl
      have y11 : w1.cell? ⟨w.heap.size + 1, 11, none⟩ = some (.int .i64 q.num) := hY1.cell rfl
      have y12 : w1.cell? ⟨w.heap.size + 1, 12, none⟩ = some (.int .i64 q.den) := hY1.cell rfl
      have y13 : w1.cell? ⟨w.heap.size + 1, 13, none⟩ = some (.int .i64 q.prime) := hY1.cell rfl
      have y14 : w1.cell? ⟨w.heap.size + 1, 14, none⟩ = some (.int .i64 q.brk) := hY1.cell rfl
      have y15 : w1.cell? ⟨w.heap.size + 1, 15, none⟩ = some (.int .i64 q.bnum) := hY1.cell rfl
      have y16 : w1.cell? ⟨w.heap.size + 1, 16, none⟩ = some (.int .i64 q.bden) := hY1.cell rfl
      have y17 : w1.cell? ⟨w.heap.size + 1, 17, none⟩ = some (.int .i64 q.delay) := hY1.cell rfl
      go_wp2_with fail
      go_at_call 62
      (with_reducible refine (K2.out w1 hB1).mono ?_)
      rintro e2 w2 ⟨b, rfl, hb2⟩
      have hB2 := hB1.trans (hb2.mono hB1.size)
      have hX2 := hX1.below hb2 z2
      have hY2 := hY1.below hb2 z3
      have hb12 := hb1.trans (hb2.mono hb1.size)
      clear x0 y0 x1 y1 x2 y2 x3 y3 x4 y4 x5 y5 x6 y6 x7 y7 x8 y8 x9 y9 x10 y10 x11 y11 x12 y12 x13 y13 x14 y14 x15 y15 x16 y16 x17 y17
      cases b
      · go_wp2_with fail
        go_meet
        exact ⟨⟨_, rfl⟩, hb12⟩
      · have x0 : w2.cell? ⟨w.heap.size, 0, none⟩ = some (.string p.nm) := hX2.cell rfl
        have x1 : w2.cell? ⟨w.heap.size, 1, none⟩ = some (.int .i64 p.kind) := hX2.cell rfl
        have x2 : w2.cell? ⟨w.heap.size, 2, none⟩ = some (.int .i64 p.frm) := hX2.cell rfl
        have x3 : w2.cell? ⟨w.heap.size, 3, none⟩ = some (.int .i64 p.to_) := hX2.cell rfl
        have x4 : w2.cell? ⟨w.heap.size, 4, none⟩ = some (.slice p.art p.lrt p.crt) := hX2.cell rfl
        have x5 : w2.cell? ⟨w.heap.size, 5, none⟩ = some (.slice p.aL p.lL p.cL) := hX2.cell rfl
        have x6 : w2.cell? ⟨w.heap.size, 6, none⟩ = some (.slice p.aH p.lH p.cH) := hX2.cell rfl
        have x7 : w2.cell? ⟨w.heap.size, 7, none⟩ = some (.int .i64 p.positions) := hX2.cell rfl
        have x8 : w2.cell? ⟨w.heap.size, 8, none⟩ = some (.int .i64 p.speed) := hX2.cell rfl
        have x9 : w2.cell? ⟨w.heap.size, 9, none⟩ = some (.int .i64 p.leak) := hX2.cell rfl
        have x10 : w2.cell? ⟨w.heap.size, 10, none⟩ = some (.int .i64 p.crest) := hX2.cell rfl
        have x11 : w2.cell? ⟨w.heap.size, 11, none⟩ = some (.int .i64 p.num) := hX2.cell rfl
        have x12 : w2.cell? ⟨w.heap.size, 12, none⟩ = some (.int .i64 p.den) := hX2.cell rfl
        have x13 : w2.cell? ⟨w.heap.size, 13, none⟩ = some (.int .i64 p.prime) := hX2.cell rfl
        have x14 : w2.cell? ⟨w.heap.size, 14, none⟩ = some (.int .i64 p.brk) := hX2.cell rfl
        have x15 : w2.cell? ⟨w.heap.size, 15, none⟩ = some (.int .i64 p.bnum) := hX2.cell rfl
        have x16 : w2.cell? ⟨w.heap.size, 16, none⟩ = some (.int .i64 p.bden) := hX2.cell rfl
        have x17 : w2.cell? ⟨w.heap.size, 17, none⟩ = some (.int .i64 p.delay) := hX2.cell rfl
        have y0 : w2.cell? ⟨w.heap.size + 1, 0, none⟩ = some (.string q.nm) := hY2.cell rfl
        have y1 : w2.cell? ⟨w.heap.size + 1, 1, none⟩ = some (.int .i64 q.kind) := hY2.cell rfl
        have y2 : w2.cell? ⟨w.heap.size + 1, 2, none⟩ = some (.int .i64 q.frm) := hY2.cell rfl
        have y3 : w2.cell? ⟨w.heap.size + 1, 3, none⟩ = some (.int .i64 q.to_) := hY2.cell rfl
        have y4 : w2.cell? ⟨w.heap.size + 1, 4, none⟩ = some (.slice q.art q.lrt q.crt) := hY2.cell rfl
        have y5 : w2.cell? ⟨w.heap.size + 1, 5, none⟩ = some (.slice q.aL q.lL q.cL) := hY2.cell rfl
        have y6 : w2.cell? ⟨w.heap.size + 1, 6, none⟩ = some (.slice q.aH q.lH q.cH) := hY2.cell rfl
        have y7 : w2.cell? ⟨w.heap.size + 1, 7, none⟩ = some (.int .i64 q.positions) := hY2.cell rfl
        have y8 : w2.cell? ⟨w.heap.size + 1, 8, none⟩ = some (.int .i64 q.speed) := hY2.cell rfl
        have y9 : w2.cell? ⟨w.heap.size + 1, 9, none⟩ = some (.int .i64 q.leak) := hY2.cell rfl
        have y10 : w2.cell? ⟨w.heap.size + 1, 10, none⟩ = some (.int .i64 q.crest) := hY2.cell rfl
        have y11 : w2.cell? ⟨w.heap.size + 1, 11, none⟩ = some (.int .i64 q.num) := hY2.cell rfl
        have y12 : w2.cell? ⟨w.heap.size + 1, 12, none⟩ = some (.int .i64 q.den) := hY2.cell rfl
        have y13 : w2.cell? ⟨w.heap.size + 1, 13, none⟩ = some (.int .i64 q.prime) := hY2.cell rfl
        have y14 : w2.cell? ⟨w.heap.size + 1, 14, none⟩ = some (.int .i64 q.brk) := hY2.cell rfl
        have y15 : w2.cell? ⟨w.heap.size + 1, 15, none⟩ = some (.int .i64 q.bnum) := hY2.cell rfl
        have y16 : w2.cell? ⟨w.heap.size + 1, 16, none⟩ = some (.int .i64 q.bden) := hY2.cell rfl
        have y17 : w2.cell? ⟨w.heap.size + 1, 17, none⟩ = some (.int .i64 q.delay) := hY2.cell rfl
        go_wp2_with fail
        go_at_call 62
        (with_reducible refine (K3.out w2 hB2).mono ?_)
        rintro e3 w3 ⟨b, rfl, hb3⟩
        have hb13 := hb12.trans (hb3.mono hb12.size)
        clear x0 y0 x1 y1 x2 y2 x3 y3 x4 y4 x5 y5 x6 y6 x7 y7 x8 y8 x9 y9 x10 y10 x11 y11 x12 y12 x13 y13 x14 y14 x15 y15 x16 y16 x17 y17
        go_wp2_with fail
        all_goals
          go_meet
          exact ⟨⟨_, rfl⟩, hb13⟩
  case rest =>
    obtain ⟨⟨b5, rfl⟩, hb⟩ := hcut
    have hX := hX0.below hb z0
    have hY := hY0.below hb z1
    have hB := hB0.trans (hb.mono hB0.size)
    generalize wc = W at hX hY hB ⊢
    clear hb hX0 hY0 hB0 z0 z1
    have z0 := hX.lt
    have z1 := hY.lt
    have x0 : W.cell? ⟨w.heap.size, 0, none⟩ = some (.string p.nm) := hX.cell rfl
    have x1 : W.cell? ⟨w.heap.size, 1, none⟩ = some (.int .i64 p.kind) := hX.cell rfl
    have x2 : W.cell? ⟨w.heap.size, 2, none⟩ = some (.int .i64 p.frm) := hX.cell rfl
    have x3 : W.cell? ⟨w.heap.size, 3, none⟩ = some (.int .i64 p.to_) := hX.cell rfl
    have x4 : W.cell? ⟨w.heap.size, 4, none⟩ = some (.slice p.art p.lrt p.crt) := hX.cell rfl
    have x5 : W.cell? ⟨w.heap.size, 5, none⟩ = some (.slice p.aL p.lL p.cL) := hX.cell rfl
    have x6 : W.cell? ⟨w.heap.size, 6, none⟩ = some (.slice p.aH p.lH p.cH) := hX.cell rfl
    have x7 : W.cell? ⟨w.heap.size, 7, none⟩ = some (.int .i64 p.positions) := hX.cell rfl
    have x8 : W.cell? ⟨w.heap.size, 8, none⟩ = some (.int .i64 p.speed) := hX.cell rfl
    have x9 : W.cell? ⟨w.heap.size, 9, none⟩ = some (.int .i64 p.leak) := hX.cell rfl
    have x10 : W.cell? ⟨w.heap.size, 10, none⟩ = some (.int .i64 p.crest) := hX.cell rfl
    have x11 : W.cell? ⟨w.heap.size, 11, none⟩ = some (.int .i64 p.num) := hX.cell rfl
    have x12 : W.cell? ⟨w.heap.size, 12, none⟩ = some (.int .i64 p.den) := hX.cell rfl
    have x13 : W.cell? ⟨w.heap.size, 13, none⟩ = some (.int .i64 p.prime) := hX.cell rfl
    have x14 : W.cell? ⟨w.heap.size, 14, none⟩ = some (.int .i64 p.brk) := hX.cell rfl
    have x15 : W.cell? ⟨w.heap.size, 15, none⟩ = some (.int .i64 p.bnum) := hX.cell rfl
    have x16 : W.cell? ⟨w.heap.size, 16, none⟩ = some (.int .i64 p.bden) := hX.cell rfl
    have x17 : W.cell? ⟨w.heap.size, 17, none⟩ = some (.int .i64 p.delay) := hX.cell rfl
    have y0 : W.cell? ⟨w.heap.size + 1, 0, none⟩ = some (.string q.nm) := hY.cell rfl
    have y1 : W.cell? ⟨w.heap.size + 1, 1, none⟩ = some (.int .i64 q.kind) := hY.cell rfl
    have y2 : W.cell? ⟨w.heap.size + 1, 2, none⟩ = some (.int .i64 q.frm) := hY.cell rfl
    have y3 : W.cell? ⟨w.heap.size + 1, 3, none⟩ = some (.int .i64 q.to_) := hY.cell rfl
    have y4 : W.cell? ⟨w.heap.size + 1, 4, none⟩ = some (.slice q.art q.lrt q.crt) := hY.cell rfl
    have y5 : W.cell? ⟨w.heap.size + 1, 5, none⟩ = some (.slice q.aL q.lL q.cL) := hY.cell rfl
    have y6 : W.cell? ⟨w.heap.size + 1, 6, none⟩ = some (.slice q.aH q.lH q.cH) := hY.cell rfl
    have y7 : W.cell? ⟨w.heap.size + 1, 7, none⟩ = some (.int .i64 q.positions) := hY.cell rfl
    have y8 : W.cell? ⟨w.heap.size + 1, 8, none⟩ = some (.int .i64 q.speed) := hY.cell rfl
    have y9 : W.cell? ⟨w.heap.size + 1, 9, none⟩ = some (.int .i64 q.leak) := hY.cell rfl
    have y10 : W.cell? ⟨w.heap.size + 1, 10, none⟩ = some (.int .i64 q.crest) := hY.cell rfl
    have y11 : W.cell? ⟨w.heap.size + 1, 11, none⟩ = some (.int .i64 q.num) := hY.cell rfl
    have y12 : W.cell? ⟨w.heap.size + 1, 12, none⟩ = some (.int .i64 q.den) := hY.cell rfl
    have y13 : W.cell? ⟨w.heap.size + 1, 13, none⟩ = some (.int .i64 q.prime) := hY.cell rfl
    have y14 : W.cell? ⟨w.heap.size + 1, 14, none⟩ = some (.int .i64 q.brk) := hY.cell rfl
    have y15 : W.cell? ⟨w.heap.size + 1, 15, none⟩ = some (.int .i64 q.bnum) := hY.cell rfl
    have y16 : W.cell? ⟨w.heap.size + 1, 16, none⟩ = some (.int .i64 q.bden) := hY.cell rfl
    have y17 : W.cell? ⟨w.heap.size + 1, 17, none⟩ = some (.int .i64 q.delay) := hY.cell rfl
    go_upto_region 2 with fail
    go_cut [6] from 31 to 85 (fun s6 wx => IsB s6 ∧ wx = W)
    case first =>
      go_wp2_with fail
      all_goals
        go_meet
        exact ⟨⟨_, rfl⟩, by first | rfl | trivial⟩
    case rest =>
      obtain ⟨⟨b6, rfl⟩, rfl⟩ := hcut
      go_upto_region 3 with fail
      go_cut [7] from 85 to 132 (fun s7 wx => IsB s7 ∧ wx = wc)
      case first =>
        go_wp2_with fail
        all_goals
          go_meet
          exact ⟨⟨_, rfl⟩, by first | rfl | trivial⟩
      case rest =>
        obtain ⟨⟨b7, rfl⟩, rfl⟩ := hcut
        cases b5
        · go_wp2_with fail
          go_ret
          exact ⟨_, rfl, hB⟩
        · cases b6
          · go_wp2_with fail
            go_ret
            exact ⟨_, rfl, hB⟩
          · go_wp2_with fail
            go_ret
            exact ⟨_, rfl, hB⟩
end Go.Proofs.Ythoigjkelinjhaa.RT
