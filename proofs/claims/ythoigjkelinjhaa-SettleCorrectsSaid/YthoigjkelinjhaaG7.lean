/- Walks of next, rained, RightLink, RightPlace. (Printed by gen_g7.py.) -/
import Derived.Test.YthoigjkelinjhaaG6
import Derived.Test.YthoigjkelinjhaaPMem
set_option linter.unusedSimpArgs false
set_option linter.unusedVariables false
namespace Go.Proofs.Ythoigjkelinjhaa.RT
open Go.RowKit BV
attribute [local go_sem] alloc_drewN setCell_drewN shape_drewN

/-- A basin all of whose parts read. -/
structure BasOk (w : World) (B : Nat) (X : Bas) (pl : CM.Pl) : Prop where
  own : Sl w B 9 1 X.a1 X.l1
  pla : Sl w B 91 12 X.P pl.length
  lnk : Sl w B 108 18 X.a4 X.l4
  twn : Sl w B 110 7 X.a5 X.l5
  gau : Sl w B 114 5 X.a6 X.l6
  roa : Sl w B 116 7 X.a7 X.l7
  she : Sl w B 112 2 X.a8 X.l8
  roo : Sl w B 3 1 X.a9 X.l9
section
variable {w w' : World} {B B' : Nat} {X : Bas} {pl : CM.Pl}
theorem BasOk.below (h : BasOk w B X pl) (hb : Below B w w') : BasOk w' B X pl := ⟨h.own.below hb, h.pla.below hb, h.lnk.below hb, h.twn.below hb, h.gau.below hb, h.roa.below hb, h.she.below hb, h.roo.below hb⟩
theorem BasOk.more (h : BasOk w B X pl) (hB : B ≤ B') : BasOk w B' X pl := ⟨h.own.more hB, h.pla.more hB, h.lnk.more hB, h.twn.more hB, h.gau.more hB, h.roa.more hB, h.she.more hB, h.roo.more hB⟩
theorem BasOk.up (h : BasOk w w.heap.size X pl) (hb : Below w.heap.size w w') : BasOk w' w'.heap.size X pl := (h.below hb).more hb.size
end
def InB (n lo hi : Int) (w : World) (e : Ending) (w' : World) : Prop := e = .returned (.bool (inB n lo hi)) ∧ w' = w
theorem in_is (n lo hi : Int) (w : World) : Calls Try.prog 31 #[.int .i64 n, .int .i64 lo, .int .i64 hi] w (InB n lo hi w) := by
  unfold InB inB
  by_cases h1 : lo ≤ n
  · have e1 : decide (lo ≤ n) = true := decide_eq_true h1
    go_enter Try.func31, Try.ntmps31
    go_wp2_with fail
    go_ret
    exact ⟨by simp [e1], rfl⟩
  · have e1 : decide (lo ≤ n) = false := decide_eq_false h1
    go_enter Try.func31, Try.ntmps31
    go_wp2_with fail
    go_ret
    exact ⟨by simp [e1], rfl⟩
theorem vol_is (n : Int) (w : World) : Calls Try.prog 32 #[.int .i64 n] w (VolIs n w) := by
  unfold VolIs
  go_enter Try.func32, Try.ntmps32
  go_wp2_with (first | (go_at_call 31; (with_reducible refine (in_is _ _ _ _).mono ?_); rintro e1 w1 ⟨rfl, rfl⟩) | fail)
  go_ret
  exact ⟨rfl, rfl⟩
def NextIs (n : Nat) (t : Int) (w : World) (e : Ending) (w' : World) : Prop := ∃ b : Bool, e = .returned (.bool b) ∧ Below w.heap.size w w' ∧ (b = true → t = -1 ∨ 0 ≤ t ∧ t < (n : Int))
set_option maxRecDepth 100000 in
set_option maxHeartbeats 8000000 in
theorem next_any (X : Bas) (pl : CM.Pl) (office t : Int) (w : World) (hX : BasOk w w.heap.size X pl) : Calls Try.prog 47 #[.agg #[.string X.nm, .slice X.a1 X.l1 X.c1, .int .i64 X.cl, .slice X.P pl.length X.cP, .slice X.a4 X.l4 X.c4, .slice X.a5 X.l5 X.c5, .slice X.a6 X.l6 X.c6, .slice X.a7 X.l7 X.c7, .slice X.a8 X.l8 X.c8, .slice X.a9 X.l9 X.c9, .int .i64 X.er], .int .i64 office, .int .i64 t] w (NextIs pl.length t w) := by
  have hB0 : Below w.heap.size w (w.alloc (.cells (#[.string X.nm, .slice X.a1 X.l1 X.c1, .int .i64 X.cl, .slice X.P pl.length X.cP, .slice X.a4 X.l4 X.c4, .slice X.a5 X.l5 X.c5, .slice X.a6 X.l6 X.c6, .slice X.a7 X.l7 X.c7, .slice X.a8 X.l8 X.c8, .slice X.a9 X.l9 X.c9, .int .i64 X.er]) 31)) := (Below.refl _ _).alloc (Nat.le_refl _) _
  have hX0 : Box (w.alloc (.cells (#[.string X.nm, .slice X.a1 X.l1 X.c1, .int .i64 X.cl, .slice X.P pl.length X.cP, .slice X.a4 X.l4 X.c4, .slice X.a5 X.l5 X.c5, .slice X.a6 X.l6 X.c6, .slice X.a7 X.l7 X.c7, .slice X.a8 X.l8 X.c8, .slice X.a9 X.l9 X.c9, .int .i64 X.er]) 31)) w.heap.size (#[.string X.nm, .slice X.a1 X.l1 X.c1, .int .i64 X.cl, .slice X.P pl.length X.cP, .slice X.a4 X.l4 X.c4, .slice X.a5 X.l5 X.c5, .slice X.a6 X.l6 X.c6, .slice X.a7 X.l7 X.c7, .slice X.a8 X.l8 X.c8, .slice X.a9 X.l9 X.c9, .int .i64 X.er]) 31 := Box.new w _ _
  have HX := Lib.hid hX
  have hpl := hX.pla.1
  clear hX
  by_cases h1 : t = -1
  · subst h1
    clear HX
    go_enter Try.func47, Try.ntmps47
    go_wp2_with fail
    go_ret
    exact ⟨_, rfl, hB0, fun _ => .inl rfl⟩
  · have k1 : (t == -1) = false := by simpa using h1
    by_cases h2 : 0 ≤ t ∧ t < (pl.length : Int)
    · obtain ⟨k, rfl⟩ := Int.eq_ofNat_of_zero_le h2.1
      have hk : k < pl.length := by omega
      obtain ⟨b, off, p, ec, hb, _, q0, q1, q2, _⟩ := Pv.at_ (HX.out.below hB0).pla hk
      have q2' : w.cell? ⟨b, off + k * 12 + 2, none⟩ = some (.int .i64 p.office) := by
        rw [← q2]; exact (hB0.cell (p := ⟨b, off + k * 12 + 2, none⟩) hb).symm
      clear q0 q1 q2 HX h1 h2
      have hpl2 : (pl.length : Int) ≤ 9223372036854775807 := by omega
      obtain ⟨nm, a1, l1, c1, cl, P, cP, a4, l4, c4, a5, l5, c5, a6, l6, c6, a7, l7, c7, a8, l8, c8, a9, l9, c9, er⟩ := X
      dsimp only at *
      subst ec
      go_enter Try.func47, Try.ntmps47
      go_wp2_with fail
      all_goals
        go_ret
        exact ⟨_, rfl, hB0, fun _ => .inr (by omega)⟩
    · clear HX h1
      by_cases h3 : t < 0
      · have k3 : decide (0 ≤ t) = false := decide_eq_false (by omega)
        go_enter Try.func47, Try.ntmps47
        go_wp2_with fail
        go_ret
        exact ⟨false, rfl, hB0, fun h => by cases h⟩
      · have k3 : decide (0 ≤ t) = true := decide_eq_true (by omega)
        have k4 : decide (t < (pl.length : Int)) = false := decide_eq_false (by omega)
        go_enter Try.func47, Try.ntmps47
        go_wp2_with fail
        go_ret
        exact ⟨false, rfl, hB0, fun h => by cases h⟩
theorem two_cells {w : World} {B len : Nat} {C : Option Addr} (h : Sl w B 130 2 C len) {i : Nat} (hi : i + 1 < len) : ∃ (b off : Nat) (p q : Ce), C = some ⟨b, off, none⟩ ∧ b < B ∧ w.cell? ⟨b, off + i * 2, none⟩ = some (.int .i64 p.ix) ∧ w.cell? ⟨b, off + (i + 1) * 2, none⟩ = some (.int .i64 q.ix) ∧ w.cell? ⟨b, off + (i + 1) * 2 + 1, none⟩ = some (.int .i64 q.ar) := by
  obtain ⟨b, off, p, e, hb, _, p0, p1⟩ := Ce.at_ h (show i < len by omega)
  obtain ⟨b', off', q, e', _, _, q0, q1⟩ := Ce.at_ h hi
  rw [e] at e'
  injection e' with e'
  injection e' with e1 e2
  subst e1 e2
  exact ⟨b, off, p, q, e, hb, p0, q0, q1⟩
set_option maxRecDepth 100000 in
set_option maxHeartbeats 8000000 in
theorem rained_any (C : Option Addr) (len c : Nat) (cells : Int) (w : World) (hC : Sl w w.heap.size 130 2 C len) : Calls Try.prog 48 #[.slice C len c, .int .i64 cells] w (SomeB w) := by
  have hl := hC.1
  have HC := Lib.hid hC
  obtain ⟨z, hz⟩ : ∃ z, IntKind.i64.wrap (cells - 1) = z := ⟨_, rfl⟩
  clear hC
  go_enter Try.func48, Try.ntmps48
  go_wp2_with fail
  go_loopw [5] (fun iv wr => ∃ i : Nat, i ≤ len ∧ iv = .int .i64 i ∧ Below w.heap.size w wr) (fun iv _ => len - (intOf iv).toNat)
  case atStart => exact ⟨0, Nat.zero_le _, rfl, Below.refl _ _⟩
  case round =>
    obtain ⟨i, hi, rfl, hBr⟩ := hrel
    by_cases hlt : i < len
    · have hz' := hBr.size
      by_cases hi0 : i = 0
      · subst hi0
        obtain ⟨b, off, p, ec, hb, _, c0, c1⟩ := Ce.at_ (HC.out.below hBr) hlt
        subst ec
        rw [Nat.zero_mul, Nat.add_zero] at c0 c1
        have hbw : b < wr.heap.size := by omega
        obtain ⟨x, hx⟩ : ∃ x, p.ix = x := ⟨_, rfl⟩
        obtain ⟨y, hy⟩ : ∃ y, p.ar = y := ⟨_, rfl⟩
        rw [hx] at c0
        rw [hy] at c1
        clear hx hy
        have KX := Lib.hid (fun wx => in_is x 0 z wx)
        have KY := Lib.hid (fun wx => vol_is y wx)
        unfold InB at KX
        unfold VolIs at KY
        obtain ⟨b1, hb1⟩ : ∃ b, inB x 0 z = b := ⟨_, rfl⟩
        obtain ⟨b2, hb2⟩ : ∃ b, inB y 0 1125899906842624 = b := ⟨_, rfl⟩
        rw [hb1] at KX
        rw [hb2] at KY
        clear hb1 hb2
        cases b1
        · go_wp2_with fail
          refine Plan.wp_region_below 35 [(0, true), (1, true), (2, true), (3, true), (4, true), (5, true), (6, true), (7, false), (8, true), (9, true), (10, true), (11, true), (12, true), (13, true), (14, true), (15, true), (16, true), (17, true), (18, true), (19, true), (20, true), (21, true), (22, true), (23, true), (24, true), (25, true), (26, true), (27, true), (28, true), (29, true), (30, true), (31, true), (32, true), (33, true), (34, true), (35, false)] (by kernel_rfl) (by kernel_rfl) ?_
          (repeat (first | (refine Plan.plan_read (v := ?_) rfl rfl ?_ ?_; rotate_left; (focus ((intro wS hSw; have hkS := (bcell hSw).1; try (have hkT := fun (b o : Nat) (h : b < w.heap.size) => hkS b o (by first | omega | (simp; omega) | (simp; done))); go_simp); try with_reducible rfl)); simp only [Act.put, List.setIfInBounds_toArray, List.set_cons_zero, List.set_cons_succ]) | (refine Plan.plan_skip rfl rfl ?_; simp only [Act.put, List.setIfInBounds_toArray, List.set_cons_zero, List.set_cons_succ])))
          refine Plan.plan_write rfl (fun K hK => ?_)
          go_simp
          go_at_call 31
          (with_reducible refine (KX.out _).mono ?_)
          rintro e4 w4 ⟨rfl, rfl⟩
          try go_simp
          refine hK.out _ _ ((Below.refl _ _).drew) ?_
          clear hK K
          try simp only [Act.put, List.setIfInBounds_toArray, List.set_cons_zero, List.set_cons_succ]
          (repeat (first | (refine Plan.plan_read (v := ?_) rfl rfl ?_ ?_; rotate_left; (focus ((intro wS hSw; have hkS := (bcell hSw).1; try (have hkT := fun (b o : Nat) (h : b < w.heap.size) => hkS b o (by first | omega | (simp; omega) | (simp; done))); go_simp); try with_reducible rfl)); simp only [Act.put, List.setIfInBounds_toArray, List.set_cons_zero, List.set_cons_succ]) | (refine Plan.plan_skip rfl rfl ?_; simp only [Act.put, List.setIfInBounds_toArray, List.set_cons_zero, List.set_cons_succ])))
          refine Plan.plan_last rfl (fun K hK => ?_)
          go_simp
          refine hK.out _ _ ?_
          clear hK K
          try simp only [Act.put, List.setIfInBounds_toArray, List.set_cons_zero, List.set_cons_succ]
          go_wp2_with fail
          go_ret
          exact ⟨false, rfl, hBr.drew⟩
        · cases b2
          · go_wp2_with fail
            refine Plan.wp_region_below 35 [(0, true), (1, true), (2, true), (3, true), (4, true), (5, true), (6, true), (7, false), (8, true), (9, true), (10, true), (11, true), (12, true), (13, true), (14, true), (15, false), (16, true), (17, true), (18, true), (19, true), (20, true), (21, true), (22, true), (23, true), (24, true), (25, true), (26, true), (27, true), (28, true), (29, true), (30, true), (31, true), (32, true), (33, true), (34, true), (35, false)] (by kernel_rfl) (by kernel_rfl) ?_
            (repeat (first | (refine Plan.plan_read (v := ?_) rfl rfl ?_ ?_; rotate_left; (focus ((intro wS hSw; have hkS := (bcell hSw).1; try (have hkT := fun (b o : Nat) (h : b < w.heap.size) => hkS b o (by first | omega | (simp; omega) | (simp; done))); go_simp); try with_reducible rfl)); simp only [Act.put, List.setIfInBounds_toArray, List.set_cons_zero, List.set_cons_succ]) | (refine Plan.plan_skip rfl rfl ?_; simp only [Act.put, List.setIfInBounds_toArray, List.set_cons_zero, List.set_cons_succ])))
            refine Plan.plan_write rfl (fun K hK => ?_)
            go_simp
            go_at_call 31
            (with_reducible refine (KX.out _).mono ?_)
            rintro e4 w4 ⟨rfl, rfl⟩
            try go_simp
            refine hK.out _ _ ((Below.refl _ _).drew) ?_
            clear hK K
            try simp only [Act.put, List.setIfInBounds_toArray, List.set_cons_zero, List.set_cons_succ]
            (repeat (first | (refine Plan.plan_read (v := ?_) rfl rfl ?_ ?_; rotate_left; (focus ((intro wS hSw; have hkS := (bcell hSw).1; try (have hkT := fun (b o : Nat) (h : b < w.heap.size) => hkS b o (by first | omega | (simp; omega) | (simp; done))); go_simp); try with_reducible rfl)); simp only [Act.put, List.setIfInBounds_toArray, List.set_cons_zero, List.set_cons_succ]) | (refine Plan.plan_skip rfl rfl ?_; simp only [Act.put, List.setIfInBounds_toArray, List.set_cons_zero, List.set_cons_succ])))
            refine Plan.plan_write rfl (fun K hK => ?_)
            go_simp
            go_at_call 32
            (with_reducible refine (KY.out _).mono ?_)
            rintro e5 w5 ⟨rfl, rfl⟩
            try go_simp
            refine hK.out _ _ ((Below.refl _ _).drew) ?_
            clear hK K
            try simp only [Act.put, List.setIfInBounds_toArray, List.set_cons_zero, List.set_cons_succ]
            (repeat (first | (refine Plan.plan_read (v := ?_) rfl rfl ?_ ?_; rotate_left; (focus ((intro wS hSw; have hkS := (bcell hSw).1; try (have hkT := fun (b o : Nat) (h : b < w.heap.size) => hkS b o (by first | omega | (simp; omega) | (simp; done))); go_simp); try with_reducible rfl)); simp only [Act.put, List.setIfInBounds_toArray, List.set_cons_zero, List.set_cons_succ]) | (refine Plan.plan_skip rfl rfl ?_; simp only [Act.put, List.setIfInBounds_toArray, List.set_cons_zero, List.set_cons_succ])))
            refine Plan.plan_last rfl (fun K hK => ?_)
            go_simp
            refine hK.out _ _ ?_
            clear hK K
            try simp only [Act.put, List.setIfInBounds_toArray, List.set_cons_zero, List.set_cons_succ]
            go_wp2_with fail
            go_ret
            exact ⟨false, rfl, hBr.drew⟩
          · go_wp2_with fail
            refine Plan.wp_region_below 35 [(0, true), (1, true), (2, true), (3, true), (4, true), (5, true), (6, true), (7, false), (8, true), (9, true), (10, true), (11, true), (12, true), (13, true), (14, true), (15, false), (16, true), (17, true), (18, true), (19, true), (20, true), (21, true), (22, true), (23, true), (24, true), (25, true), (26, true), (27, true), (28, true), (29, true), (30, true), (31, true), (32, true), (33, true), (34, true), (35, false)] (by kernel_rfl) (by kernel_rfl) ?_
            (repeat (first | (refine Plan.plan_read (v := ?_) rfl rfl ?_ ?_; rotate_left; (focus ((intro wS hSw; have hkS := (bcell hSw).1; try (have hkT := fun (b o : Nat) (h : b < w.heap.size) => hkS b o (by first | omega | (simp; omega) | (simp; done))); go_simp); try with_reducible rfl)); simp only [Act.put, List.setIfInBounds_toArray, List.set_cons_zero, List.set_cons_succ]) | (refine Plan.plan_skip rfl rfl ?_; simp only [Act.put, List.setIfInBounds_toArray, List.set_cons_zero, List.set_cons_succ])))
            refine Plan.plan_write rfl (fun K hK => ?_)
            go_simp
            go_at_call 31
            (with_reducible refine (KX.out _).mono ?_)
            rintro e4 w4 ⟨rfl, rfl⟩
            try go_simp
            refine hK.out _ _ ((Below.refl _ _).drew) ?_
            clear hK K
            try simp only [Act.put, List.setIfInBounds_toArray, List.set_cons_zero, List.set_cons_succ]
            (repeat (first | (refine Plan.plan_read (v := ?_) rfl rfl ?_ ?_; rotate_left; (focus ((intro wS hSw; have hkS := (bcell hSw).1; try (have hkT := fun (b o : Nat) (h : b < w.heap.size) => hkS b o (by first | omega | (simp; omega) | (simp; done))); go_simp); try with_reducible rfl)); simp only [Act.put, List.setIfInBounds_toArray, List.set_cons_zero, List.set_cons_succ]) | (refine Plan.plan_skip rfl rfl ?_; simp only [Act.put, List.setIfInBounds_toArray, List.set_cons_zero, List.set_cons_succ])))
            refine Plan.plan_write rfl (fun K hK => ?_)
            go_simp
            go_at_call 32
            (with_reducible refine (KY.out _).mono ?_)
            rintro e5 w5 ⟨rfl, rfl⟩
            try go_simp
            refine hK.out _ _ ((Below.refl _ _).drew) ?_
            clear hK K
            try simp only [Act.put, List.setIfInBounds_toArray, List.set_cons_zero, List.set_cons_succ]
            (repeat (first | (refine Plan.plan_read (v := ?_) rfl rfl ?_ ?_; rotate_left; (focus ((intro wS hSw; have hkS := (bcell hSw).1; try (have hkT := fun (b o : Nat) (h : b < w.heap.size) => hkS b o (by first | omega | (simp; omega) | (simp; done))); go_simp); try with_reducible rfl)); simp only [Act.put, List.setIfInBounds_toArray, List.set_cons_zero, List.set_cons_succ]) | (refine Plan.plan_skip rfl rfl ?_; simp only [Act.put, List.setIfInBounds_toArray, List.set_cons_zero, List.set_cons_succ])))
            refine Plan.plan_last rfl (fun K hK => ?_)
            go_simp
            refine hK.out _ _ ?_
            clear hK K
            try simp only [Act.put, List.setIfInBounds_toArray, List.set_cons_zero, List.set_cons_succ]
            go_wp2_with fail
            go_roundw
            case rel => exact ⟨1, by omega, by go_num, hBr.drew⟩
            case measure => simp [intOf]; omega
      · obtain ⟨k, hk⟩ : ∃ k, i = k + 1 := ⟨i - 1, by omega⟩
        obtain ⟨b, off, p, q, ec, hb, d0, c0, c1⟩ := two_cells (HC.out.below hBr) (show k + 1 < len by omega)
        subst ec
        rw [← hk] at c0 c1
        have hbw : b < wr.heap.size := by omega
        have hq1 : IntKind.i64.wrap ((i : Int) - 1) = (k : Int) := by rw [IntKind.wrap_i64]; omega
        have hq2 : (i : Int) - 1 = (k : Int) := by omega
        have hq3 : IntKind.i64.wrap (k : Int) = (k : Int) := by rw [IntKind.wrap_i64]; omega
        have hi1 : decide ((0 : Int) < (i : Int)) = true := decide_eq_true (by omega)
        have hi2 : 0 < i := by omega
        have hkl : k < len := by omega
        obtain ⟨x, hx⟩ : ∃ x, q.ix = x := ⟨_, rfl⟩
        obtain ⟨y, hy⟩ : ∃ y, q.ar = y := ⟨_, rfl⟩
        obtain ⟨u, hu⟩ : ∃ x, p.ix = x := ⟨_, rfl⟩
        rw [hx] at c0
        rw [hy] at c1
        rw [hu] at d0
        clear hx hy hu hk hi0
        have KX := Lib.hid (fun wx => in_is x 0 z wx)
        have KY := Lib.hid (fun wx => vol_is y wx)
        unfold InB at KX
        unfold VolIs at KY
        obtain ⟨b1, hb1⟩ : ∃ b, inB x 0 z = b := ⟨_, rfl⟩
        obtain ⟨b2, hb2⟩ : ∃ b, inB y 0 1125899906842624 = b := ⟨_, rfl⟩
        rw [hb1] at KX
        rw [hb2] at KY
        clear hb1 hb2
        cases b1
        · go_wp2_with fail
          refine Plan.wp_region_below 35 [(0, true), (1, true), (2, true), (3, true), (4, true), (5, true), (6, true), (7, false), (8, true), (9, true), (10, true), (11, true), (12, true), (13, true), (14, true), (15, true), (16, true), (17, true), (18, true), (19, true), (20, true), (21, true), (22, true), (23, true), (24, true), (25, true), (26, true), (27, true), (28, true), (29, true), (30, true), (31, true), (32, true), (33, true), (34, true), (35, false)] (by kernel_rfl) (by kernel_rfl) ?_
          (repeat (first | (refine Plan.plan_read (v := ?_) rfl rfl ?_ ?_; rotate_left; (focus ((intro wS hSw; have hkS := (bcell hSw).1; try (have hkT := fun (b o : Nat) (h : b < w.heap.size) => hkS b o (by first | omega | (simp; omega) | (simp; done))); go_simp); try with_reducible rfl)); simp only [Act.put, List.setIfInBounds_toArray, List.set_cons_zero, List.set_cons_succ]) | (refine Plan.plan_skip rfl rfl ?_; simp only [Act.put, List.setIfInBounds_toArray, List.set_cons_zero, List.set_cons_succ])))
          refine Plan.plan_write rfl (fun K hK => ?_)
          go_simp
          go_at_call 31
          (with_reducible refine (KX.out _).mono ?_)
          rintro e4 w4 ⟨rfl, rfl⟩
          try go_simp
          refine hK.out _ _ ((Below.refl _ _).drew) ?_
          clear hK K
          try simp only [Act.put, List.setIfInBounds_toArray, List.set_cons_zero, List.set_cons_succ]
          (repeat (first | (refine Plan.plan_read (v := ?_) rfl rfl ?_ ?_; rotate_left; (focus ((intro wS hSw; have hkS := (bcell hSw).1; try (have hkT := fun (b o : Nat) (h : b < w.heap.size) => hkS b o (by first | omega | (simp; omega) | (simp; done))); go_simp); try with_reducible rfl)); simp only [Act.put, List.setIfInBounds_toArray, List.set_cons_zero, List.set_cons_succ]) | (refine Plan.plan_skip rfl rfl ?_; simp only [Act.put, List.setIfInBounds_toArray, List.set_cons_zero, List.set_cons_succ])))
          refine Plan.plan_last rfl (fun K hK => ?_)
          go_simp
          refine hK.out _ _ ?_
          clear hK K
          try simp only [Act.put, List.setIfInBounds_toArray, List.set_cons_zero, List.set_cons_succ]
          go_wp2_with fail
          go_ret
          exact ⟨false, rfl, hBr.drew⟩
        · cases b2
          · go_wp2_with fail
            refine Plan.wp_region_below 35 [(0, true), (1, true), (2, true), (3, true), (4, true), (5, true), (6, true), (7, false), (8, true), (9, true), (10, true), (11, true), (12, true), (13, true), (14, true), (15, false), (16, true), (17, true), (18, true), (19, true), (20, true), (21, true), (22, true), (23, true), (24, true), (25, true), (26, true), (27, true), (28, true), (29, true), (30, true), (31, true), (32, true), (33, true), (34, true), (35, false)] (by kernel_rfl) (by kernel_rfl) ?_
            (repeat (first | (refine Plan.plan_read (v := ?_) rfl rfl ?_ ?_; rotate_left; (focus ((intro wS hSw; have hkS := (bcell hSw).1; try (have hkT := fun (b o : Nat) (h : b < w.heap.size) => hkS b o (by first | omega | (simp; omega) | (simp; done))); go_simp); try with_reducible rfl)); simp only [Act.put, List.setIfInBounds_toArray, List.set_cons_zero, List.set_cons_succ]) | (refine Plan.plan_skip rfl rfl ?_; simp only [Act.put, List.setIfInBounds_toArray, List.set_cons_zero, List.set_cons_succ])))
            refine Plan.plan_write rfl (fun K hK => ?_)
            go_simp
            go_at_call 31
            (with_reducible refine (KX.out _).mono ?_)
            rintro e4 w4 ⟨rfl, rfl⟩
            try go_simp
            refine hK.out _ _ ((Below.refl _ _).drew) ?_
            clear hK K
            try simp only [Act.put, List.setIfInBounds_toArray, List.set_cons_zero, List.set_cons_succ]
            (repeat (first | (refine Plan.plan_read (v := ?_) rfl rfl ?_ ?_; rotate_left; (focus ((intro wS hSw; have hkS := (bcell hSw).1; try (have hkT := fun (b o : Nat) (h : b < w.heap.size) => hkS b o (by first | omega | (simp; omega) | (simp; done))); go_simp); try with_reducible rfl)); simp only [Act.put, List.setIfInBounds_toArray, List.set_cons_zero, List.set_cons_succ]) | (refine Plan.plan_skip rfl rfl ?_; simp only [Act.put, List.setIfInBounds_toArray, List.set_cons_zero, List.set_cons_succ])))
            refine Plan.plan_write rfl (fun K hK => ?_)
            go_simp
            go_at_call 32
            (with_reducible refine (KY.out _).mono ?_)
            rintro e5 w5 ⟨rfl, rfl⟩
            try go_simp
            refine hK.out _ _ ((Below.refl _ _).drew) ?_
            clear hK K
            try simp only [Act.put, List.setIfInBounds_toArray, List.set_cons_zero, List.set_cons_succ]
            (repeat (first | (refine Plan.plan_read (v := ?_) rfl rfl ?_ ?_; rotate_left; (focus ((intro wS hSw; have hkS := (bcell hSw).1; try (have hkT := fun (b o : Nat) (h : b < w.heap.size) => hkS b o (by first | omega | (simp; omega) | (simp; done))); go_simp); try with_reducible rfl)); simp only [Act.put, List.setIfInBounds_toArray, List.set_cons_zero, List.set_cons_succ]) | (refine Plan.plan_skip rfl rfl ?_; simp only [Act.put, List.setIfInBounds_toArray, List.set_cons_zero, List.set_cons_succ])))
            refine Plan.plan_last rfl (fun K hK => ?_)
            go_simp
            refine hK.out _ _ ?_
            clear hK K
            try simp only [Act.put, List.setIfInBounds_toArray, List.set_cons_zero, List.set_cons_succ]
            go_wp2_with fail
            go_ret
            exact ⟨false, rfl, hBr.drew⟩
          · by_cases g1 : x ≤ u
            · have g2 : decide (x ≤ u) = true := decide_eq_true g1
              go_wp2_with fail
              refine Plan.wp_region_below 35 [(0, true), (1, true), (2, true), (3, true), (4, true), (5, true), (6, true), (7, false), (8, true), (9, true), (10, true), (11, true), (12, true), (13, true), (14, true), (15, false), (16, true), (17, true), (18, true), (19, true), (20, true), (21, true), (22, true), (23, true), (24, true), (25, true), (26, true), (27, true), (28, true), (29, true), (30, true), (31, true), (32, true), (33, true), (34, true), (35, false)] (by kernel_rfl) (by kernel_rfl) ?_
              (repeat (first | (refine Plan.plan_read (v := ?_) rfl rfl ?_ ?_; rotate_left; (focus ((intro wS hSw; have hkS := (bcell hSw).1; try (have hkT := fun (b o : Nat) (h : b < w.heap.size) => hkS b o (by first | omega | (simp; omega) | (simp; done))); go_simp); try with_reducible rfl)); simp only [Act.put, List.setIfInBounds_toArray, List.set_cons_zero, List.set_cons_succ]) | (refine Plan.plan_skip rfl rfl ?_; simp only [Act.put, List.setIfInBounds_toArray, List.set_cons_zero, List.set_cons_succ])))
              refine Plan.plan_write rfl (fun K hK => ?_)
              go_simp
              go_at_call 31
              (with_reducible refine (KX.out _).mono ?_)
              rintro e4 w4 ⟨rfl, rfl⟩
              try go_simp
              refine hK.out _ _ ((Below.refl _ _).drew) ?_
              clear hK K
              try simp only [Act.put, List.setIfInBounds_toArray, List.set_cons_zero, List.set_cons_succ]
              (repeat (first | (refine Plan.plan_read (v := ?_) rfl rfl ?_ ?_; rotate_left; (focus ((intro wS hSw; have hkS := (bcell hSw).1; try (have hkT := fun (b o : Nat) (h : b < w.heap.size) => hkS b o (by first | omega | (simp; omega) | (simp; done))); go_simp); try with_reducible rfl)); simp only [Act.put, List.setIfInBounds_toArray, List.set_cons_zero, List.set_cons_succ]) | (refine Plan.plan_skip rfl rfl ?_; simp only [Act.put, List.setIfInBounds_toArray, List.set_cons_zero, List.set_cons_succ])))
              refine Plan.plan_write rfl (fun K hK => ?_)
              go_simp
              go_at_call 32
              (with_reducible refine (KY.out _).mono ?_)
              rintro e5 w5 ⟨rfl, rfl⟩
              try go_simp
              refine hK.out _ _ ((Below.refl _ _).drew) ?_
              clear hK K
              try simp only [Act.put, List.setIfInBounds_toArray, List.set_cons_zero, List.set_cons_succ]
              (repeat (first | (refine Plan.plan_read (v := ?_) rfl rfl ?_ ?_; rotate_left; (focus ((intro wS hSw; have hkS := (bcell hSw).1; try (have hkT := fun (b o : Nat) (h : b < w.heap.size) => hkS b o (by first | omega | (simp; omega) | (simp; done))); go_simp); try with_reducible rfl)); simp only [Act.put, List.setIfInBounds_toArray, List.set_cons_zero, List.set_cons_succ]) | (refine Plan.plan_skip rfl rfl ?_; simp only [Act.put, List.setIfInBounds_toArray, List.set_cons_zero, List.set_cons_succ])))
              refine Plan.plan_last rfl (fun K hK => ?_)
              go_simp
              refine hK.out _ _ ?_
              clear hK K
              try simp only [Act.put, List.setIfInBounds_toArray, List.set_cons_zero, List.set_cons_succ]
              go_wp2_with fail
              go_ret
              exact ⟨false, rfl, hBr.drew⟩
            · have g2 : decide (x ≤ u) = false := decide_eq_false g1
              go_wp2_with fail
              refine Plan.wp_region_below 35 [(0, true), (1, true), (2, true), (3, true), (4, true), (5, true), (6, true), (7, false), (8, true), (9, true), (10, true), (11, true), (12, true), (13, true), (14, true), (15, false), (16, true), (17, true), (18, true), (19, true), (20, true), (21, true), (22, true), (23, true), (24, true), (25, true), (26, true), (27, true), (28, true), (29, true), (30, true), (31, true), (32, true), (33, true), (34, true), (35, false)] (by kernel_rfl) (by kernel_rfl) ?_
              (repeat (first | (refine Plan.plan_read (v := ?_) rfl rfl ?_ ?_; rotate_left; (focus ((intro wS hSw; have hkS := (bcell hSw).1; try (have hkT := fun (b o : Nat) (h : b < w.heap.size) => hkS b o (by first | omega | (simp; omega) | (simp; done))); go_simp); try with_reducible rfl)); simp only [Act.put, List.setIfInBounds_toArray, List.set_cons_zero, List.set_cons_succ]) | (refine Plan.plan_skip rfl rfl ?_; simp only [Act.put, List.setIfInBounds_toArray, List.set_cons_zero, List.set_cons_succ])))
              refine Plan.plan_write rfl (fun K hK => ?_)
              go_simp
              go_at_call 31
              (with_reducible refine (KX.out _).mono ?_)
              rintro e4 w4 ⟨rfl, rfl⟩
              try go_simp
              refine hK.out _ _ ((Below.refl _ _).drew) ?_
              clear hK K
              try simp only [Act.put, List.setIfInBounds_toArray, List.set_cons_zero, List.set_cons_succ]
              (repeat (first | (refine Plan.plan_read (v := ?_) rfl rfl ?_ ?_; rotate_left; (focus ((intro wS hSw; have hkS := (bcell hSw).1; try (have hkT := fun (b o : Nat) (h : b < w.heap.size) => hkS b o (by first | omega | (simp; omega) | (simp; done))); go_simp); try with_reducible rfl)); simp only [Act.put, List.setIfInBounds_toArray, List.set_cons_zero, List.set_cons_succ]) | (refine Plan.plan_skip rfl rfl ?_; simp only [Act.put, List.setIfInBounds_toArray, List.set_cons_zero, List.set_cons_succ])))
              refine Plan.plan_write rfl (fun K hK => ?_)
              go_simp
              go_at_call 32
              (with_reducible refine (KY.out _).mono ?_)
              rintro e5 w5 ⟨rfl, rfl⟩
              try go_simp
              refine hK.out _ _ ((Below.refl _ _).drew) ?_
              clear hK K
              try simp only [Act.put, List.setIfInBounds_toArray, List.set_cons_zero, List.set_cons_succ]
              (repeat (first | (refine Plan.plan_read (v := ?_) rfl rfl ?_ ?_; rotate_left; (focus ((intro wS hSw; have hkS := (bcell hSw).1; try (have hkT := fun (b o : Nat) (h : b < w.heap.size) => hkS b o (by first | omega | (simp; omega) | (simp; done))); go_simp); try with_reducible rfl)); simp only [Act.put, List.setIfInBounds_toArray, List.set_cons_zero, List.set_cons_succ]) | (refine Plan.plan_skip rfl rfl ?_; simp only [Act.put, List.setIfInBounds_toArray, List.set_cons_zero, List.set_cons_succ])))
              refine Plan.plan_last rfl (fun K hK => ?_)
              go_simp
              refine hK.out _ _ ?_
              clear hK K
              try simp only [Act.put, List.setIfInBounds_toArray, List.set_cons_zero, List.set_cons_succ]
              go_wp2_with fail
              go_roundw
              case rel => exact ⟨i + 1, by omega, by go_num, hBr.drew⟩
              case measure => simp [intOf]; omega
    · obtain rfl : len = i := by omega
      go_wp2_with fail
      go_ret
      exact ⟨true, rfl, hBr⟩
/-- A slice's element as cells, all at once. -/
theorem lk_at {w : World} {B len : Nat} {C : Option Addr} (h : Sl w B 108 18 C len) {i : Nat} (hi : i < len) : ∃ (b off : Nat) (p : Lk), C = some ⟨b, off, none⟩ ∧ b < B ∧ p.ok w B ∧ w.rangeAt b (off + i * 18) p.cells := by
  obtain ⟨_, m, hm⟩ := h
  obtain ⟨b, off, e, hb, hc⟩ := hm (by omega)
  obtain ⟨F, h1, h2, h3⟩ := hc i hi
  obtain ⟨p, rfl, hok⟩ := Lk.of h3
  exact ⟨b, off, p, e, hb, hok, fun j u hu => by rw [Nat.add_assoc]; exact h2 j u hu⟩
theorem pv_at {w : World} {B len : Nat} {C : Option Addr} (h : Sl w B 91 12 C len) {i : Nat} (hi : i < len) : ∃ (b off : Nat) (p : Pv), C = some ⟨b, off, none⟩ ∧ b < B ∧ p.ok w B ∧ w.rangeAt b (off + i * 12) p.cells := by
  obtain ⟨_, m, hm⟩ := h
  obtain ⟨b, off, e, hb, hc⟩ := hm (by omega)
  obtain ⟨F, h1, h2, h3⟩ := hc i hi
  obtain ⟨p, rfl, hok⟩ := Pv.of h3
  exact ⟨b, off, p, e, hb, hok, fun j u hu => by rw [Nat.add_assoc]; exact h2 j u hu⟩
theorem pvInfo0 : (Try.prog.info? 91).map (·.size) = some 12 := by kernel_rfl
theorem pvInfo (p : Pv) : (Try.prog.info? 91).map (·.size) = some p.cells.length := pvInfo0
theorem pvOne (p : Pv) : p.cells.toArray.all (·.oneCell') = true := by unfold Pv.cells; kernel_rfl
set_option maxRecDepth 100000 in
set_option maxHeartbeats 8000000 in
theorem rightPlace_any (X : Bas) (pl : CM.Pl) (i : Nat) (w : World) (hX : BasOk w w.heap.size X pl) (hi : i < pl.length) : Calls Try.prog 33 #[.agg #[.string X.nm, .slice X.a1 X.l1 X.c1, .int .i64 X.cl, .slice X.P pl.length X.cP, .slice X.a4 X.l4 X.c4, .slice X.a5 X.l5 X.c5, .slice X.a6 X.l6 X.c6, .slice X.a7 X.l7 X.c7, .slice X.a8 X.l8 X.c8, .slice X.a9 X.l9 X.c9, .int .i64 X.er], .int .i64 i] w (SomeB w) := by
  have hpl := hX.pla.1
  have hol := hX.own.1
  obtain ⟨nm, a1, l1, c1, cl, P, cP, a4, l4, c4, a5, l5, c5, a6, l6, c6, a7, l7, c7, a8, l8, c8, a9, l9, c9, er⟩ := X
  dsimp only at hol ⊢
  have KN : Hid (∀ (office t : Int) (wx : World), Below w.heap.size w wx → Calls Try.prog 47 #[.agg #[.string nm, .slice a1 l1 c1, .int .i64 cl, .slice P pl.length cP, .slice a4 l4 c4, .slice a5 l5 c5, .slice a6 l6 c6, .slice a7 l7 c7, .slice a8 l8 c8, .slice a9 l9 c9, .int .i64 er], .int .i64 office, .int .i64 t] wx (NextIs pl.length t wx)) := fun office t wx h => next_any ⟨nm, a1, l1, c1, cl, P, cP, a4, l4, c4, a5, l5, c5, a6, l6, c6, a7, l7, c7, a8, l8, c8, a9, l9, c9, er⟩ pl office t wx (hX.up h)
  have hB0 : Below w.heap.size w (w.alloc (.cells (#[.string nm, .slice a1 l1 c1, .int .i64 cl, .slice P pl.length cP, .slice a4 l4 c4, .slice a5 l5 c5, .slice a6 l6 c6, .slice a7 l7 c7, .slice a8 l8 c8, .slice a9 l9 c9, .int .i64 er]) 31)) := (Below.refl _ _).alloc (Nat.le_refl _) _
  have hX0 : Box (w.alloc (.cells (#[.string nm, .slice a1 l1 c1, .int .i64 cl, .slice P pl.length cP, .slice a4 l4 c4, .slice a5 l5 c5, .slice a6 l6 c6, .slice a7 l7 c7, .slice a8 l8 c8, .slice a9 l9 c9, .int .i64 er]) 31)) w.heap.size (#[.string nm, .slice a1 l1 c1, .int .i64 cl, .slice P pl.length cP, .slice a4 l4 c4, .slice a5 l5 c5, .slice a6 l6 c6, .slice a7 l7 c7, .slice a8 l8 c8, .slice a9 l9 c9, .int .i64 er]) 31 := Box.new w _ _
  obtain ⟨_, fs, hu, _⟩ := fieldsPv
  have HU := Lib.hid hu
  have KI := Lib.hid (fun n lo hi wx => in_any n lo hi wx)
  have KV := Lib.hid (fun n wx => vol_any n wx)
  have KF := Lib.hid (fun n d z wx => fraction_any n d z wx)
  obtain ⟨bl, offl, p, hal, hbl, hpo, hra⟩ := pv_at hX.pla hi
  dsimp only at hal
  subst hal
  have KR := Lib.hid (fun wx (h : Below w.heap.size w wx) => right10_any p.alv p.llv p.clv wx (hpo.up h).1)
  have KC := Lib.hid (fun cells wx (h : Below w.heap.size w wx) => rained_any p.arn p.lrn p.crn cells wx (hpo.up h).2.2)
  have HS := Lib.hid (fun wx (h : Below w.heap.size w wx) => (hpo.up h).2.1)
  have hsl := hpo.2.1.1
  have HR : Hid ((w.alloc (.cells (#[.string nm, .slice a1 l1 c1, .int .i64 cl, .slice (some ⟨bl, offl, none⟩) pl.length cP, .slice a4 l4 c4, .slice a5 l5 c5, .slice a6 l6 c6, .slice a7 l7 c7, .slice a8 l8 c8, .slice a9 l9 c9, .int .i64 er]) 31)).rangeAt bl (offl + i * 12) p.cells) := fun j u hu => (hB0.cell (p := ⟨bl, offl + i * 12 + j, none⟩) hbl).trans (hra j u hu)
  clear hX hu hra hpo
  go_enter Try.func33, Try.ntmps33
  go_upto_region 1 with fail
  have hwz : w.heap.size < (w.alloc (.cells (#[.string nm, .slice a1 l1 c1, .int .i64 cl, .slice (some ⟨bl, offl, none⟩) pl.length cP, .slice a4 l4 c4, .slice a5 l5 c5, .slice a6 l6 c6, .slice a7 l7 c7, .slice a8 l8 c8, .slice a9 l9 c9, .int .i64 er]) 31)).heap.size := hX0.lt
  generalize (w.alloc (.cells (#[.string nm, .slice a1 l1 c1, .int .i64 cl, .slice (some ⟨bl, offl, none⟩) pl.length cP, .slice a4 l4 c4, .slice a5 l5 c5, .slice a6 l6 c6, .slice a7 l7 c7, .slice a8 l8 c8, .slice a9 l9 c9, .int .i64 er]) 31)) = w0 at hB0 hX0 hwz HR ⊢
  have x3 : w0.cell? ⟨w.heap.size, 3, none⟩ = some (.slice (some ⟨bl, offl, none⟩) pl.length cP) := hX0.cell rfl
  have hbl0 : bl < w0.heap.size := by omega
  have hY2 : Box (w0.alloc (.cells (#[.string ⟨#[]⟩, .int .i64 0, .int .i64 0, .int .i64 0, .slice none 0 0, .slice none 0 0, .int .i64 0, .int .i64 0, .int .i64 0, .int .i64 0, .int .i64 0, .slice none 0 0]) 91)) w0.heap.size (#[.string ⟨#[]⟩, .int .i64 0, .int .i64 0, .int .i64 0, .slice none 0 0, .slice none 0 0, .int .i64 0, .int .i64 0, .int .i64 0, .int .i64 0, .int .i64 0, .slice none 0 0]) 91 := Box.new _ _ _
  have hX2 : Box (w0.alloc (.cells (#[.string ⟨#[]⟩, .int .i64 0, .int .i64 0, .int .i64 0, .slice none 0 0, .slice none 0 0, .int .i64 0, .int .i64 0, .int .i64 0, .int .i64 0, .int .i64 0, .slice none 0 0]) 91)) w.heap.size (#[.string nm, .slice a1 l1 c1, .int .i64 cl, .slice (some ⟨bl, offl, none⟩) pl.length cP, .slice a4 l4 c4, .slice a5 l5 c5, .slice a6 l6 c6, .slice a7 l7 c7, .slice a8 l8 c8, .slice a9 l9 c9, .int .i64 er]) 31 := hX0.keep (Below.heap_alloc _ _ _ hX0.lt)
  have hB2 : Below w.heap.size w (w0.alloc (.cells (#[.string ⟨#[]⟩, .int .i64 0, .int .i64 0, .int .i64 0, .slice none 0 0, .slice none 0 0, .int .i64 0, .int .i64 0, .int .i64 0, .int .i64 0, .int .i64 0, .slice none 0 0]) 91)) := hB0.alloc hB0.size _
  have hne : w.heap.size ≠ w0.heap.size := by omega
  have Hth := Lib.hid (hY2.there (n := p.cells.toArray.size) rfl)
  have HX3 := Lib.hid (hX2.keep (heap_all hne p.cells.toArray.toList 0 _))
  have HY3 := Lib.hid (hY2.all p.cells.toArray.toList rfl)
  have hB3 := below_all hB2 (show w.heap.size ≤ w0.heap.size by omega) p.cells.toArray.toList 0
  clear hX2 hY2 hB2
  go_upto_region 2 with (first | (refine wpList_load_mid (by rfl) 91 _ (by rfl) bl (offl + i * 12) (by rfl) p.cells _ HR.out HU.out rfl (pvInfo p) ?_) | (refine wpList_store_mid (by rfl) 91 _ _ (by rfl) w0.heap.size 0 p.cells.toArray (by rfl) (by rfl) Hth.out (by simpa using pvInfo p) (pvOne p) ?_) | fail)
  generalize ((w0.alloc (.cells (#[.string ⟨#[]⟩, .int .i64 0, .int .i64 0, .int .i64 0, .slice none 0 0, .slice none 0 0, .int .i64 0, .int .i64 0, .int .i64 0, .int .i64 0, .int .i64 0, .slice none 0 0]) 91)).setCells w0.heap.size 0 p.cells) = W at HX3 HY3 hB3 ⊢
  clear Hth
  generalize w0.heap.size = b5 at HX3 HY3 hne hwz ⊢
  have hX := HX3.out
  have hY := HY3.out
  have hB := hB3
  have hWb := hY.lt
  clear HX3 HY3 hB3 hB0 hX0 HR
  clear x3 hbl0
  have y1 : W.cell? ⟨b5, 1, none⟩ = some (.int .i64 p.kind) := hY.cell rfl
  have y2 : W.cell? ⟨b5, 2, none⟩ = some (.int .i64 p.office) := hY.cell rfl
  have y3 : W.cell? ⟨b5, 3, none⟩ = some (.int .i64 p.cap) := hY.cell rfl
  have y4 : W.cell? ⟨b5, 4, none⟩ = some (.slice p.alv p.llv p.clv) := hY.cell rfl
  have y5 : W.cell? ⟨b5, 5, none⟩ = some (.slice p.ast p.lst p.cst) := hY.cell rfl
  have y6 : W.cell? ⟨b5, 6, none⟩ = some (.int .i64 p.num) := hY.cell rfl
  have y7 : W.cell? ⟨b5, 7, none⟩ = some (.int .i64 p.den) := hY.cell rfl
  have y8 : W.cell? ⟨b5, 8, none⟩ = some (.int .i64 p.down) := hY.cell rfl
  have y9 : W.cell? ⟨b5, 9, none⟩ = some (.int .i64 p.delay) := hY.cell rfl
  have y10 : W.cell? ⟨b5, 10, none⟩ = some (.int .i64 p.floor) := hY.cell rfl
  have y11 : W.cell? ⟨b5, 11, none⟩ = some (.slice p.arn p.lrn p.crn) := hY.cell rfl
  go_wp2_with (first | (go_at_call 31; (with_reducible refine (KI.out _ _ _ _).mono ?_); rintro e5 w5 ⟨b, rfl, rfl, _⟩; cases b) | (go_at_call 32; (with_reducible refine (KV.out _ _).mono ?_); rintro e5 w5 ⟨b, rfl, rfl⟩; cases b) | (go_at_call 45; (with_reducible refine (KF.out _ _ _ _).mono ?_); rintro e5 w5 ⟨b, rfl, rfl⟩; cases b) | fail)
  all_goals first
    | (go_ret; exact ⟨false, rfl, hB⟩)
    | skip
  go_loopw [6] (fun iv wr => ∃ k : Nat, k ≤ p.lst ∧ iv = .int .i64 k ∧ Box wr w.heap.size (#[.string nm, .slice a1 l1 c1, .int .i64 cl, .slice (some ⟨bl, offl, none⟩) pl.length cP, .slice a4 l4 c4, .slice a5 l5 c5, .slice a6 l6 c6, .slice a7 l7 c7, .slice a8 l8 c8, .slice a9 l9 c9, .int .i64 er]) 31 ∧ Box wr b5 p.cells.toArray 91 ∧ Below w.heap.size w wr) (fun iv _ => p.lst - (intOf iv).toNat)
  case atStart => exact ⟨0, Nat.zero_le _, rfl, hX, hY, hB⟩
  case round =>
    clear hX hY hB y1 y2 y3 y4 y5 y6 y7 y8 y9 y10 y11
    obtain ⟨k, hk, rfl, hX, hY, hB⟩ := hrel
    have y5 : wr.cell? ⟨b5, 5, none⟩ = some (.slice p.ast p.lst p.cst) := hY.cell rfl
    by_cases hlt : k < p.lst
    · obtain ⟨bs, os, z, es, hbs, cs⟩ := int_at (HS.out _ hB) hlt
      rw [es] at y5
      go_wp2_with (first | (go_at_call 31; (with_reducible refine (KI.out _ _ _ _).mono ?_); rintro e5 w5 ⟨b, rfl, rfl, _⟩; cases b) | (go_at_call 32; (with_reducible refine (KV.out _ _).mono ?_); rintro e5 w5 ⟨b, rfl, rfl⟩; cases b) | (go_at_call 45; (with_reducible refine (KF.out _ _ _ _).mono ?_); rintro e5 w5 ⟨b, rfl, rfl⟩; cases b) | fail)
      all_goals first
        | (go_ret; exact ⟨false, rfl, hB⟩)
        | (go_roundw
           case rel => exact ⟨k + 1, by omega, by go_num, hX, hY, hB⟩
           case measure => simp [intOf]; omega)
    · obtain rfl : p.lst = k := by omega
      have y4 : wr.cell? ⟨b5, 4, none⟩ = some (.slice p.alv p.llv p.clv) := hY.cell rfl
      go_wp2_with fail
      go_at_call 46
      (with_reducible refine (KR.out _ hB).mono ?_)
      rintro e6 w6 ⟨b, rfl, hb6, _⟩
      have hX6 := hX.below hb6 hX.lt
      have hY6 := hY.below hb6 hY.lt
      have hB6 := hB.trans (hb6.mono hB.size)
      clear hX hY y4 y5
      cases b
      · go_wp2_with fail
        go_ret
        exact ⟨false, rfl, hB6⟩
      · skip
        have x0 : w6.cell? ⟨w.heap.size, 0, none⟩ = some (.string nm) := hX6.cell rfl
        have x1 : w6.cell? ⟨w.heap.size, 1, none⟩ = some (.slice a1 l1 c1) := hX6.cell rfl
        have x2 : w6.cell? ⟨w.heap.size, 2, none⟩ = some (.int .i64 cl) := hX6.cell rfl
        have x3 : w6.cell? ⟨w.heap.size, 3, none⟩ = some (.slice (some ⟨bl, offl, none⟩) pl.length cP) := hX6.cell rfl
        have x4 : w6.cell? ⟨w.heap.size, 4, none⟩ = some (.slice a4 l4 c4) := hX6.cell rfl
        have x5 : w6.cell? ⟨w.heap.size, 5, none⟩ = some (.slice a5 l5 c5) := hX6.cell rfl
        have x6 : w6.cell? ⟨w.heap.size, 6, none⟩ = some (.slice a6 l6 c6) := hX6.cell rfl
        have x7 : w6.cell? ⟨w.heap.size, 7, none⟩ = some (.slice a7 l7 c7) := hX6.cell rfl
        have x8 : w6.cell? ⟨w.heap.size, 8, none⟩ = some (.slice a8 l8 c8) := hX6.cell rfl
        have x9 : w6.cell? ⟨w.heap.size, 9, none⟩ = some (.slice a9 l9 c9) := hX6.cell rfl
        have x10 : w6.cell? ⟨w.heap.size, 10, none⟩ = some (.int .i64 er) := hX6.cell rfl
        have y2 : w6.cell? ⟨b5, 2, none⟩ = some (.int .i64 p.office) := hY6.cell rfl
        have y5 : w6.cell? ⟨b5, 5, none⟩ = some (.slice p.ast p.lst p.cst) := hY6.cell rfl
        have y8 : w6.cell? ⟨b5, 8, none⟩ = some (.int .i64 p.down) := hY6.cell rfl
        have y11 : w6.cell? ⟨b5, 11, none⟩ = some (.slice p.arn p.lrn p.crn) := hY6.cell rfl
        by_cases g1 : p.lst = l1
        · have e1 : ((p.lst : Int) == (l1 : Int)) = true := by simp [g1]
          have e1' : (p.lst == l1) = true := by simp [g1]
          obtain ⟨dn, hdn⟩ : ∃ z, p.down = z := ⟨_, rfl⟩
          rw [hdn] at y8
          by_cases g2 : dn = (i : Int)
          · subst g2
            go_wp2_with fail
            go_ret
            exact ⟨false, rfl, hB6⟩
          · have e2 : (dn != (i : Int)) = true := by simpa using g2
            go_wp2_with fail
            go_at_call 47
            (with_reducible refine (KN.out _ _ _ hB6).mono ?_)
            rintro e9 w9 ⟨b, rfl, hb9, _⟩
            have hB9 := hB6.trans (hb9.mono hB6.size)
            have z11 : w9.cell? ⟨b5, 11, none⟩ = some (.slice p.arn p.lrn p.crn) := (hb9.cell (p := ⟨b5, 11, none⟩) hY6.lt).trans y11
            have v2 : w9.cell? ⟨w.heap.size, 2, none⟩ = some (.int .i64 cl) := (hb9.cell (p := ⟨w.heap.size, 2, none⟩) hX6.lt).trans x2
            cases b
            · go_wp2_with fail
              go_ret
              exact ⟨false, rfl, hB9⟩
            · go_wp2_with fail
              go_at_call 48
              (with_reducible refine (KC.out _ _ hB9).mono ?_)
              rintro e8 w8 ⟨b, rfl, hb8⟩
              go_wp2_with fail
              all_goals
                go_ret
                exact ⟨_, rfl, hB9.trans (hb8.mono hB9.size)⟩
        · have e1 : ((p.lst : Int) == (l1 : Int)) = false := by simp; omega
          have e1' : (p.lst == l1) = false := by simpa using g1
          go_wp2_with fail
          go_ret
          exact ⟨false, rfl, hB6⟩
end Go.Proofs.Ythoigjkelinjhaa.RT
