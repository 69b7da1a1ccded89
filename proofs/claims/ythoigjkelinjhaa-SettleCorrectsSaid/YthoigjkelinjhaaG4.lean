/- Walks of what is asked of curves: value, steepest, Under. (Printed by gen_g4.py.) -/
import Derived.Test.YthoigjkelinjhaaG3
set_option linter.unusedSimpArgs false
set_option linter.unusedVariables false
namespace Go.Proofs.Ythoigjkelinjhaa.RT
open Go.RowKit BV
attribute [local go_sem] alloc_drewN setCell_drewN shape_drewN

def ValIs (w : World) (e : Ending) (w' : World) : Prop := ∃ (n : Int) (b : Bool), e = .returned (.tuple #[.int .i64 n, .bool b]) ∧ Below w.heap.size w w'
set_option maxRecDepth 100000 in
set_option maxHeartbeats 8000000 in
theorem value_any (C : Option Addr) (len c : Nat) (z : Int) (w : World) (hC : Sl w w.heap.size 128 2 C len) (hl0 : 1 ≤ len) : Calls Try.prog 63 #[.slice C len c, .int .i64 z] w (ValIs w) := by
  have hl := hC.1
  have HC := Lib.hid hC
  obtain ⟨b, off, p, ec, hb, _, c0, c1⟩ := Pt.at_ hC (show 0 < len by omega)
  rw [Nat.zero_mul, Nat.add_zero] at c0 c1
  subst ec
  obtain ⟨l, hll⟩ : ∃ l, len = l + 1 := ⟨len - 1, by omega⟩
  have KS := Lib.hid (fun a n d wx => scale_any a n d wx)
  by_cases hz : z ≤ p.x
  · have e1 : decide (z ≤ p.x) = true := decide_eq_true hz
    clear hC hll
    go_enter Try.func63, Try.ntmps63
    go_wp2_with fail
    go_ret2
    exact ⟨_, _, rfl, Below.refl _ _⟩
  · have e1 : decide (z ≤ p.x) = false := decide_eq_false hz
    clear hC
    have Hll := Lib.hid hll
    clear hll
    go_enter Try.func63, Try.ntmps63
    go_wp2_with fail
    go_loopw [6] (fun iv wr => ∃ i : Nat, 1 ≤ i ∧ i ≤ len ∧ iv = .int .i64 i ∧ Below w.heap.size w wr) (fun iv _ => len - (intOf iv).toNat)
    case atStart => exact ⟨1, Nat.le_refl _, hl0, rfl, Below.refl _ _⟩
    case round =>
      clear c0 c1 e1
      obtain ⟨i, hi1, hi, rfl, hBr⟩ := hrel
      have hz := hBr.size
      by_cases hlt : i < len
      · skip
        obtain ⟨k, hk⟩ : ∃ k, i = k + 1 := ⟨i - 1, by omega⟩
        obtain ⟨b, off, p, q, ec, hb, d0, d1, c0, c1⟩ := two_at (HC.out.below hBr) (show k + 1 < len by omega)
        (injection ec with ec; injection ec with eb eo; subst eb eo)
        rw [← hk] at c0 c1
        have hbw : b < wr.heap.size := by omega
        have hq1 : IntKind.i64.wrap ((i : Int) - 1) = (k : Int) := by rw [IntKind.wrap_i64]; omega
        have hq2 : (i : Int) - 1 = (k : Int) := by omega
        have hq3 : IntKind.i64.wrap (k : Int) = (k : Int) := by rw [IntKind.wrap_i64]; omega
        have hkl : k < len := by omega
        obtain ⟨x, hx⟩ : ∃ x, q.x = x := ⟨_, rfl⟩
        obtain ⟨y, hy⟩ : ∃ y, q.y = y := ⟨_, rfl⟩
        obtain ⟨u, hu⟩ : ∃ x, p.x = x := ⟨_, rfl⟩
        obtain ⟨v, hv⟩ : ∃ y, p.y = y := ⟨_, rfl⟩
        rw [hx] at c0
        rw [hy] at c1
        rw [hu] at d0
        rw [hv] at d1
        clear hx hy hu hv hk
        by_cases g1 : z ≤ x
        · have g2 : decide (z ≤ x) = true := decide_eq_true g1
          go_wp2_with fail
          refine Plan.wp_region_below 39 [(0, true), (1, true), (2, true), (3, true), (4, true), (5, true), (6, true), (7, true), (8, true), (9, true), (10, true), (11, true), (12, true), (13, true), (14, true), (15, true), (16, true), (17, true), (18, true), (19, true), (20, true), (21, true), (22, true), (23, true), (24, true), (25, true), (26, true), (27, true), (28, true), (29, true), (30, true), (31, true), (32, false), (33, true), (34, true), (35, true), (36, true), (37, true), (38, true), (39, false)] (by kernel_rfl) (by kernel_rfl) ?_
          (repeat (first | (refine Plan.plan_read (v := ?_) rfl rfl ?_ ?_; rotate_left; (focus ((intro wS hSw; have hkS := (bcell hSw).1; try (have hkT := fun (b o : Nat) (h : b < w.heap.size) => hkS b o (by first | omega | (simp; omega) | (simp; done))); go_simp); try with_reducible rfl)); simp only [Act.put, List.setIfInBounds_toArray, List.set_cons_zero, List.set_cons_succ]) | (refine Plan.plan_skip rfl rfl ?_; simp only [Act.put, List.setIfInBounds_toArray, List.set_cons_zero, List.set_cons_succ])))
          refine Plan.plan_write rfl (fun K hK => ?_)
          go_simp
          go_at_call 59
          (with_reducible refine (KS.out _ _ _ _).mono ?_)
          rintro e4 w4 ⟨q1, q2, q3, rfl, rfl⟩
          try go_simp
          refine hK.out _ _ ((Below.refl _ _).drew) ?_
          clear hK K
          try simp only [Act.put, List.setIfInBounds_toArray, List.set_cons_zero, List.set_cons_succ]
          (repeat (first | (refine Plan.plan_read (v := ?_) rfl rfl ?_ ?_; rotate_left; (focus ((intro wS hSw; have hkS := (bcell hSw).1; try (have hkT := fun (b o : Nat) (h : b < w.heap.size) => hkS b o (by first | omega | (simp; omega) | (simp; done))); go_simp); try with_reducible rfl)); simp only [Act.put, List.setIfInBounds_toArray, List.set_cons_zero, List.set_cons_succ]) | (refine Plan.plan_skip rfl rfl ?_; simp only [Act.put, List.setIfInBounds_toArray, List.set_cons_zero, List.set_cons_succ])))
          refine Plan.plan_last rfl (fun K hK => ?_)
          go_simp
          refine hK.out _ _ ?_
          clear hK K
          try simp only [Act.put, List.setIfInBounds_toArray, List.set_cons_zero, List.set_cons_succ]
          go_wp2_with fail
          go_ret2
          exact ⟨_, _, rfl, hBr.drew⟩
        · have g2 : decide (z ≤ x) = false := decide_eq_false g1
          go_wp2_with fail
          go_roundw
          case rel => exact ⟨i + 1, by omega, by omega, by go_num, hBr⟩
          case measure => simp [intOf]; omega
      · obtain rfl : len = i := by omega
        obtain ⟨b, off, p, ec, hb, _, c0, c1⟩ := Pt.at_ (HC.out.below hBr) (show l < len by have := Hll.out; omega)
        (injection ec with ec; injection ec with eb eo; subst eb eo)
        have hq1 : IntKind.i64.wrap ((len : Int) - 1) = (l : Int) := by rw [IntKind.wrap_i64]; have := Hll.out; omega
        have hq2 : (len : Int) - 1 = (l : Int) := by have := Hll.out; omega
        have hq3 : IntKind.i64.wrap (l : Int) = (l : Int) := by rw [IntKind.wrap_i64]; have := Hll.out; omega
        have hkl : l < len := by have := Hll.out; omega
        go_wp2_with fail
        go_ret2
        exact ⟨_, _, rfl, hBr⟩
set_option maxRecDepth 100000 in
set_option maxHeartbeats 8000000 in
theorem steepest_any (C : Option Addr) (len c : Nat) (w : World) (hC : Sl w w.heap.size 128 2 C len) : Calls Try.prog 51 #[.slice C len c] w (SomeI w) := by
  have hl := hC.1
  have HC := Lib.hid hC
  have KS := Lib.hid (fun n d wx => slope_any n d wx)
  clear hC
  go_enter Try.func51, Try.ntmps51
  go_wp2_with fail
  go_loopw [3, 4] (fun sv iv wr => ∃ (s : Int) (i : Nat), 1 ≤ i ∧ iv = .int .i64 i ∧ sv = .int .i64 s ∧ i ≤ max 1 len ∧ Below w.heap.size w wr) (fun _ iv _ => len - (intOf iv).toNat)
  case atStart => exact ⟨0, 1, Nat.le_refl _, rfl, rfl, by omega, Below.refl _ _⟩
  case round =>
    obtain ⟨s, i, hi1, rfl, rfl, hi, hBr⟩ := hrel
    have hz := hBr.size
    by_cases hlt : i < len
    · skip
      obtain ⟨k, hk⟩ : ∃ k, i = k + 1 := ⟨i - 1, by omega⟩
      obtain ⟨b, off, p, q, ec, hb, d0, d1, c0, c1⟩ := two_at (HC.out.below hBr) (show k + 1 < len by omega)
      subst ec
      rw [← hk] at c0 c1
      have hbw : b < wr.heap.size := by omega
      have hq1 : IntKind.i64.wrap ((i : Int) - 1) = (k : Int) := by rw [IntKind.wrap_i64]; omega
      have hq2 : (i : Int) - 1 = (k : Int) := by omega
      have hq3 : IntKind.i64.wrap (k : Int) = (k : Int) := by rw [IntKind.wrap_i64]; omega
      have hkl : k < len := by omega
      obtain ⟨x, hx⟩ : ∃ x, q.x = x := ⟨_, rfl⟩
      obtain ⟨y, hy⟩ : ∃ y, q.y = y := ⟨_, rfl⟩
      obtain ⟨u, hu⟩ : ∃ x, p.x = x := ⟨_, rfl⟩
      obtain ⟨v, hv⟩ : ∃ y, p.y = y := ⟨_, rfl⟩
      rw [hx] at c0
      rw [hy] at c1
      rw [hu] at d0
      rw [hv] at d1
      clear hx hy hu hv hk
      go_wp2_with fail
      refine Plan.wp_region_below 27 [(0, true), (1, true), (2, true), (3, true), (4, true), (5, true), (6, true), (7, true), (8, true), (9, true), (10, true), (11, true), (12, true), (13, true), (14, true), (15, true), (16, true), (17, true), (18, true), (19, true), (20, true), (21, true), (22, true), (23, true), (24, true), (25, false), (26, true), (27, false)] (by kernel_rfl) (by kernel_rfl) ?_
      (repeat (first | (refine Plan.plan_read (v := ?_) rfl rfl ?_ ?_; rotate_left; (focus ((intro wS hSw; have hkS := (bcell hSw).1; try (have hkT := fun (b o : Nat) (h : b < w.heap.size) => hkS b o (by first | omega | (simp; omega) | (simp; done))); go_simp); try with_reducible rfl)); simp only [Act.put, List.setIfInBounds_toArray, List.set_cons_zero, List.set_cons_succ]) | (refine Plan.plan_skip rfl rfl ?_; simp only [Act.put, List.setIfInBounds_toArray, List.set_cons_zero, List.set_cons_succ])))
      refine Plan.plan_write rfl (fun K hK => ?_)
      go_simp
      go_at_call 50
      (with_reducible refine (KS.out _ _ _).mono ?_)
      rintro e4 w4 ⟨q1, rfl, rfl⟩
      try go_simp
      refine hK.out _ _ ((Below.refl _ _).drew) ?_
      clear hK K
      try simp only [Act.put, List.setIfInBounds_toArray, List.set_cons_zero, List.set_cons_succ]
      (repeat (first | (refine Plan.plan_read (v := ?_) rfl rfl ?_ ?_; rotate_left; (focus ((intro wS hSw; have hkS := (bcell hSw).1; try (have hkT := fun (b o : Nat) (h : b < w.heap.size) => hkS b o (by first | omega | (simp; omega) | (simp; done))); go_simp); try with_reducible rfl)); simp only [Act.put, List.setIfInBounds_toArray, List.set_cons_zero, List.set_cons_succ]) | (refine Plan.plan_skip rfl rfl ?_; simp only [Act.put, List.setIfInBounds_toArray, List.set_cons_zero, List.set_cons_succ])))
      refine Plan.plan_last rfl (fun K hK => ?_)
      go_simp
      refine hK.out _ _ ?_
      clear hK K
      try simp only [Act.put, List.setIfInBounds_toArray, List.set_cons_zero, List.set_cons_succ]
      go_wp2_with fail
      go_roundw
      case rel => exact ⟨_, i + 1, by omega, by go_num, rfl, by omega, hBr.drew⟩
      case measure => simp [intOf]; omega
    · have hge : ¬ ((i : Int) < (len : Int)) := by omega
      go_wp2_with fail
      go_ret
      exact ⟨_, rfl, hBr⟩
set_option maxRecDepth 100000 in
set_option maxHeartbeats 8000000 in
theorem under_any (C : Option Addr) (len c : Nat) (E : Option Addr) (m e : Nat) (w : World) (hC : Sl w w.heap.size 128 2 C len) (hE : Sl w w.heap.size 128 2 E m) : Calls Try.prog 61 #[.slice C len c, .slice E m e] w (SomeB w) := by
  have hl := hC.1
  have hm := hE.1
  have HC := Lib.hid hC
  have HE := Lib.hid hE
  have KA := Lib.hid (fun wx (h : Below w.heap.size w wx) => right10_any C len c wx (hC.up h))
  have KB := Lib.hid (fun wx (h : Below w.heap.size w wx) => right10_any E m e wx (hE.up h))
  have KV := Lib.hid (fun (h0 : 1 ≤ len) x wx (h : Below w.heap.size w wx) => value_any C len c x wx (hC.up h) h0)
  have KW := Lib.hid (fun (h0 : 1 ≤ m) x wx (h : Below w.heap.size w wx) => value_any E m e x wx (hE.up h) h0)
  clear hC hE
  go_enter Try.func61, Try.ntmps61
  go_wp2_with fail
  go_at_call 46
  (with_reducible refine (KA.out w (Below.refl _ _)).mono ?_)
  rintro e1 w1 ⟨b, rfl, hb1, h1⟩
  cases b
  · go_wp2_with fail
    go_ret
    exact ⟨false, rfl, hb1⟩
  · have l1 := (h1 rfl).1
    clear h1
    go_wp2_with fail
    go_at_call 46
    (with_reducible refine (KB.out w1 hb1).mono ?_)
    rintro e2 w2 ⟨b, rfl, hb2, h2⟩
    have hB2 := hb1.trans (hb2.mono hb1.size)
    cases b
    · go_wp2_with fail
      go_ret
      exact ⟨false, rfl, hB2⟩
    · have l2 := (h2 rfl).1
      clear h2 hb1 hb2
      go_wp2_with fail
      go_loopw [5] (fun iv wr => ∃ i : Nat, i ≤ len ∧ iv = .int .i64 i ∧ Below w.heap.size w wr) (fun iv _ => len - (intOf iv).toNat)
      case atStart => exact ⟨0, Nat.zero_le _, rfl, hB2⟩
      case round =>
        clear hB2
        obtain ⟨i, hi, rfl, hBr⟩ := hrel
        have hz := hBr.size
        by_cases hlt : i < len
        · obtain ⟨b, off, p, ec, hb, _, c0, c1⟩ := Pt.at_ (HC.out.below hBr) hlt
          subst ec
          have hbw : b < wr.heap.size := by omega
          go_wp2_with fail
          go_at_call 63
          (with_reducible refine (KW.out l2 _ wr hBr).mono ?_)
          rintro e3 w3 ⟨n, bb, rfl, hb3⟩
          have c1' := (hb3.cell (p := ⟨b, off + i * 2 + 1, none⟩) hbw).trans c1
          have hB3 := hBr.trans (hb3.mono hz)
          clear c0 c1
          by_cases g1 : n < p.y
          · have g2 : decide (n < p.y) = true := decide_eq_true g1
            go_wp2_with fail
            go_ret
            exact ⟨false, rfl, hB3⟩
          · have g2 : decide (n < p.y) = false := decide_eq_false g1
            go_wp2_with fail
            go_roundw
            case rel => exact ⟨i + 1, by omega, by go_num, hB3⟩
            case measure => simp [intOf]; omega
        · obtain rfl : len = i := by omega
          go_wp2_with fail
          go_loopw [8] (fun iv wr => ∃ i : Nat, i ≤ m ∧ iv = .int .i64 i ∧ Below w.heap.size w wr) (fun iv _ => m - (intOf iv).toNat)
          case atStart => exact ⟨0, Nat.zero_le _, rfl, hBr⟩
          case round =>
            clear hBr hz hlt
            obtain ⟨i, hi, rfl, hBr⟩ := hrel
            have hz := hBr.size
            by_cases hlt : i < m
            · obtain ⟨b, off, p, ec, hb, _, c0, c1⟩ := Pt.at_ (HE.out.below hBr) hlt
              subst ec
              have hbw : b < wr.heap.size := by omega
              go_wp2_with fail
              go_at_call 63
              (with_reducible refine (KV.out l1 _ wr hBr).mono ?_)
              rintro e3 w3 ⟨n, bb, rfl, hb3⟩
              have c1' := (hb3.cell (p := ⟨b, off + i * 2 + 1, none⟩) hbw).trans c1
              have hB3 := hBr.trans (hb3.mono hz)
              clear c0 c1
              obtain ⟨y, hy⟩ : ∃ y, p.y = y := ⟨_, rfl⟩
              rw [hy] at c1'
              clear hy
              by_cases g1 : y < n
              · have g2 : decide (y < n) = true := decide_eq_true g1
                go_wp2_with fail
                go_ret
                exact ⟨false, rfl, hB3⟩
              · have g2 : decide (y < n) = false := decide_eq_false g1
                by_cases g3 : n = y
                · subst g3
                  cases bb
                  · go_wp2_with fail
                    go_roundw
                    case rel => exact ⟨i + 1, by omega, by go_num, hB3⟩
                    case measure => simp [intOf]; omega
                  · go_wp2_with fail
                    go_ret
                    exact ⟨false, rfl, hB3⟩
                · have g4 : (n == y) = false := by simpa using g3
                  go_wp2_with fail
                  go_roundw
                  case rel => exact ⟨i + 1, by omega, by go_num, hB3⟩
                  case measure => simp [intOf]; omega
            · obtain rfl : m = i := by omega
              go_wp2_with fail
              go_ret
              exact ⟨true, rfl, hBr⟩
end Go.Proofs.Ythoigjkelinjhaa.RT
