/- The walk of Ways. -/
import Derived.Test.YtphebdmdbnpokaaR5
set_option linter.unusedSimpArgs false
set_option linter.unusedVariables false
namespace Go.Proofs.Ytphebdmdbnpokaa
open Go.RowKit RD
attribute [local go_sem] alloc_drewN setCell_drewN shape_drewN
def WaysIs (X : Bs) (L : List Vl) (town : Int) (w : World) (e : Ending) (w' : World) : Prop := ∃ l ok C c, WayR X.N X.l3 X.T.length (vsOf L) X.R town l ok ∧ e = .returned (.tuple #[.slice C l.length c, .bool ok]) ∧ IntsAt w' w'.heap.size C (intsOf l) ∧ Below w.heap.size w w'
theorem WaysIs.no {X : Bs} {L : List Vl} {town : Int} {w w' : World} (h : town < 0 ∨ (X.T.length : Int) ≤ town ∨ best (arr X.N X.l3 (vsOf L) X.R town.toNat) X.T.length (X.N - X.T.length) = -1) (hb : Below w.heap.size w w') : WaysIs X L town w (.returned (.tuple #[.slice none 0 0, .bool false])) w' :=
  ⟨[], false, none, 0, .inl ⟨rfl, rfl, h⟩, rfl, fun h => absurd h (Nat.lt_irrefl 0), hb⟩
set_option maxRecDepth 100000 in
set_option maxHeartbeats 4000000 in
theorem ways_no (X : Bs) (C : Option Addr) (c : Nat) (L : List Vl) (town : Int) (w : World) (hT : X.T.length ≤ 50) (ht : town < 0 ∨ (X.T.length : Int) ≤ town) :
    Calls Try.prog 9 #[.agg #[.string X.nm, .slice X.a1 X.l1 X.c1, .int .i64 X.cl, .slice X.a3 X.l3 X.c3, .slice X.a4 X.l4 X.c4, .slice X.a5 X.T.length X.c5, .slice X.a6 X.l6 X.c6, .slice X.a7 X.R.length X.c7, .slice X.a8 X.S.length X.c8, .slice X.a9 X.l9 X.c9, .int .i64 X.er], .int .i64 town, .slice C L.length c] w (WaysIs X L town w) := by
  have hb := ((Below.refl w.heap.size w).alloc (Nat.le_refl _) (.cells #[.string X.nm, .slice X.a1 X.l1 X.c1, .int .i64 X.cl, .slice X.a3 X.l3 X.c3, .slice X.a4 X.l4 X.c4, .slice X.a5 X.T.length X.c5, .slice X.a6 X.l6 X.c6, .slice X.a7 X.R.length X.c7, .slice X.a8 X.S.length X.c8, .slice X.a9 X.l9 X.c9, .int .i64 X.er] 31)).alloc (by simp) (.cells #[.slice C L.length c] 32)
  rcases ht with ht | ht
  · go_enter Try.func9, Try.ntmps9
    go_wp2_with fail
    go_ret2
    exact .no (.inl ht) hb
  · obtain ⟨k, rfl⟩ := Int.eq_ofNat_of_zero_le (show 0 ≤ town by omega)
    have ht2 : X.T.length ≤ k := by omega
    have Ht := Lib.hid ht
    clear ht
    go_enter Try.func9, Try.ntmps9
    go_wp2_with fail
    go_ret2
    exact .no (.inr (.inl Ht.out)) hb
set_option maxRecDepth 100000 in
set_option maxHeartbeats 16000000 in
theorem ways_yes (X : Bs) (C : Option Addr) (c : Nat) (L : List Vl) (town : Nat) (w : World) (hX : BsAt w w.heap.size X) (hV : VlsAt w w.heap.size C L) (hT : X.T.length ≤ 50) (hSl : X.S.length ≤ 50) (hR : X.R.length ≤ 100) (hL : L.length ≤ 1000) (hP : X.l3 ≤ 9223372036854775807) (ht : town < X.T.length) :
    Calls Try.prog 9 #[.agg #[.string X.nm, .slice X.a1 X.l1 X.c1, .int .i64 X.cl, .slice X.a3 X.l3 X.c3, .slice X.a4 X.l4 X.c4, .slice X.a5 X.T.length X.c5, .slice X.a6 X.l6 X.c6, .slice X.a7 X.R.length X.c7, .slice X.a8 X.S.length X.c8, .slice X.a9 X.l9 X.c9, .int .i64 X.er], .int .i64 town, .slice C L.length c] w (WaysIs X L town w) := by
  obtain ⟨i1, gi, gz0, gz1, gz2⟩ := info_parts infoInt
  obtain ⟨N, hN⟩ : ∃ N, N = X.N := ⟨_, rfl⟩
  have hNs : N = X.T.length + X.S.length := hN
  have hNb : N ≤ 100 := by omega
  have htN : town < N := by omega
  have K1 := Lib.hid (fun (wx : World) (h : Below w.heap.size w wx) => arrivals_any X C c L town wx ((hX.below h).more h.size) ((hV.below h).more h.size) hT hSl hR hL hP ht)
  unfold ArrivIs at K1
  rw [← hN] at K1
  obtain ⟨A, hA⟩ : ∃ A, A = arr N X.l3 (vsOf L) X.R town := ⟨_, rfl⟩
  rw [← hA] at K1
  have mk2 := fun wx => run_make1 (P := Try.prog) 29 3 i1 (.int .i64 0) Try.underlying29 gi gz0 gz1 rfl N N (Nat.le_refl _) (by rw [gz2]; omega) (by omega) wx
  have hAb : ∀ v, A v ≤ 100000 := fun v => by
    have := arr_bound (P := X.l3) (VS := vsOf L) (R := X.R) htN v
    rw [← hA, vsOf_len] at this; omega
  have hbl : BsLen X := ⟨by omega, by omega, by omega, hP⟩
  have HAb := Lib.hid hAb
  have HX := Lib.hid hX
  have HV := Lib.hid hV
  have HNN := Lib.hid hN
  have HA := Lib.hid hA
  have Hbl := Lib.hid hbl
  have HPl := Lib.hid hP
  have HNs := Lib.hid hNs
  have hTN : X.T.length ≤ N := by omega
  clear hNs hX hV hN hA hAb hbl hP
  have hB0 := ((Below.refl w.heap.size w).alloc (Nat.le_refl _) (.cells #[.string X.nm, .slice X.a1 X.l1 X.c1, .int .i64 X.cl, .slice X.a3 X.l3 X.c3, .slice X.a4 X.l4 X.c4, .slice X.a5 X.T.length X.c5, .slice X.a6 X.l6 X.c6, .slice X.a7 X.R.length X.c7, .slice X.a8 X.S.length X.c8, .slice X.a9 X.l9 X.c9, .int .i64 X.er] 31)).alloc (by simp) (.cells #[.slice C L.length c] 32)
  have hX0 : Box ((w.alloc (.cells #[.string X.nm, .slice X.a1 X.l1 X.c1, .int .i64 X.cl, .slice X.a3 X.l3 X.c3, .slice X.a4 X.l4 X.c4, .slice X.a5 X.T.length X.c5, .slice X.a6 X.l6 X.c6, .slice X.a7 X.R.length X.c7, .slice X.a8 X.S.length X.c8, .slice X.a9 X.l9 X.c9, .int .i64 X.er] 31)).alloc (.cells #[.slice C L.length c] 32)) w.heap.size #[.string X.nm, .slice X.a1 X.l1 X.c1, .int .i64 X.cl, .slice X.a3 X.l3 X.c3, .slice X.a4 X.l4 X.c4, .slice X.a5 X.T.length X.c5, .slice X.a6 X.l6 X.c6, .slice X.a7 X.R.length X.c7, .slice X.a8 X.S.length X.c8, .slice X.a9 X.l9 X.c9, .int .i64 X.er] 31 := (Box.new w _ _).keep (Below.heap_alloc _ _ _ (by simp))
  have hV0 : Box ((w.alloc (.cells #[.string X.nm, .slice X.a1 X.l1 X.c1, .int .i64 X.cl, .slice X.a3 X.l3 X.c3, .slice X.a4 X.l4 X.c4, .slice X.a5 X.T.length X.c5, .slice X.a6 X.l6 X.c6, .slice X.a7 X.R.length X.c7, .slice X.a8 X.S.length X.c8, .slice X.a9 X.l9 X.c9, .int .i64 X.er] 31)).alloc (.cells #[.slice C L.length c] 32)) (w.heap.size + 1) #[.slice C L.length c] 32 := by
    have := Box.new (w.alloc (.cells #[.string X.nm, .slice X.a1 X.l1 X.c1, .int .i64 X.cl, .slice X.a3 X.l3 X.c3, .slice X.a4 X.l4 X.c4, .slice X.a5 X.T.length X.c5, .slice X.a6 X.l6 X.c6, .slice X.a7 X.R.length X.c7, .slice X.a8 X.S.length X.c8, .slice X.a9 X.l9 X.c9, .int .i64 X.er] 31)) #[.slice C L.length c] 32
    simpa using this
  obtain ⟨x0, x1, x2, x3, x4, x5, x6, x7, x8, x9, x10⟩ := hX0.bas
  replace hX0 := Lib.hid hX0
  replace hV0 := Lib.hid hV0
  go_enter Try.func9, Try.ntmps9
  go_wp2_with (first | (go_at_call 20; (with_reducible refine (K1.out _ hB0).mono ?_); rintro e1 w1 ⟨M, rfl, hAr, hMl, hMz, hb1⟩; have hX1 := hX0.out.below hb1 (by simp <;> omega); obtain ⟨y0, y1, y2, y3, y4, y5, y6, y7, y8, y9, y10⟩ := hX1.bas; have hz1 := hX1.lt; replace hX1 := Lib.hid hX1; replace hAr := Lib.hid hAr; replace hb1 := Lib.hid hb1) | fail)
  obtain ⟨w2, hw2⟩ : ∃ x, x = w1.alloc (.cells #[.slice (some ⟨M, 0, none⟩) N N] 29) := ⟨_, rfl⟩
  rw [← hw2]
  obtain ⟨b8, hb8⟩ : ∃ x, x = w1.heap.size := ⟨_, rfl⟩
  have hb12 : Below w1.heap.size w1 w2 := by rw [hw2]; exact (Below.refl _ _).alloc (Nat.le_refl _) _
  have hE8 : Box w2 b8 #[.slice (some ⟨M, 0, none⟩) N N] 29 := by rw [hw2, hb8]; exact Box.new _ _ _
  have hX2 := hX1.out.below hb12 hz1
  have hV2 := (hV0.out.below hb1.out (by simp <;> omega)).below hb12 (by have := hb1.out.size; simp at this; omega)
  have hA2 : ∀ v, v < N → w2.cell? ⟨M, v, none⟩ = some (.int .i64 (A v)) := fun v hv => (hb12.cell (p := ⟨M, v, none⟩) hMz).trans (hAr.out v hv)
  have hz8 := hE8.lt
  have hMz2 : M < w2.heap.size := by omega
  have hB2 : Below w.heap.size w w2 := (hB0.trans (hb1.out.mono (by simp <;> omega))).trans (hb12.mono (by omega))
  have hMw : w.heap.size + 1 < M := by simp at hMl; omega
  rw [← hb8]
  clear y0 y1 y2 y3 y4 y5 y6 y7 y8 y9 y10 x0 x1 x2 x3 x4 x5 x6 x7 x8 x9 x10 hw2 hb12 hB0 hX0 hV0 hX1 hAr hb1 hz1 hMl hMz hb8
  have HX2 := Lib.hid hX2
  have HV2 := Lib.hid hV2
  have HE8 := Lib.hid hE8
  have HA2 := Lib.hid hA2
  clear hX2 hV2 hE8 hA2
  go_loopw [9, 10] (fun bv kv wr => ∃ k, k ≤ X.S.length ∧ kv = .int .i64 ((X.T.length + k : Nat) : Int) ∧ bv = .int .i64 (best A X.T.length k) ∧ Below w2.heap.size w2 wr) (fun _ kv _ => N - (intOf kv).toNat)
  case atStart => exact ⟨0, Nat.zero_le _, rfl, rfl, Below.refl _ _⟩
  case round =>
    obtain ⟨k, hk, rfl, rfl, hBr⟩ := hrel
    obtain ⟨n, hn⟩ : ∃ n, n = X.T.length + k := ⟨_, rfl⟩
    rw [← hn]
    have hzr := hBr.size
    have e8 : wr.cell? ⟨b8, 0, none⟩ = some (.slice (some ⟨M, 0, none⟩) N N) := (HE8.out.below hBr hz8).cell rfl
    have z8 : b8 < wr.heap.size := by omega
    have zM : M < wr.heap.size := by omega
    have hcs := best_cases A X.T.length k
    by_cases hlt : k < X.S.length
    · have hnN : n < N := by have := HNs.out; omega
      have a1 : wr.cell? ⟨M, n, none⟩ = some (.int .i64 (A n)) := (hBr.cell (p := ⟨M, n, none⟩) hMz2).trans (HA2.out n hnN)
      obtain ⟨a, ha⟩ : ∃ a, a = A n := ⟨_, rfl⟩
      obtain ⟨bb, hbb⟩ : ∃ b, b = best A X.T.length k := ⟨_, rfl⟩
      have hstep : best A X.T.length (k + 1) = if 0 ≤ a ∧ (bb < 0 ∨ a < A bb.toNat) then (n : Int) else bb := by rw [ha, hbb, hn]; rfl
      rw [← ha] at a1
      rw [← hbb] at hcs ⊢
      have Hstep := Lib.hid hstep
      have Hn := Lib.hid hn
      clear ha hbb hstep hn
      by_cases ha0 : 0 ≤ a
      · have d1 : decide (0 ≤ a) = true := decide_eq_true ha0
        by_cases hb0 : bb < 0
        · have d2 : decide (bb < 0) = true := decide_eq_true hb0
          clear hcs
          go_wp2_with fail
          refine Plan.wp_region_below 19 [(0, true), (1, true), (2, true), (3, true), (4, true), (5, true), (6, true), (7, true), (8, true), (9, true), (10, true), (11, true), (12, true), (13, true), (14, true), (15, true), (16, true), (17, true), (18, true), (19, false)] (by kernel_rfl) (by kernel_rfl) ?_
          (repeat (first | (refine Plan.plan_read (v := ?_) rfl rfl ?_ ?_; rotate_left; (focus ((intro wS hSw; have hkS := (bcell hSw).1; try (have hkT := fun (b o : Nat) (h : b < w.heap.size) => hkS b o (by first | omega | (simp; omega) | (simp; done))); go_simp); try with_reducible rfl)); simp only [Act.put, List.setIfInBounds_toArray, List.set_cons_zero, List.set_cons_succ]) | (refine Plan.plan_skip rfl rfl ?_; simp only [Act.put, List.setIfInBounds_toArray, List.set_cons_zero, List.set_cons_succ])))
          refine Plan.plan_last rfl (fun K hK => ?_)
          go_simp
          refine hK.out _ _ ?_
          clear hK K
          try simp only [Act.put, List.setIfInBounds_toArray, List.set_cons_zero, List.set_cons_succ]
          go_wp2_with fail
          go_roundw
          case rel => exact ⟨k + 1, by omega, congrArg (Value.int .i64) (by have := Hn.out; omega), by rw [Hstep.out, if_pos ⟨ha0, .inl hb0⟩], hBr.drew⟩
          case measure => simp [intOf]; omega
        · have d2 : decide (bb < 0) = false := decide_eq_false hb0
          rcases hcs with ⟨e, _⟩ | ⟨q, rfl, q1, q2, q3, _⟩
          · omega
          have hqN : q < N := by have := HNs.out; omega
          have a2 : wr.cell? ⟨M, q, none⟩ = some (.int .i64 (A q)) := (hBr.cell (p := ⟨M, q, none⟩) hMz2).trans (HA2.out q hqN)
          rw [Int.toNat_natCast] at Hstep
          obtain ⟨y, hy⟩ : ∃ y, y = A q := ⟨_, rfl⟩
          rw [← hy] at a2 Hstep
          clear hy q3
          by_cases hay : a < y
          · have d3 : decide (a < y) = true := decide_eq_true hay
            go_wp2_with fail
            refine Plan.wp_region_below 19 [(0, true), (1, true), (2, true), (3, true), (4, true), (5, true), (6, true), (7, true), (8, true), (9, true), (10, true), (11, true), (12, true), (13, true), (14, true), (15, true), (16, true), (17, true), (18, true), (19, false)] (by kernel_rfl) (by kernel_rfl) ?_
            (repeat (first | (refine Plan.plan_read (v := ?_) rfl rfl ?_ ?_; rotate_left; (focus ((intro wS hSw; have hkS := (bcell hSw).1; try (have hkT := fun (b o : Nat) (h : b < w.heap.size) => hkS b o (by first | omega | (simp; omega) | (simp; done))); go_simp); try with_reducible rfl)); simp only [Act.put, List.setIfInBounds_toArray, List.set_cons_zero, List.set_cons_succ]) | (refine Plan.plan_skip rfl rfl ?_; simp only [Act.put, List.setIfInBounds_toArray, List.set_cons_zero, List.set_cons_succ])))
            refine Plan.plan_last rfl (fun K hK => ?_)
            go_simp
            refine hK.out _ _ ?_
            clear hK K
            try simp only [Act.put, List.setIfInBounds_toArray, List.set_cons_zero, List.set_cons_succ]
            go_wp2_with fail
            go_roundw
            case rel => exact ⟨k + 1, by omega, congrArg (Value.int .i64) (by have := Hn.out; omega), by rw [Hstep.out, if_pos ⟨ha0, .inr hay⟩], hBr.drew⟩
            case measure => simp [intOf]; omega
          · have d3 : decide (a < y) = false := decide_eq_false hay
            go_wp2_with fail
            refine Plan.wp_region_below 19 [(0, true), (1, true), (2, true), (3, true), (4, true), (5, true), (6, true), (7, true), (8, true), (9, true), (10, true), (11, true), (12, true), (13, true), (14, true), (15, true), (16, true), (17, true), (18, true), (19, false)] (by kernel_rfl) (by kernel_rfl) ?_
            (repeat (first | (refine Plan.plan_read (v := ?_) rfl rfl ?_ ?_; rotate_left; (focus ((intro wS hSw; have hkS := (bcell hSw).1; try (have hkT := fun (b o : Nat) (h : b < w.heap.size) => hkS b o (by first | omega | (simp; omega) | (simp; done))); go_simp); try with_reducible rfl)); simp only [Act.put, List.setIfInBounds_toArray, List.set_cons_zero, List.set_cons_succ]) | (refine Plan.plan_skip rfl rfl ?_; simp only [Act.put, List.setIfInBounds_toArray, List.set_cons_zero, List.set_cons_succ])))
            refine Plan.plan_last rfl (fun K hK => ?_)
            go_simp
            refine hK.out _ _ ?_
            clear hK K
            try simp only [Act.put, List.setIfInBounds_toArray, List.set_cons_zero, List.set_cons_succ]
            go_wp2_with fail
            go_roundw
            case rel => exact ⟨k + 1, by omega, congrArg (Value.int .i64) (by have := Hn.out; omega), by rw [Hstep.out, if_neg (fun h => by omega)], hBr.drew⟩
            case measure => simp [intOf]; omega
      · have d1 : decide (0 ≤ a) = false := decide_eq_false ha0
        clear hcs
        go_wp2_with fail
        refine Plan.wp_region_below 19 [(0, true), (1, true), (2, true), (3, true), (4, true), (5, true), (6, true), (7, true), (8, true), (9, true), (10, true), (11, true), (12, true), (13, true), (14, true), (15, true), (16, true), (17, true), (18, true), (19, false)] (by kernel_rfl) (by kernel_rfl) ?_
        (repeat (first | (refine Plan.plan_read (v := ?_) rfl rfl ?_ ?_; rotate_left; (focus ((intro wS hSw; have hkS := (bcell hSw).1; try (have hkT := fun (b o : Nat) (h : b < w.heap.size) => hkS b o (by first | omega | (simp; omega) | (simp; done))); go_simp); try with_reducible rfl)); simp only [Act.put, List.setIfInBounds_toArray, List.set_cons_zero, List.set_cons_succ]) | (refine Plan.plan_skip rfl rfl ?_; simp only [Act.put, List.setIfInBounds_toArray, List.set_cons_zero, List.set_cons_succ])))
        refine Plan.plan_last rfl (fun K hK => ?_)
        go_simp
        refine hK.out _ _ ?_
        clear hK K
        try simp only [Act.put, List.setIfInBounds_toArray, List.set_cons_zero, List.set_cons_succ]
        go_wp2_with fail
        go_roundw
        case rel => exact ⟨k + 1, by omega, congrArg (Value.int .i64) (by have := Hn.out; omega), by rw [Hstep.out, if_neg (fun h => by omega)], hBr.drew⟩
        case measure => simp [intOf]; omega
    · obtain rfl : k = X.S.length := by omega
      have hnN : n = N := by have := HNs.out; omega
      have hN2 : X.N - X.T.length = X.S.length := by have : X.N = X.T.length + X.S.length := rfl; omega
      rcases hcs with ⟨e, _⟩ | ⟨q, e, q1, q2, q3, _⟩
      · rw [e]
        obtain rfl : N = n := hnN.symm
        go_wp2_with fail
        go_ret2
        exact .no (.inr (.inr (by rw [hN2, ← HNN.out, Int.toNat_natCast, ← HA.out]; exact e))) (hB2.trans (hBr.mono (by omega)))
      · have He := Lib.hid e
        rw [e]
        obtain rfl : N = n := hnN.symm
        clear hn e
        obtain ⟨w3, hw3⟩ : ∃ x, x = wr := ⟨_, rfl⟩
        rw [← hw3] at hBr hzr e8 z8 zM ⊢
        have hX3 := HX2.out.below hBr (by have := hB2.size; omega)
        obtain ⟨y0, y1, y2, y3, y4, y5, y6, y7, y8, y9, y10⟩ := hX3.bas
        have hz3 := hX3.lt
        clear hw3
        replace hX3 := Lib.hid hX3
        go_wp2_with fail
        obtain ⟨G, hG⟩ : ∃ x, x = w3.heap.size := ⟨_, rfl⟩
        rw [← hG]
        have hA0 : Arr (w3.alloc (.cells (zeros (.int .i64 0) N) 3)) G N (fun j => .int .i64 0) := by rw [hG]; exact Arr.made w3 (.int .i64 0) N 3
        have hBG : Below G w3 (w3.alloc (.cells (zeros (.int .i64 0) N) 3)) := by rw [hG]; exact (Below.refl _ _).alloc (Nat.le_refl _) _
        have hz1 : G < (w3.alloc (.cells (zeros (.int .i64 0) N) 3)).heap.size := by rw [hG]; simp
        have HG := Lib.hid hG
        have hGz : w2.heap.size ≤ G := by omega
        clear hG mk2 y0 y1 y2 y3 y4 y5 y6 y7 y8 y9 y10 e8
        replace hA0 := Lib.hid hA0
        go_loopw [69] (fun kv wr => ∃ k, k ≤ N ∧ kv = .int .i64 (k : Nat) ∧ Arr wr G N (fun j => .int .i64 (if j < k then -1 else 0)) ∧ Below G w3 wr ∧ G < wr.heap.size) (fun kv _ => N - (intOf kv).toNat)
        case atStart => exact ⟨0, Nat.zero_le _, rfl, hA0.out, hBG, hz1⟩
        case round =>
          clear hA0 hBG hz1
          obtain ⟨k, hk, rfl, hAr, hB, hz⟩ := hrel
          by_cases hlt : k < N
          · obtain ⟨a1, a2⟩ := hAr k hlt
            have HAr := Lib.hid hAr
            clear hAr
            go_wp2_with fail
            go_roundw
            case rel => exact ⟨k + 1, by omega, by go_num, (HAr.out.set hlt (.int .i64 (-1))).congr fun j hj => by
              unfold updF
              by_cases e : j = k
              · rw [if_pos e, if_pos (by omega)]
              · rw [if_neg e]; show Value.int _ _ = Value.int _ _; by_cases e2 : j < k
                · rw [if_pos e2, if_pos (by omega)]
                · rw [if_neg e2, if_neg (by omega)], hB.setCell (p := ⟨G, k, none⟩) (Nat.le_refl _) _, by simpa using hz⟩
            case measure => simp [intOf]; omega
          · obtain rfl : N = k := by omega
            have hA2 : Arr wr G N (fun j => .int .i64 (bef N X.l3 (vsOf L) A (X.R.take 0) j)) := hAr.congr fun j hj => by
              show Value.int _ _ = Value.int _ _
              rw [if_pos hj]; rfl
            obtain ⟨w5, hw5⟩ : ∃ x, x = wr := ⟨_, rfl⟩
            rw [← hw5] at hA2 hB hz ⊢
            have hX5 := hX3.out.below hB (by have := HG.out; omega)
            obtain ⟨y0, y1, y2, y3, y4, y5, y6, y7, y8, y9, y10⟩ := hX5.bas
            have hz5 := hX5.lt
            replace hA2 := Lib.hid hA2
            replace hX5 := Lib.hid hX5
            have hXr := HX.out.r
            clear hAr hlt hk hw5
            have K2 := Lib.hid (fun (r : Rd) (wx : World) (h : Below w2.heap.size w2 wx) => leads_any X r C c L A N w.heap.size b8 (w.heap.size + 1) M wx HNN.out (HX2.out.below h (by have := hB2.size; omega)) (HE8.out.below h hz8) (HV2.out.below h HV2.out.lt) (fun v hv => (h.cell (p := ⟨M, v, none⟩) hMz2).trans (HA2.out v hv)) (by have := h.size; omega) HAb.out ((HV.out.below (hB2.trans (h.mono hB2.size))).more (by have := hB2.size; have := h.size; omega)) Hbl.out hL hNb)
            have hB5 : Below w2.heap.size w2 w5 := hBr.trans (hB.mono hGz)
            obtain ⟨a7, ha7⟩ : ∃ a, X.a7 = a := ⟨_, rfl⟩
            rw [ha7] at hXr y7
            have HXr := Lib.hid hXr
            go_wp2_with fail
            rw [ha7]
            clear hXr y0 y1 y2 y3 y4 y5 y6 y7 y8 y9 y10
            have HA7 := Lib.hid ha7
            clear ha7
            go_loopw [79] (fun kv wr => ∃ k, k ≤ X.R.length ∧ kv = .int .i64 (k : Nat) ∧ Arr wr G N (fun j => .int .i64 (bef N X.l3 (vsOf L) A (X.R.take k) j)) ∧ Below G w3 wr ∧ G < wr.heap.size) (fun kv _ => X.R.length - (intOf kv).toNat)
            case atStart => exact ⟨0, Nat.zero_le _, rfl, hA2.out, hB, hz⟩
            case round =>
              clear hA2 hB hz hB5
              obtain ⟨k, hk, rfl, hAr, hB, hz⟩ := hrel
              have hB5 : Below w2.heap.size w2 wr := hBr.trans (hB.mono hGz)
              have hBw : Below w.heap.size w wr := hB2.trans (hB5.mono hB2.size)
              by_cases hlt : k < X.R.length
              · obtain ⟨r, hr⟩ : ∃ r, X.R[k]? = some r := ⟨_, List.getElem?_eq_getElem hlt⟩
                obtain ⟨b1, off1, ec, hb1, c0, c1x, c2, c3, c4, c5, c6⟩ := road_at (RowAt.below HXr.out hBw) hr
                subst ec
                have hb1w : b1 < wr.heap.size := by have := hBw.size; omega
                obtain ⟨p, hp⟩ : ∃ p, leadB N X.l3 (vsOf L) A r = p := ⟨_, rfl⟩
                have K2r := Lib.hid (K2.out r)
                unfold LeadIs at K2r
                rw [hp] at K2r
                have hba : Below w2.heap.size w2 (wr.alloc (.cells (roadC r).toArray 56)) := hB5.alloc hB5.size _
                have Hr := Lib.hid hr
                have hsn : ∀ v, bef N X.l3 (vsOf L) A (X.R.take (k + 1)) v = if p = true ∧ r.to_.toNat = v ∧ bef N X.l3 (vsOf L) A (X.R.take k) v < 0 then r.frm else bef N X.l3 (vsOf L) A (X.R.take k) v := fun v => by
                  rw [take_snoc_at hr, bef_snoc (fun h => (usable_iff.1 h).1), hp]
                have Hsn := Lib.hid hsn
                have Hp := Lib.hid hp
                have HAr := Lib.hid hAr
                clear hr hp hAr hsn
                cases p
                · go_wp2_with (first | (go_at_call 21; (with_reducible refine (K2r.out _ (hB5.alloc hB5.size _)).mono ?_); rintro e1 w6 ⟨rfl, hb6⟩; replace hb6 := Lib.hid hb6) | fail)
                  have hb7 : Below wr.heap.size wr w6 := ((Below.refl wr.heap.size wr).alloc (Nat.le_refl _) _).trans (hb6.out.mono (by simp))
                  go_roundw
                  case rel => exact ⟨k + 1, by omega, by go_num, (HAr.out.below hb7 hz).congr fun j hj => by rw [Hsn.out, if_neg (fun h => by cases h.1)], hB.trans (hb7.mono (by omega)), by have := hb7.size; omega⟩
                  case measure => simp [intOf]; omega
                · have hlead := (leadB_iff N X.l3 (vsOf L) A).1 Hp.out
                  obtain ⟨u1, u2, u3, u4, u5, u6, u7, u8⟩ := usable_iff.1 hlead.1
                  have hjN : r.to_.toNat < N := by omega
                  obtain ⟨y, hy⟩ : ∃ y, y = bef N X.l3 (vsOf L) A (X.R.take k) r.to_.toNat := ⟨_, rfl⟩
                  obtain ⟨a1, a2⟩ := HAr.out r.to_.toNat hjN
                  dsimp only at a1
                  rw [← hy] at a1
                  have Hy := Lib.hid hy
                  clear hy hlead
                  by_cases hy0 : y < 0
                  · go_wp2_with (first | (go_at_call 21; (with_reducible refine (K2r.out _ (hB5.alloc hB5.size _)).mono ?_); rintro e1 w6 ⟨rfl, hb6⟩; have hb7 : Below wr.heap.size wr w6 := ((Below.refl wr.heap.size wr).alloc (Nat.le_refl _) (.cells (roadC r).toArray 56)).trans (hb6.mono (by simp)); have hr6 := (Box.new wr (roadC r).toArray 56).below hb6 (by simp); obtain ⟨r0, r1, r2, r3, r4, r5, r6⟩ := hr6.road; have a3 := (hb7.cell (p := ⟨G, r.to_.toNat, none⟩) hz).trans a1; have a4 := (hb7.frozen (p := ⟨G, r.to_.toNat, none⟩) hz).trans a2; replace hb7 := Lib.hid hb7; clear hb6 hr6) | fail)
                    go_roundw
                    case rel => exact ⟨k + 1, by omega, by go_num, ((HAr.out.below hb7.out hz).set hjN (.int .i64 r.frm)).congr fun j hj => by
                      rw [Hsn.out]
                      unfold updF
                      by_cases e : j = r.to_.toNat
                      · rw [if_pos e, if_pos (by refine ⟨?_, e.symm, by rw [e, ← Hy.out]; exact hy0⟩; first | rfl | trivial)]
                      · rw [if_neg e, if_neg (fun h => e h.2.1.symm)], (hB.trans (hb7.out.mono (by omega))).setCell (p := ⟨G, r.to_.toNat, none⟩) (Nat.le_refl _) _, by have := hb7.out.size; simp; omega⟩
                    case measure => simp [intOf]; omega
                  · go_wp2_with (first | (go_at_call 21; (with_reducible refine (K2r.out _ (hB5.alloc hB5.size _)).mono ?_); rintro e1 w6 ⟨rfl, hb6⟩; have hb7 : Below wr.heap.size wr w6 := ((Below.refl wr.heap.size wr).alloc (Nat.le_refl _) (.cells (roadC r).toArray 56)).trans (hb6.mono (by simp)); have hr6 := (Box.new wr (roadC r).toArray 56).below hb6 (by simp); obtain ⟨r0, r1, r2, r3, r4, r5, r6⟩ := hr6.road; have a3 := (hb7.cell (p := ⟨G, r.to_.toNat, none⟩) hz).trans a1; have a4 := (hb7.frozen (p := ⟨G, r.to_.toNat, none⟩) hz).trans a2; replace hb7 := Lib.hid hb7; clear hb6 hr6) | fail)
                    go_roundw
                    case rel => exact ⟨k + 1, by omega, by go_num, (HAr.out.below hb7.out hz).congr fun j hj => by
                      rw [Hsn.out]
                      by_cases e : r.to_.toNat = j
                      · rw [if_neg (fun h => by have := h.2.2; rw [← e, ← Hy.out] at this; omega)]
                      · rw [if_neg (fun h => e h.2.1)], hB.trans (hb7.out.mono (by omega)), by have := hb7.out.size; omega⟩
                    case measure => simp [intOf]; omega
              · obtain rfl : X.R.length = k := by omega
                rw [List.take_length] at hAr
                obtain ⟨w7, hw7⟩ : ∃ x, x = wr := ⟨_, rfl⟩
                rw [← hw7] at hAr hB hz hB5 hBw ⊢
                clear hw7 hlt hk
                replace hAr := Lib.hid hAr
                have hreach : ∃ h, IsArr N X.l3 (vsOf L) X.R town q h := ⟨_, arr_isarr (by rw [← HA.out]; exact q3)⟩
                obtain ⟨hq0, hIs⟩ := hreach
                rw [HA.out] at hAr
                obtain ⟨l, hl⟩ := chain_is hIs
                have hll := chain_len htN hl hIs
                have hqN : q < N := at_lt htN hIs.1
                obtain ⟨H0, hH0⟩ : ∃ x, x = w7.heap.size := ⟨_, rfl⟩
                have HH0 := Lib.hid hH0
                have hGH : G < H0 := by omega
                go_wp2_with fail
                rw [← HH0.out]
                have hW0 : (w7.alloc (.cells #[.int .i64 q] 3)).ownsRow H0 3 1 (.slice (some ⟨H0, 0, none⟩) 1 1) 1 ((intsOf ([] ++ [q])).map (Value.int .i64)) := by
                  have := World.ownsRow_lit (base := H0) (e := 3) (size := 1) w7 #[.int .i64 q] 1 (by rw [HH0.out]; exact Nat.le_refl _) (by decide) (by simp)
                  rw [← HH0.out] at this; exact this
                have hBH : Below H0 w7 (w7.alloc (.cells #[.int .i64 q] 3)) := by rw [HH0.out]; exact (Below.refl _ _).alloc (Nat.le_refl _) _
                have hzH : H0 < (w7.alloc (.cells #[.int .i64 q] 3)).heap.size := by rw [HH0.out]; simp
                have KRev := Lib.hid (fun (o : Option Nat) (c : Nat) (l : List Int) (wx : World) (h : RevRow wx H0 o c l.length l) (hl : l.length ≤ 1000) => reverse_any H0 o c l wx h (by omega))
                have Hl := Lib.hid hl
                have HIs := Lib.hid hIs
                have Hll := Lib.hid hll
                clear hH0 hl hIs hll
                go_loopg [16, 17] l.length (fun g wv vv wr => ∃ (v : Nat) (L1 W0 : List Nat), g = L1.length ∧ vv = .int .i64 v ∧ Chain (bef N X.l3 (vsOf L) (arr N X.l3 (vsOf L) X.R town) X.R) town v L1 ∧ l = L1 ++ W0.reverse ∧ wr.ownsRow H0 3 1 wv (W0.length + 1) ((intsOf (W0 ++ [v])).map (Value.int .i64)) ∧ v < N ∧ Below H0 w7 wr ∧ H0 < wr.heap.size)
                case atStart => exact ⟨q, l, [], rfl, rfl, Hl.out, by simp, hW0, hqN, hBH, hzH⟩
                case round =>
                  clear hW0 hBH hzH
                  obtain ⟨v, L1, W0, hg, rfl, hC, hle, hW, hvN, hBH, hzH⟩ := hrel
                  have hBq : Below w.heap.size w wr := hBw.trans (hBH.mono (by have := hBw.size; have := HH0.out; omega))
                  have hWl : W0.length + 1 ≤ 100 := by
                    have h1 := congrArg List.length hle
                    rw [List.length_append, List.length_reverse] at h1
                    have := hC.pos; have := Hll.out; omega
                  by_cases hvt : v = town
                  · have d1 : ((v : Int) != (town : Int)) = false := by rw [hvt]; simp
                    have d2 : (v != town) = false := by rw [hvt]; simp
                    have hle2 : l = (W0 ++ [v]).reverse := by
                      rw [hle]
                      have := hC
                      rw [hvt] at this
                      rw [this.town, hvt]; simp
                    obtain ⟨o, cw, hwv, _⟩ := ad_of_owns hW
                    subst hwv
                    have hlen : (intsOf (W0 ++ [v])).length = W0.length + 1 := by simp [intsOf]
                    have KR : Hid (Calls Try.prog 24 #[.slice (ad o) (W0.length + 1) cw] wr fun e w' => e = .returned (.tuple #[]) ∧ RevRow w' H0 o cw (W0.length + 1) (intsOf (W0 ++ [v])).reverse ∧ Kp (fun k => o = some k) wr w') := Lib.hid (by
                      have := KRev.out o cw (intsOf (W0 ++ [v])) wr (by rw [hlen]; exact hW) (by rw [hlen]; omega)
                      rw [hlen] at this; exact this)
                    have ho : ∀ g, o = some g → H0 ≤ g := fun g e => (hW.lt g (by rw [ad_block]; exact e)).1
                    have Ho := Lib.hid ho
                    have Hle := Lib.hid hle2
                    clear hle hle2 hlen hW hC hvt ho
                    go_wp2_with (first | (go_at_call 24; (with_reducible refine KR.out.mono ?_); rintro e1 w8 ⟨rfl, hR8, hK8⟩; replace hR8 := Lib.hid hR8; replace hK8 := Lib.hid hK8) | fail)
                    go_ret2
                    have hN2 : X.N - X.T.length = X.S.length := by have : X.N = X.T.length + X.S.length := rfl; omega
                    have hll2 : l.length = W0.length + 1 := by rw [Hle.out]; simp
                    have hri : (intsOf (W0 ++ [v])).reverse = intsOf l := by rw [Hle.out]; unfold intsOf; rw [List.map_reverse]
                    refine ⟨l, true, ad o, cw, .inr ⟨rfl, by omega, by omega, q, ?_, ?_⟩, by rw [hll2]; rfl, fun h0 => ?_, hBq.trans (hK8.out.below (by have := hBq.size; omega) (fun k e => by have := Ho.out k e; have := HH0.out; have := hBw.size; omega))⟩
                    · rw [hN2, ← HNN.out, Int.toNat_natCast, ← HA.out]; exact He.out
                    · rw [← HNN.out, Int.toNat_natCast]; exact Hl.out
                    · have hR := hR8.out
                      rw [hri] at hR
                      obtain ⟨g, hg, hgb, hgl, hcell⟩ := hR.get (by omega)
                      refine ⟨g, 0, by rw [hg]; rfl, hgl, fun j hj => ?_⟩
                      rw [Nat.zero_add]
                      exact (hcell j (by rw [← hll2]; simpa [intsOf] using hj)).1
                  · have d1 : ((v : Int) != (town : Int)) = true := by simp; omega
                    have d2 : (v != town) = true := by simpa using hvt
                    obtain ⟨hb0, m, hCm, hL1⟩ := hC.split hvt
                    have hAr2 : Arr wr G N (fun j => .int .i64 (bef N X.l3 (vsOf L) (arr N X.l3 (vsOf L) X.R town) X.R j)) := hAr.out.below hBH hGH
                    obtain ⟨a1, a2⟩ := hAr2 v hvN
                    dsimp only at a1
                    obtain ⟨u, hu⟩ := Int.eq_ofNat_of_zero_le hb0
                    rw [hu] at a1
                    rw [hu, Int.toNat_natCast] at hCm
                    have huN : u < N := by
                      rcases bef_cases (N := N) (P := X.l3) (VS := vsOf L) (A := arr N X.l3 (vsOf L) X.R town) X.R v with ⟨e, _⟩ | ⟨r, hr, hle, hrv, he, h0⟩
                      · omega
                      · have := usable_iff.1 hle.1
                        rw [hu] at he; omega
                    have hu0 : (0 : Int) ≤ (u : Int) := by omega
                    have hgt : gk = m.length + 1 := by rw [hg, hL1]; simp
                    have hle2 : l = m ++ (W0 ++ [v]).reverse := by rw [hle, hL1]; simp
                    have Hle := Lib.hid hle2
                    have HCm := Lib.hid hCm
                    have HW := Lib.hid hW
                    have Hgt := Lib.hid hgt
                    clear hle hle2 hL1 hCm hC hW hAr2 hu hb0 hg hgt hvt a2
                    obtain ⟨o, cw, hwv, _⟩ := ad_of_owns HW.out
                    subst hwv
                    go_wp2_with (first | (at_builtin; refine wpList_append_any _ (by rfl) _ _ 29 (by rfl) H0 3 i1 _ 1 8 Try.underlying29 gi gz0 gz1 gz2 rfl (by decide) _ (W0.length + 1) _ (by rfl) (HW.out.alloc _) (_ + 1) (some ⟨wr.heap.size, 0, none⟩) 1 1 [.int .i64 (u : Int)] (by rfl) ⟨rfl, fun _ => ⟨_, rfl, Nat.lt_succ_self _, cells_at (by rfl) _ _⟩⟩ (fun x hx => by obtain rfl := List.mem_singleton.1 hx; rfl) (by unfold maxLen; omega) (by omega) (by simp; omega) ?_; intro v' w9 hO9 hG9 hob9; replace hO9 := Lib.hid hO9; replace hG9 := Lib.hid hG9; clear hob9) | fail)
                    have hG := Plan.grown_go (Plan.grown_alloc ⟨rfl, rfl, rfl, Nat.le_refl _, fun _ _ _ => rfl⟩ _) hG9.out
                    have hBH2 : Below H0 w7 w9 := hBH.grown hG (by omega) (fun g e => (HW.out.lt g e).1)
                    go_roundg (gk - 1)
                    case measure => have := Hgt.out; omega
                    case rel => exact ⟨u, m, W0 ++ [v], by have := Hgt.out; omega, rfl, HCm.out, Hle.out, by
                      have h9 := hO9.out
                      rw [List.length_append, List.length_singleton]
                      have e : (intsOf ((W0 ++ [v]) ++ [u])).map (Value.int .i64) = (intsOf (W0 ++ [v])).map (Value.int .i64) ++ [.int .i64 (u : Int)] := by simp [intsOf]
                      rw [e]; exact h9, huN, hBH2, by have := hG.size; omega⟩
end Go.Proofs.Ytphebdmdbnpokaa
