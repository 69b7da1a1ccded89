/- The walk of the reference's Ways. (Printed by gen_t5.py.) -/
import Derived.Deep.Cut
import Derived.Test.YtphebdmdbnpokaaT4
import Derived.Test.YtphebdmdbnpokaaR6
set_option linter.unusedSimpArgs false
set_option linter.unusedVariables false
namespace Go.Proofs.Ytphebdmdbnpokaa
open Go.RowKit RD
attribute [local go_sem] alloc_drewN setCell_drewN shape_drewN
set_option maxRecDepth 100000 in
set_option maxHeartbeats 4000000 in
theorem rways_no (X : Bs) (C : Option Addr) (c : Nat) (L : List Vl) (town : Int) (w : World) (hT : X.T.length ≤ 50) (ht : town < 0 ∨ (X.T.length : Int) ≤ town) :
    Calls Try.prog 10 #[.agg #[.string X.nm, .slice X.a1 X.l1 X.c1, .int .i64 X.cl, .slice X.a3 X.l3 X.c3, .slice X.a4 X.l4 X.c4, .slice X.a5 X.T.length X.c5, .slice X.a6 X.l6 X.c6, .slice X.a7 X.R.length X.c7, .slice X.a8 X.S.length X.c8, .slice X.a9 X.l9 X.c9, .int .i64 X.er], .int .i64 town, .slice C L.length c] w (WaysIs X L town w) := by
  have hb := (Below.refl w.heap.size w).alloc (Nat.le_refl _) (.cells #[.string X.nm, .slice X.a1 X.l1 X.c1, .int .i64 X.cl, .slice X.a3 X.l3 X.c3, .slice X.a4 X.l4 X.c4, .slice X.a5 X.T.length X.c5, .slice X.a6 X.l6 X.c6, .slice X.a7 X.R.length X.c7, .slice X.a8 X.S.length X.c8, .slice X.a9 X.l9 X.c9, .int .i64 X.er] 31)
  rcases ht with ht | ht
  · go_enter Try.func10, Try.ntmps10
    go_wp2_with fail
    go_ret2
    exact .no (.inl ht) hb
  · obtain ⟨k, rfl⟩ := Int.eq_ofNat_of_zero_le (show 0 ≤ town by omega)
    have ht2 : X.T.length ≤ k := by omega
    have Ht := Lib.hid ht
    clear ht
    go_enter Try.func10, Try.ntmps10
    go_wp2_with fail
    go_ret2
    exact .no (.inr (.inl Ht.out)) hb
set_option maxRecDepth 100000 in
set_option maxHeartbeats 16000000 in
theorem rways_yes (X : Bs) (C : Option Addr) (c : Nat) (L : List Vl) (town : Nat) (w : World) (hX : BsAt w w.heap.size X) (hV : VlsAt w w.heap.size C L) (hT : X.T.length ≤ 50) (hSl : X.S.length ≤ 50) (hR : X.R.length ≤ 100) (hL : L.length ≤ 1000) (hP : X.l3 ≤ 9223372036854775807) (ht : town < X.T.length) :
    Calls Try.prog 10 #[.agg #[.string X.nm, .slice X.a1 X.l1 X.c1, .int .i64 X.cl, .slice X.a3 X.l3 X.c3, .slice X.a4 X.l4 X.c4, .slice X.a5 X.T.length X.c5, .slice X.a6 X.l6 X.c6, .slice X.a7 X.R.length X.c7, .slice X.a8 X.S.length X.c8, .slice X.a9 X.l9 X.c9, .int .i64 X.er], .int .i64 town, .slice C L.length c] w (WaysIs X L town w) := by
  obtain ⟨i1, gi, gz0, gz1, gz2⟩ := info_parts infoInt
  obtain ⟨N, hN⟩ : ∃ N, N = X.N := ⟨_, rfl⟩
  have hNs : N = X.T.length + X.S.length := hN
  have hNb : N ≤ 100 := by omega
  have htN : town < N := by omega
  have hTN : X.T.length ≤ N := by omega
  obtain ⟨A, hA⟩ : ∃ A, A = arr N X.l3 (vsOf L) X.R town := ⟨_, rfl⟩
  have hAb : ∀ v, A v ≤ 900000 := fun v => by
    have := arr_bound (P := X.l3) (VS := vsOf L) (R := X.R) htN v
    rw [← hA, vsOf_len] at this; omega
  have K1 := Lib.hid (fun (wx : World) (h : Below w.heap.size w wx) => rarrivals_any X C c L town wx ((hX.below h).more h.size) ((hV.below h).more h.size) hT hSl hR hL hP ht)
  unfold RArrIs at K1
  have K2 := Lib.hid (fun (M c1 v : Nat) (wx : World) (h : Below w.heap.size w wx) (h1 : ∀ v, v < X.N → wx.cell? ⟨M, v, none⟩ = some (.int .i64 (A v))) (h2 : M < wx.heap.size) (h3 : v < X.N) => rbefore_any X C c L A M c1 v wx ((hX.below h).more h.size) ((hV.below h).more h.size) hT hSl hR hL hP h1 h2 hAb h3)
  unfold BefIs at K2
  rw [← hN] at K1 K2
  rw [← hA] at K1
  have hX0 : Box (w.alloc (.cells #[.string X.nm, .slice X.a1 X.l1 X.c1, .int .i64 X.cl, .slice X.a3 X.l3 X.c3, .slice X.a4 X.l4 X.c4, .slice X.a5 X.T.length X.c5, .slice X.a6 X.l6 X.c6, .slice X.a7 X.R.length X.c7, .slice X.a8 X.S.length X.c8, .slice X.a9 X.l9 X.c9, .int .i64 X.er] 31)) w.heap.size #[.string X.nm, .slice X.a1 X.l1 X.c1, .int .i64 X.cl, .slice X.a3 X.l3 X.c3, .slice X.a4 X.l4 X.c4, .slice X.a5 X.T.length X.c5, .slice X.a6 X.l6 X.c6, .slice X.a7 X.R.length X.c7, .slice X.a8 X.S.length X.c8, .slice X.a9 X.l9 X.c9, .int .i64 X.er] 31 := Box.new w _ _
  have hB0 : Below w.heap.size w (w.alloc (.cells #[.string X.nm, .slice X.a1 X.l1 X.c1, .int .i64 X.cl, .slice X.a3 X.l3 X.c3, .slice X.a4 X.l4 X.c4, .slice X.a5 X.T.length X.c5, .slice X.a6 X.l6 X.c6, .slice X.a7 X.R.length X.c7, .slice X.a8 X.S.length X.c8, .slice X.a9 X.l9 X.c9, .int .i64 X.er] 31)) := (Below.refl _ _).alloc (Nat.le_refl _) _
  have HX0 := Lib.hid hX0
  obtain ⟨x0, x1, x2, x3, x4, x5, x6, x7, x8, x9, x10⟩ := hX0.bas
  have HN := Lib.hid hN
  have HA := Lib.hid hA
  have HNs := Lib.hid hNs
  clear hX hV hN hNs hA hP hX0 hAb
  go_enter Try.func10, Try.ntmps10
  go_wp2_with fail
  go_at_call 25
  (with_reducible refine (K1.out _ hB0).mono ?_)
  rintro e1 w1 ⟨M, cM, rfl, hMz, hAr, hb1⟩
  have HX1 := Lib.hid (HX0.out.below hb1 (by simp))
  have hB1 : Below w.heap.size w w1 := hB0.trans (hb1.mono (by simp))
  have hz1 : w.heap.size < w1.heap.size := HX1.out.lt
  have y5 : w1.cell? ⟨w.heap.size, 5, none⟩ = some (.slice X.a5 X.T.length X.c5) := HX1.out.cell rfl
  have HAr := Lib.hid hAr
  have HB1 := Lib.hid hB1
  clear x0 x1 x2 x3 x4 x5 x6 x7 x8 x9 x10 hb1 hB0 HX0 hAr K1 hB1
  go_wp2_with fail
  go_loopw [9, 10] (fun bv vv wr => ∃ s, X.T.length ≤ s ∧ s ≤ N ∧ vv = .int .i64 (s : Nat) ∧ bv = .int .i64 (best A X.T.length (s - X.T.length)) ∧ Below w1.heap.size w1 wr) (fun _ vv _ => N - (intOf vv).toNat)
  case atStart => exact ⟨X.T.length, Nat.le_refl _, hTN, rfl, by rw [Nat.sub_self]; rfl, Below.refl _ _⟩
  case round =>
    clear y5
    obtain ⟨s, hs1, hs2, rfl, rfl, hBr⟩ := hrel
    have hzr := hBr.size
    have zM : M < wr.heap.size := by omega
    have hcs := best_cases A X.T.length (s - X.T.length)
    obtain ⟨bb, hbb⟩ : ∃ b, b = best A X.T.length (s - X.T.length) := ⟨_, rfl⟩
    rw [← hbb] at hcs ⊢
    by_cases hlt : s < N
    · have a1 : wr.cell? ⟨M, s, none⟩ = some (.int .i64 (A s)) := (hBr.cell (p := ⟨M, s, none⟩) hMz).trans (HAr.out s hlt)
      obtain ⟨a, ha⟩ : ∃ a, a = A s := ⟨_, rfl⟩
      have hstep : best A X.T.length (s + 1 - X.T.length) = if 0 ≤ a ∧ (bb < 0 ∨ a < A bb.toNat) then (s : Int) else bb := by
        rw [show s + 1 - X.T.length = (s - X.T.length) + 1 by omega, ha, hbb]
        simp only [best]
        rw [show X.T.length + (s - X.T.length) = s by omega]
      rw [← ha] at a1
      have Hstep := Lib.hid hstep
      clear ha hbb hstep
      by_cases ha0 : a < 0
      · have d1 : decide (a < 0) = true := decide_eq_true ha0
        clear hcs
        go_wp2_with fail
        go_roundw
        case rel => exact ⟨s + 1, by omega, by omega, by go_num, by rw [Hstep.out, if_neg (by omega)], hBr⟩
        case measure => simp [intOf]; omega
      · have d1 : decide (a < 0) = false := decide_eq_false ha0
        by_cases hb0 : bb < 0
        · have d2 : decide (bb < 0) = true := decide_eq_true hb0
          clear hcs
          go_wp2_with fail
          go_roundw
          case rel => exact ⟨s + 1, by omega, by omega, by go_num, by rw [Hstep.out, if_pos (by omega)], hBr⟩
          case measure => simp [intOf]; omega
        · have d2 : decide (bb < 0) = false := decide_eq_false hb0
          rcases hcs with ⟨e, _⟩ | ⟨q, rfl, q1, q2, q3, _⟩
          · omega
          have hqN : q < N := by omega
          have a2 : wr.cell? ⟨M, q, none⟩ = some (.int .i64 (A q)) := (hBr.cell (p := ⟨M, q, none⟩) hMz).trans (HAr.out q hqN)
          rw [Int.toNat_natCast] at Hstep
          obtain ⟨y, hy⟩ : ∃ y, y = A q := ⟨_, rfl⟩
          rw [← hy] at a2 Hstep
          clear hy q3
          by_cases hay : a < y
          · have d3 : decide (a < y) = true := decide_eq_true hay
            go_wp2_with fail
            refine Plan.wp_region_below 8 [(0, true), (1, true), (2, true), (3, true), (4, true), (5, true), (6, true), (7, true), (8, false)] (by kernel_rfl) (by kernel_rfl) ?_
            (repeat (first | (refine Plan.plan_read (v := ?_) rfl rfl ?_ ?_; rotate_left; (focus ((intro wS hSw; have hkS := (bcell hSw).1; try (have hkT := fun (b o : Nat) (h : b < w.heap.size) => hkS b o (by first | omega | (simp; omega) | (simp; done))); go_simp); try with_reducible rfl)); simp only [Act.put, List.setIfInBounds_toArray, List.set_cons_zero, List.set_cons_succ]) | (refine Plan.plan_skip rfl rfl ?_; simp only [Act.put, List.setIfInBounds_toArray, List.set_cons_zero, List.set_cons_succ])))
            refine Plan.plan_last rfl (fun K hK => ?_)
            go_simp
            refine hK.out _ _ ?_
            clear hK K
            try simp only [Act.put, List.setIfInBounds_toArray, List.set_cons_zero, List.set_cons_succ]
            go_wp2_with fail
            go_roundw
            case rel => exact ⟨s + 1, by omega, by omega, by go_num, by rw [Hstep.out, if_pos (by omega)], hBr.drew⟩
            case measure => simp [intOf]; omega
          · have d3 : decide (a < y) = false := decide_eq_false hay
            go_wp2_with fail
            refine Plan.wp_region_below 8 [(0, true), (1, true), (2, true), (3, true), (4, true), (5, true), (6, true), (7, true), (8, false)] (by kernel_rfl) (by kernel_rfl) ?_
            (repeat (first | (refine Plan.plan_read (v := ?_) rfl rfl ?_ ?_; rotate_left; (focus ((intro wS hSw; have hkS := (bcell hSw).1; try (have hkT := fun (b o : Nat) (h : b < w.heap.size) => hkS b o (by first | omega | (simp; omega) | (simp; done))); go_simp); try with_reducible rfl)); simp only [Act.put, List.setIfInBounds_toArray, List.set_cons_zero, List.set_cons_succ]) | (refine Plan.plan_skip rfl rfl ?_; simp only [Act.put, List.setIfInBounds_toArray, List.set_cons_zero, List.set_cons_succ])))
            refine Plan.plan_last rfl (fun K hK => ?_)
            go_simp
            refine hK.out _ _ ?_
            clear hK K
            try simp only [Act.put, List.setIfInBounds_toArray, List.set_cons_zero, List.set_cons_succ]
            go_wp2_with fail
            go_roundw
            case rel => exact ⟨s + 1, by omega, by omega, by go_num, by rw [Hstep.out, if_neg (by omega)], hBr.drew⟩
            case measure => simp [intOf]; omega
    · obtain rfl : N = s := by omega
      have hbw : Below w.heap.size w wr := HB1.out.trans (hBr.mono (by omega))
      have Hbb := Lib.hid hbb
      clear hbb
      by_cases hb0 : bb < 0
      · have d2 : decide (bb < 0) = true := decide_eq_true hb0
        have hb1 : best A X.T.length (N - X.T.length) = -1 := by
          rw [← Hbb.out]
          rcases hcs with ⟨e, _⟩ | ⟨q, e, _⟩
          · exact e
          · omega
        have Hb1 := Lib.hid hb1
        clear hcs hb1
        go_wp2_with fail
        go_ret2
        exact .no (.inr (.inr (by rw [Int.toNat_natCast, ← HN.out, ← HA.out]; exact Hb1.out))) hbw
      · have d2 : decide (bb < 0) = false := decide_eq_false hb0
        rcases hcs with ⟨e, _⟩ | ⟨q, rfl, q1, q2, q3, _⟩
        · omega
        have hreach : ∃ h, IsArr N X.l3 (vsOf L) X.R town q h := ⟨_, arr_isarr (by rw [← HA.out]; exact q3)⟩
        obtain ⟨hq0, hIs⟩ := hreach
        obtain ⟨l, hl⟩ := chain_is hIs
        have hll := chain_len htN hl hIs
        have hqN : q < N := at_lt htN hIs.1
        rw [← HA.out] at hl
        obtain ⟨w2, hw2⟩ : ∃ x, x = wr := ⟨_, rfl⟩
        rw [← hw2] at hBr hzr hbw zM ⊢
        clear hw2
        have hLit : (w2.alloc (.cells #[.int .i64 (q : Int)] 3)).ownsRow w1.heap.size 3 1 (.slice (some ⟨w2.heap.size, 0, none⟩) 1 1) 1 ((intsOf (q :: [])).map (Value.int .i64)) :=
          World.ownsRow_lit (base := w1.heap.size) (e := 3) (size := 1) w2 #[.int .i64 (q : Int)] 1 hzr (by decide) (by simp)
        have HLit := Lib.hid hLit
        have hB3 : Below w1.heap.size w1 (w2.alloc (.cells #[.int .i64 (q : Int)] 3)) := hBr.alloc hzr _
        have HB3 := Lib.hid hB3
        have Hl := Lib.hid hl
        have Hll := Lib.hid hll
        clear q1 q2 q3 hIs hl hll hLit hB3 hBr hbw hs1 hs2 hlt hb0
        go_wp2_with fail
        go_loopg [11] l.length (fun g wv wr => ∃ (v : Nat) (L1 W0 : List Nat), g = L1.length ∧ Chain (bef N X.l3 (vsOf L) A X.R) town v L1 ∧ l = L1 ++ W0 ∧ wr.ownsRow w1.heap.size 3 1 wv (W0.length + 1) ((intsOf (v :: W0)).map (Value.int .i64)) ∧ v < N ∧ Below w1.heap.size w1 wr)
        case atStart => exact ⟨q, l, [], rfl, Hl.out, by simp, HLit.out, hqN, HB3.out⟩
        case round =>
          clear HLit HB3
          obtain ⟨v, L1, W0, hg, hC, hle, hW, hvN, hBr⟩ := hrel
          have hWl : W0.length + 1 ≤ 100 := by
            have h1 := congrArg List.length hle
            rw [List.length_append] at h1
            have := hC.pos; have := Hll.out; omega
          obtain ⟨o, cw, hwv, _⟩ := ad_of_owns hW
          subst hwv
          have hrw : RevRow wr w1.heap.size o cw (W0.length + 1) (intsOf (v :: W0)) := hW
          obtain ⟨g, ho, hg1, hg2, hcell⟩ := hrw.get (by omega)
          subst ho
          have hc0 : wr.cell? ⟨g, 0, none⟩ = some (.int .i64 (v : Int)) := (hcell 0 (by omega)).1
          have HW := Lib.hid hW
          have Hcell := Lib.hid hcell
          clear hW hrw hcell
          have hzr4 := hBr.size
          have hBw : Below w.heap.size w wr := HB1.out.trans (hBr.mono (by omega))
          unfold ad at *
          dsimp only [Option.map] at *
          by_cases hvt : v = town
          · have d3 : ((v : Int) != (town : Int)) = false := by rw [hvt]; simp
            have d4 : (v != town) = false := by rw [hvt]; simp
            have hle2 : l = v :: W0 := by
              rw [hle]
              have := hC
              rw [hvt] at this
              rw [this.town, hvt]; rfl
            have Hle := Lib.hid hle2
            clear hle hle2 hC
            go_wp2_with fail
            go_ret2
            have hN2 : X.N - X.T.length = N - X.T.length := by rw [← HN.out]
            have hll2 : l.length = W0.length + 1 := by rw [Hle.out]; rfl
            refine ⟨l, true, some ⟨g, 0, none⟩, cw, .inr ⟨rfl, by omega, by omega, q, ?_, ?_⟩, by rw [hll2]; rfl, fun h0 => ?_, hBw⟩
            · rw [hN2, ← HN.out, Int.toNat_natCast, ← HA.out]; exact Hbb.out.symm
            · rw [← HN.out, Int.toNat_natCast, ← HA.out]; exact Hl.out
            · refine ⟨g, 0, rfl, hg2, fun j hj => ?_⟩
              rw [Nat.zero_add]
              have hj2 : j < W0.length + 1 := by rw [← hll2]; simpa [intsOf] using hj
              have := (Hcell.out j hj2).1
              rw [Hle.out]; exact this
          · have d3 : ((v : Int) != (town : Int)) = true := by simp; omega
            have d4 : (v != town) = true := by simpa using hvt
            obtain ⟨hb0, m, hCm, hL1⟩ := hC.split hvt
            obtain ⟨u, hu⟩ := Int.eq_ofNat_of_zero_le hb0
            rw [hu, Int.toNat_natCast] at hCm
            have huN : u < N := by
              rcases bef_cases (N := N) (P := X.l3) (VS := vsOf L) (A := A) X.R v with ⟨e, _⟩ | ⟨r, hr, hle, hrv, he, h0⟩
              · omega
              · have := usable_iff.1 hle.1
                rw [hu] at he; omega
            have hgt : gk = m.length + 1 := by rw [hg, hL1]; simp
            have hle2 : l = m ++ (v :: W0) := by rw [hle, hL1]; simp
            have KB := Lib.hid (fun (wx : World) (h : Below w.heap.size w wx) (h1 : ∀ v, v < N → wx.cell? ⟨M, v, none⟩ = some (.int .i64 (A v))) (h2 : M < wx.heap.size) => K2.out M cM v wx h h1 h2 hvN)
            rw [hu] at KB
            have hcM : ∀ v, v < N → wr.drew.cell? ⟨M, v, none⟩ = some (.int .i64 (A v)) := fun v hv => (hBr.cell (p := ⟨M, v, none⟩) hMz).trans (HAr.out v hv)
            have hMz4 : M < wr.drew.heap.size := by show M < wr.heap.size; omega
            obtain ⟨y0, y1, y2, y3, y4, y5, y6, y7, y8, y9, y10⟩ := (HX1.out.below hBr hz1).bas
            have Hle := Lib.hid hle2
            have HCm := Lib.hid hCm
            have Hgt := Lib.hid hgt
            have HcM := Lib.hid hcM
            have hwwr : w.heap.size < wr.heap.size := by omega
            clear hle hle2 hL1 hCm hC hu hb0 hg hgt hcM
            go_wp2_with fail
            refine Plan.wp_region_below 7 [(0, true), (1, true), (2, true), (3, true), (4, true), (5, true), (6, false), (7, false)] (by kernel_rfl) (by kernel_rfl) ?_
            (repeat (first | (refine Plan.plan_read (v := ?_) rfl rfl ?_ ?_; rotate_left; (focus ((intro wS hSw; have hkS := (bcell hSw).1; try (have hkT := fun (b o : Nat) (h : b < w.heap.size) => hkS b o (by first | omega | (simp; omega) | (simp; done))); go_simp); try with_reducible rfl)); simp only [Act.put, List.setIfInBounds_toArray, List.set_cons_zero, List.set_cons_succ]) | (refine Plan.plan_skip rfl rfl ?_; simp only [Act.put, List.setIfInBounds_toArray, List.set_cons_zero, List.set_cons_succ])))
            refine Plan.plan_write rfl (fun K hK => ?_)
            go_simp
            go_at_call 26
            (with_reducible refine (KB.out _ hBw.drew HcM.out hMz4).mono ?_)
            rintro e2 w5 ⟨rfl, hb6⟩
            have kB := Plan.below_drew_go hb6
            refine hK.out _ _ kB ?_
            clear hK K
            try simp only [Act.put, List.setIfInBounds_toArray, List.set_cons_zero, List.set_cons_succ]
            (repeat (first | (refine Plan.plan_read (v := ?_) rfl rfl ?_ ?_; rotate_left; (focus ((intro wS hSw; have hkS := (bcell hSw).1; try (have hkT := fun (b o : Nat) (h : b < w.heap.size) => hkS b o (by first | omega | (simp; omega) | (simp; done))); go_simp); try with_reducible rfl)); simp only [Act.put, List.setIfInBounds_toArray, List.set_cons_zero, List.set_cons_succ]) | (refine Plan.plan_skip rfl rfl ?_; simp only [Act.put, List.setIfInBounds_toArray, List.set_cons_zero, List.set_cons_succ])))
            refine Plan.plan_last rfl (fun K hK => ?_)
            go_simp
            refine hK.out _ _ ?_
            clear hK K
            try simp only [Act.put, List.setIfInBounds_toArray, List.set_cons_zero, List.set_cons_succ]
            have hz5 := kB.size
            have hB5 : Below w1.heap.size w1 w5 := hBr.trans (kB.mono (by omega))
            have hz15 : w1.heap.size ≤ w5.heap.size := by omega
            have hLit : (w5.alloc (.cells #[.int .i64 (u : Int)] 3)).ownsRow w1.heap.size 3 1 (.slice (some ⟨w5.heap.size, 0, none⟩) 1 1) 1 [.int .i64 (u : Int)] :=
              World.ownsRow_lit (base := w1.heap.size) (e := 3) (size := 1) w5 #[.int .i64 (u : Int)] 1 hz15 (by decide) (by simp)
            have HW5 : Hid (w5.ownsRow w1.heap.size 3 1 (.slice (some ⟨g, 0, none⟩) (W0.length + 1) cw) (W0.length + 1) ((intsOf (v :: W0)).map (Value.int .i64))) := row_below HW.out kB
            have hRd := Lib.hid ((Reads.of_own HW5.out).alloc (Nat.le_refl _) (.cells #[.int .i64 (u : Int)] 3))
            have HLit := Lib.hid hLit
            clear y0 y1 y2 y3 y4 y5 y6 y7 y8 y9 y10 hLit hb6 HW hc0
            go_wp2_with (first | (at_builtin; refine wpList_append_any _ (by rfl) _ _ 29 (by rfl) w1.heap.size 3 i1 _ 1 8 Try.underlying29 gi gz0 gz1 gz2 rfl (by decide) (.slice (some ⟨w5.heap.size, 0, none⟩) 1 1) 1 [.int .i64 (u : Int)] (by rfl) HLit.out w5.heap.size (some ⟨g, 0, none⟩) (W0.length + 1) cw ((intsOf (v :: W0)).map (Value.int .i64)) (by rfl) hRd.out (fun x hx => by obtain ⟨y, _, rfl⟩ := List.mem_map.1 hx; rfl) (by unfold maxLen; omega) (by omega) (by simp; omega) ?_; intro v' w9 hO9 hG9 hob9; replace hO9 := Lib.hid hO9; replace hG9 := Lib.hid hG9; clear hob9) | fail)
            have hB9 : Below w1.heap.size w1 w9 := (hB5.alloc hz15 _).grown hG9.out (by simp; omega) (fun g e => by have : w5.heap.size = g := Option.some.inj e; omega)
            go_roundg (gk - 1)
            case measure => have := Hgt.out; omega
            case rel => exact ⟨u, m, v :: W0, by have := Hgt.out; omega, HCm.out, Hle.out, by
              have h9 := hO9.out
              rw [show 1 + (W0.length + 1) = (v :: W0).length + 1 by simp; omega] at h9
              exact h9, huN, hB9⟩
end Go.Proofs.Ytphebdmdbnpokaa
