/- The walk of arrivals. -/
import Derived.Test.YtphebdmdbnpokaaR2
import Derived.Test.YtphebdmdbnpokaaH4
import Derived.Test.YtphebdmdbnpokaaTabR
set_option linter.unusedSimpArgs false
set_option linter.unusedVariables false
namespace Go.Proofs.Ytphebdmdbnpokaa
open Go.RowKit RD HP
attribute [local go_sem] alloc_drewN setCell_drewN shape_drewN assert_vis
/-- How many nodes are not found yet. -/
def und (D : List Int) : Nat := D.countP (fun x => decide (x < 0))
theorem und_set : ∀ (D : List Int) (i : Nat) (x : Int), i < D.length → D.getD i (-1) < 0 → 0 ≤ x → und (D.set i x) + 1 = und D
  | [], i, x, h, _, _ => by simp at h
  | d :: D, 0, x, _, h1, h2 => by
    have h1 : d < 0 := h1
    simp only [und, List.set_cons_zero, List.countP_cons]
    rw [if_neg (by simp; omega), if_pos (by simpa using h1)]
  | d :: D, i + 1, x, h, h1, h2 => by
    have ih := und_set D i x (by simpa using h) (by simpa [List.getD_eq_getElem?_getD] using h1) h2
    simp only [und, List.set_cons_succ, List.countP_cons] at ih ⊢
    omega
theorem und_le (D : List Int) : und D ≤ D.length := List.countP_le_length
/-- The roads that lead from a node, among the first ones. -/
def fromL (N P : Nat) (R : List Rd) (v : Nat) : List Rd := R.filter fun r => usableB N P r && r.frm.toNat == v
theorem fromL_snoc (N P : Nat) (R : List Rd) (r : Rd) (v : Nat) : fromL N P (R ++ [r]) v = if usableB N P r = true ∧ r.frm.toNat = v then fromL N P R v ++ [r] else fromL N P R v := by
  unfold fromL
  rw [List.filter_append]
  by_cases h : usableB N P r = true ∧ r.frm.toNat = v
  · rw [if_pos h]; simp [h.1, h.2]
  · rw [if_neg h]
    have : (usableB N P r && r.frm.toNat == v) = false := by
      cases e : usableB N P r
      · rfl
      · cases e2 : r.frm.toNat == v
        · rfl
        · exact absurd ⟨e, by simpa using e2⟩ h
    simp [this]
theorem fromL_len (N P : Nat) (R : List Rd) (v : Nat) : (fromL N P R v).length ≤ R.length := List.length_filter_le _ _
def ArrivIs (X : Bs) (L : List Vl) (town : Nat) (w : World) (e : Ending) (w' : World) : Prop := ∃ M, e = .returned (.slice (some ⟨M, 0, none⟩) X.N X.N) ∧ (∀ v, v < X.N → w'.cell? ⟨M, v, none⟩ = some (.int .i64 (arr X.N X.l3 (vsOf L) X.R town v))) ∧ w.heap.size ≤ M ∧ M < w'.heap.size ∧ Below w.heap.size w w'
theorem infoRoads : (Try.prog.info? 27).map (fun i => (i.zero, i.size, i.bytes)) = some (some (.slice none 0 0), 1, 24) := by kernel_rfl
theorem infoRoad : (Try.prog.info? 56).map (fun i => (i.zero, i.size, i.bytes)) = some (some (.agg #[.string ⟨#[]⟩, .int .i64 0, .int .i64 0, .int .i64 0, .int .i64 0, .int .i64 0, .int .i64 0]), 7, 64) := by kernel_rfl
theorem infoInt : (Try.prog.info? 3).map (fun i => (i.zero, i.size, i.bytes)) = some (some (.int .i64 0), 1, 8) := by kernel_rfl
theorem road_cell {w : World} {B : Nat} {C : Option Addr} {R : List Rd} (h : RowAt roadC 7 w B C R) {k : Nat} (hk : k < R.length) : ∃ r, R[k]? = some r := ⟨_, List.getElem?_eq_getElem hk⟩
theorem take_snoc_at {α : Type} {l : List α} {k : Nat} {x : α} (h : l[k]? = some x) : l.take (k + 1) = l.take k ++ [x] := by
  rw [List.take_add_one, h]; rfl
set_option maxRecDepth 100000 in
set_option maxHeartbeats 8000000 in
theorem arrivals_any (X : Bs) (C : Option Addr) (c : Nat) (L : List Vl) (town : Nat) (w : World) (hX : BsAt w w.heap.size X) (hV : VlsAt w w.heap.size C L) (hT : X.T.length ≤ 50) (hSl : X.S.length ≤ 50) (hR : X.R.length ≤ 100) (hL : L.length ≤ 1000) (hP : X.l3 ≤ 9223372036854775807) (ht : town < X.T.length) :
    Calls Try.prog 20 #[.agg #[.string X.nm, .slice X.a1 X.l1 X.c1, .int .i64 X.cl, .slice X.a3 X.l3 X.c3, .slice X.a4 X.l4 X.c4, .slice X.a5 X.T.length X.c5, .slice X.a6 X.l6 X.c6, .slice X.a7 X.R.length X.c7, .slice X.a8 X.S.length X.c8, .slice X.a9 X.l9 X.c9, .int .i64 X.er], .int .i64 town, .slice C L.length c] w (ArrivIs X L town w) := by
  obtain ⟨i0, hi, hz0, hz1, hz2⟩ := info_parts infoRoads
  obtain ⟨i1, gi, gz0, gz1, gz2⟩ := info_parts infoInt
  obtain ⟨i2, ri, rz0, rz1, rz2⟩ := info_parts infoRoad
  obtain ⟨N, hN⟩ : ∃ N, N = X.N := ⟨_, rfl⟩
  have hNs : N = X.T.length + X.S.length := hN
  have hN1 : (X.T.length : Int) + (X.S.length : Int) = (N : Int) := by omega
  have hNb : N ≤ 100 := by omega
  have htN : town < N := by omega
  have K1 := Lib.hid (fun (r : Rd) (wx : World) => usable_any X r wx ⟨by omega, by omega, by omega, hP⟩)
  have mk1 := fun wx => run_make1 (P := Try.prog) 76 27 i0 (.slice none 0 0) Try.underlying76 hi hz0 hz1 rfl N N (Nat.le_refl _) (by rw [hz2]; omega) (by omega) wx
  have mk2 := fun wx => run_make1 (P := Try.prog) 29 3 i1 (.int .i64 0) Try.underlying29 gi gz0 gz1 rfl N N (Nat.le_refl _) (by rw [gz2]; omega) (by omega) wx
  have hXr := hX.r
  obtain ⟨a7, ha7⟩ : ∃ a, X.a7 = a := ⟨_, rfl⟩
  rw [ha7] at hXr
  have HXr := Lib.hid hXr
  have Ha7 := Lib.hid ha7
  have HV := Lib.hid hV
  have HNN := Lib.hid hN
  have HNs := Lib.hid hNs
  have HPl := Lib.hid hP
  rw [ha7]
  clear hX hV hN hNs hP hXr ha7
  go_enter Try.func20, Try.ntmps20
  go_wp2_with fail
  have hX0 : Box ((w.alloc (.cells #[.string X.nm, .slice X.a1 X.l1 X.c1, .int .i64 X.cl, .slice X.a3 X.l3 X.c3, .slice X.a4 X.l4 X.c4, .slice X.a5 X.T.length X.c5, .slice X.a6 X.l6 X.c6, .slice a7 X.R.length X.c7, .slice X.a8 X.S.length X.c8, .slice X.a9 X.l9 X.c9, .int .i64 X.er] 31)).alloc (.cells (zeros (.slice none 0 0) N) 27)) w.heap.size #[.string X.nm, .slice X.a1 X.l1 X.c1, .int .i64 X.cl, .slice X.a3 X.l3 X.c3, .slice X.a4 X.l4 X.c4, .slice X.a5 X.T.length X.c5, .slice X.a6 X.l6 X.c6, .slice a7 X.R.length X.c7, .slice X.a8 X.S.length X.c8, .slice X.a9 X.l9 X.c9, .int .i64 X.er] 31 := (Box.new w _ _).keep (Below.heap_alloc _ _ _ (by simp))
  have hT0 : TabRows ((w.alloc (.cells #[.string X.nm, .slice X.a1 X.l1 X.c1, .int .i64 X.cl, .slice X.a3 X.l3 X.c3, .slice X.a4 X.l4 X.c4, .slice X.a5 X.T.length X.c5, .slice X.a6 X.l6 X.c6, .slice a7 X.R.length X.c7, .slice X.a8 X.S.length X.c8, .slice X.a9 X.l9 X.c9, .int .i64 X.er] 31)).alloc (.cells (zeros (.slice none 0 0) N) 27)) (w.heap.size + 2) (w.heap.size + 1) N roadC 7 56 (fun _ => .slice none 0 0) (fun _ => []) := by
    have := TabRows.made (w.alloc (.cells #[.string X.nm, .slice X.a1 X.l1 X.c1, .int .i64 X.cl, .slice X.a3 X.l3 X.c3, .slice X.a4 X.l4 X.c4, .slice X.a5 X.T.length X.c5, .slice X.a6 X.l6 X.c6, .slice a7 X.R.length X.c7, .slice X.a8 X.S.length X.c8, .slice X.a9 X.l9 X.c9, .int .i64 X.er] 31)) N roadC 7 56 27
    simpa using this
  have hB0 : Below w.heap.size w ((w.alloc (.cells #[.string X.nm, .slice X.a1 X.l1 X.c1, .int .i64 X.cl, .slice X.a3 X.l3 X.c3, .slice X.a4 X.l4 X.c4, .slice X.a5 X.T.length X.c5, .slice X.a6 X.l6 X.c6, .slice a7 X.R.length X.c7, .slice X.a8 X.S.length X.c8, .slice X.a9 X.l9 X.c9, .int .i64 X.er] 31)).alloc (.cells (zeros (.slice none 0 0) N) 27)) := ((Below.refl _ _).alloc (Nat.le_refl _) _).alloc (by simp) _
  replace hX0 := Lib.hid hX0
  replace hT0 := Lib.hid hT0
  clear mk1
  go_loopw [32] (fun kv wr => ∃ k V, k ≤ X.R.length ∧ kv = .int .i64 (k : Nat) ∧ TabRows wr (w.heap.size + 2) (w.heap.size + 1) N roadC 7 56 V (fun v => fromL N X.l3 (X.R.take k) v) ∧ Box wr w.heap.size #[.string X.nm, .slice X.a1 X.l1 X.c1, .int .i64 X.cl, .slice X.a3 X.l3 X.c3, .slice X.a4 X.l4 X.c4, .slice X.a5 X.T.length X.c5, .slice X.a6 X.l6 X.c6, .slice a7 X.R.length X.c7, .slice X.a8 X.S.length X.c8, .slice X.a9 X.l9 X.c9, .int .i64 X.er] 31 ∧ Below w.heap.size w wr) (fun kv _ => X.R.length - (intOf kv).toNat)
  case atStart => exact ⟨0, _, Nat.zero_le _, rfl, hT0.out, hX0.out, hB0⟩
  case round =>
    clear hX0 hT0 hB0
    obtain ⟨k, V, hk, rfl, hT, hBx, hBw⟩ := hrel
    by_cases hlt : k < X.R.length
    · obtain ⟨r, hr⟩ := road_cell HXr.out hlt
      obtain ⟨b, off, ea, hb, c0, c1, c2, c3, c4, c5, c6⟩ := road_at (HXr.out.below hBw) hr
      have hbw : b < wr.heap.size := by have := hBw.size; omega
      subst ea
      obtain ⟨x0, x1, x2, x3, x4, x5, x6, x7, x8, x9, x10⟩ : _ ∧ _ ∧ _ ∧ _ ∧ _ ∧ _ ∧ _ ∧ _ ∧ _ ∧ _ ∧ _ := ⟨hBx.cell (j := 0) rfl, hBx.cell (j := 1) rfl, hBx.cell (j := 2) rfl, hBx.cell (j := 3) rfl, hBx.cell (j := 4) rfl, hBx.cell (j := 5) rfl, hBx.cell (j := 6) rfl, hBx.cell (j := 7) rfl, hBx.cell (j := 8) rfl, hBx.cell (j := 9) rfl, hBx.cell (j := 10) rfl⟩
      have hwz := hBx.lt
      have hTz := hT.lt
      have HT := Lib.hid hT
      have HBx := Lib.hid hBx
      have Hr := Lib.hid hr
      obtain ⟨u, hu⟩ : ∃ u, usableB X.N X.l3 r = u := ⟨_, rfl⟩
      have Hu := Lib.hid hu
      have K1r := Lib.hid (K1.out r)
      unfold UsIs at K1r
      rw [hu, Ha7.out] at K1r
      clear hT hBx hr hu
      cases u
      · go_wp2_with (first | (go_at_call 22; (with_reducible refine (K1r.out _).mono ?_); rintro e1 w1 ⟨rfl, hb1⟩; replace hb1 := Lib.hid hb1) | fail)
        have hb2 : Below wr.heap.size wr w1 := ((Below.refl wr.heap.size wr).alloc (Nat.le_refl _) _).trans (hb1.out.mono (by simp))
        go_roundw
        case rel => exact ⟨k + 1, V, by omega, by go_num, (HT.out.below hb2).congr fun v hv => by rw [take_snoc_at Hr.out, fromL_snoc, if_neg (fun q => by have := Hu.out; rw [← HNN.out, q.1] at this; cases this)], HBx.out.below hb2 hwz, hBw.trans (hb2.mono (by omega))⟩
        case measure => simp [intOf]; omega
      · go_wp2_with (first | (go_at_call 22; (with_reducible refine (K1r.out _).mono ?_); rintro e1 w1 ⟨rfl, hb1⟩; replace hb1 := Lib.hid hb1) | fail)
        have hb2 : Below wr.heap.size wr w1 := ((Below.refl wr.heap.size wr).alloc (Nat.le_refl _) _).trans (hb1.out.mono (by simp))
        have hBr : Box w1 wr.heap.size (roadC r).toArray 56 := (Box.new wr (roadC r).toArray 56).below hb1.out (by simp)
        obtain ⟨y0, y1, y2, y3, y4, y5, y6⟩ := hBr.road
        have hz1 := hBr.lt
        obtain ⟨u1, u2, u3, u4, u5, u6, u7, u8⟩ := usable_iff.1 Hu.out
        rw [← HNN.out] at u2 u4
        obtain ⟨i, hfi⟩ := Int.eq_ofNat_of_zero_le u1
        have hiN : i < N := by omega
        have hT1 := HT.out.below hb2
        have hBw1 := hBw.trans (hb2.mono (by omega))
        obtain ⟨t1, t2⟩ := hT1.arr i hiN
        have hrow := hT1.row i hiN
        obtain ⟨o, cc, hVi, _⟩ := ad_of_owns hrow
        rw [hVi] at t1 hrow
        have ho := fun k e => hrow.lt k (by rw [ad_block]; exact e)
        have n0 : some (w.heap.size + 1) ≠ o := fun e => by have := ho _ e.symm; omega
        have n1 : some wr.heap.size ≠ o := fun e => by have := (HT.out.row i hiN).lt wr.heap.size (by rw [hVi, ad_block]; exact e.symm); omega
        have hlt1 : w.heap.size + 1 < w1.heap.size := by omega
        have hln := fromL_len N X.l3 (X.R.take k) i
        have hln2 : (X.R.take k).length ≤ 1000 := by rw [List.length_take]; omega
        obtain ⟨A, hA⟩ : ∃ A, A = fromL N X.l3 (X.R.take k) i := ⟨_, rfl⟩
        rw [← hA] at hrow t1 hln
        have hAb : A.length ≤ 1000 := by omega
        have HA := Lib.hid hA
        have HVi := Lib.hid hVi
        have Hrow := Lib.hid hrow
        have HT1 := Lib.hid hT1
        have HBr := Lib.hid hBr
        have Hfi := Lib.hid hfi
        clear hA hVi hrow hT1 hBr ho u1 u2 u3 u4 u5 u6 u7 u8 c0 c1 c2 c3 c4 c5 c6 x0 x1 x2 x3 x4 x5 x6 x7 x8 x9 x10 hln hln2 hfi
        rw [Hfi.out] at y1
        clear K1r
        refine Plan.wp_region_plan (fun wx => w1.grownBy wx o) 12 [(0, true), (1, true), (2, true), (3, true), (4, true), (5, true), (6, true), (7, true), (8, true), (9, false), (10, false), (11, true), (12, false)] (by kernel_rfl) (by kernel_rfl) (Plan.grown_drew _ _) ?_
        (repeat (first | (refine Plan.plan_read (v := ?_) rfl rfl ?_ ?_; rotate_left; (focus ((intro wS hSw; have hkS := Plan.grown_cells hSw; go_simp); try with_reducible rfl)); simp only [Act.put, List.setIfInBounds_toArray, List.set_cons_zero, List.set_cons_succ]) | (refine Plan.plan_skip rfl rfl ?_; simp only [Act.put, List.setIfInBounds_toArray, List.set_cons_zero, List.set_cons_succ])))
        (refine Plan.plan_write rfl (fun K hK => ?_); try go_simp)
        refine hK.out _ _ (Plan.grown_alloc (Plan.grown_drew _ _) _) ?_
        clear hK K
        try simp only [Act.put, List.setIfInBounds_toArray, List.set_cons_zero, List.set_cons_succ]
        refine Plan.plan_write rfl (fun K hK => ?_)
        refine step_append_any _ (by rfl) _ _ 27 (by rfl) (w.heap.size + 2) 56 i2 _ 7 64 Try.underlying27 ri rz0 rz1 rz2 rfl (by omega) _ A.length _ (by rfl) ((Hrow.out.alloc _).drew) (_ + 1) (some ⟨w1.heap.size, 0, none⟩) 1 1 [.string r.nm, .int .i64 (i : Int), .int .i64 r.to_, .int .i64 r.hours, .int .i64 r.flow, .int .i64 r.by_, .int .i64 r.limit] (by rfl) ⟨rfl, fun _ => ⟨_, rfl, Nat.lt_succ_self _, cells_at (by rfl) _ _⟩⟩ (fun u hu => ?_) (by unfold maxLen; omega) (by omega) (by simp; omega) ?_
        · simp at hu
          rcases hu with rfl | rfl | rfl | rfl | rfl | rfl | rfl <;> rfl
        intro v' w3 hO3 hG3 hob3
        obtain ⟨o3, c3, hv3, _⟩ := ad_of_owns hO3
        subst hv3
        rw [ad_block, ad_block] at hob3
        rw [ad_block] at hG3
        have hG := Plan.grown_go (Plan.grown_alloc (Plan.grown_drew _ _) _) hG3
        refine hK.out _ _ hG ?_
        clear hK K
        try simp only [Act.put, List.setIfInBounds_toArray, List.set_cons_zero, List.set_cons_succ]
        have z0 := (Plan.grown_cells hG (w.heap.size + 1) i hlt1 n0).trans t1
        have z1 := (World.frozen?_of_block (a := ⟨w.heap.size + 1, i, none⟩) (hG.block (w.heap.size + 1) hlt1 n0)).trans t2
        replace hO3 := Lib.hid hO3
        (repeat (first | (refine Plan.plan_read (v := ?_) rfl rfl ?_ ?_; rotate_left; (focus ((intro wS hSw; have hkS := Plan.grown_cells hSw; go_simp); try with_reducible rfl)); simp only [Act.put, List.setIfInBounds_toArray, List.set_cons_zero, List.set_cons_succ]) | (refine Plan.plan_skip rfl rfl ?_; simp only [Act.put, List.setIfInBounds_toArray, List.set_cons_zero, List.set_cons_succ])))
        (refine Plan.plan_last rfl (fun K hK => ?_); go_simp; refine hK.out _ _ ?_; clear hK K; try simp only [Act.put, List.setIfInBounds_toArray, List.set_cons_zero, List.set_cons_succ])
        go_wp2_with fail
        have hT3 := HT1.out.store (x := i) (v' := .slice (ad o3) (A.length + 1) c3) (L' := A ++ [r]) hiN (by rw [HVi.out, ad_block]; exact hG) (by rw [List.length_append, List.length_singleton, List.flatMap_append, List.flatMap_cons, List.flatMap_nil, List.append_nil]; have := hO3.out; rw [← Hfi.out] at this; exact this) (fun q e => by
          rw [HVi.out, ad_block]
          rw [ad_block] at e
          rcases hob3 with h | h
          · exact .inl (h.symm.trans e)
          · rw [e] at h; have h := Option.some.inj h; right; rw [h]; simp)
        go_roundw
        case rel =>
          have hxne : some w.heap.size ≠ o := fun e => by have := ((HT.out.row i hiN).lt w.heap.size (by rw [HVi.out, ad_block]; exact e.symm)).1; omega
          refine ⟨k + 1, _, by omega, by go_num, hT3.congr fun v hv => ?_, ((HBx.out.below hb2 hwz).keep (hG.block _ (by omega) hxne)).keep (Below.heap_setCell _ _ _ _ (show w.heap.size ≠ w.heap.size + 1 by omega)), (hBw1.grown hG (by omega) (fun q e => by have := ((HT.out.row i hiN).lt q (by rw [HVi.out, ad_block]; exact e)).1; omega)).setCell (p := ⟨w.heap.size + 1, i, none⟩) (by show w.heap.size ≤ w.heap.size + 1; omega) _⟩
          rw [take_snoc_at Hr.out, fromL_snoc]
          have hfn : r.frm.toNat = i := by rw [Hfi.out]; rfl
          by_cases e : v = i
          · rw [if_pos e, if_pos ⟨by rw [HNN.out]; exact Hu.out, by rw [e]; exact hfn⟩, HA.out, e]
          · rw [if_neg e, if_neg (fun q => e (q.2.symm.trans hfn))]
        case measure => simp [intOf]; omega
    · obtain rfl : k = X.R.length := by omega
      have hT2 : TabRows wr (w.heap.size + 2) (w.heap.size + 1) N roadC 7 56 V (fromL N X.l3 X.R) := by
        have := hT
        rw [List.take_length] at this; exact this
      obtain ⟨wo, hwo⟩ : ∃ x, x = wr := ⟨_, rfl⟩
      rw [← hwo] at hT2 hBx hBw ⊢
      obtain ⟨M1, hM1⟩ : ∃ x, x = wo.heap.size := ⟨_, rfl⟩
      have HM1 := Lib.hid hM1
      have hM1w : w.heap.size + 1 < M1 := by have := hT2.lt; omega
      replace hT2 := Lib.hid hT2
      replace hBx := Lib.hid hBx
      clear hT hlt hk hwo hM1
      go_wp2_with fail
      rw [← HM1.out]
      have hA0 : Arr (wo.alloc (.cells (zeros (.int .i64 0) N) 3)) M1 N (fun j => .int .i64 0) := by have := Arr.made wo (.int .i64 0) N 3; rw [← HM1.out] at this; exact this
      have hB1 : Below M1 wo (wo.alloc (.cells (zeros (.int .i64 0) N) 3)) := by rw [HM1.out]; exact (Below.refl _ _).alloc (Nat.le_refl _) _
      have hz1 : M1 < (wo.alloc (.cells (zeros (.int .i64 0) N) 3)).heap.size := by simp; have := HM1.out; omega
      replace hA0 := Lib.hid hA0
      clear mk2
      go_loopw [56] (fun kv wr => ∃ k, k ≤ N ∧ kv = .int .i64 (k : Nat) ∧ Arr wr M1 N (fun j => .int .i64 (if j < k then -1 else 0)) ∧ Below M1 wo wr ∧ M1 < wr.heap.size) (fun kv _ => N - (intOf kv).toNat)
      case atStart => exact ⟨0, Nat.zero_le _, rfl, hA0.out, hB1, hz1⟩
      case round =>
        clear hA0 hB1 hz1
        obtain ⟨k, hk, rfl, hA, hB, hz⟩ := hrel
        by_cases hlt : k < N
        · obtain ⟨a1, a2⟩ := hA k hlt
          have HA := Lib.hid hA
          clear hA
          go_wp2_with fail
          go_roundw
          case rel => exact ⟨k + 1, by omega, by go_num, (HA.out.set hlt (.int .i64 (-1))).congr fun j hj => by
            unfold updF
            by_cases e : j = k
            · rw [if_pos e, if_pos (by omega)]
            · rw [if_neg e]; show Value.int _ _ = Value.int _ _; by_cases e2 : j < k
              · rw [if_pos e2, if_pos (by omega)]
              · rw [if_neg e2, if_neg (by omega)], hB.setCell (p := ⟨M1, k, none⟩) (Nat.le_refl _) _, by simpa using hz⟩
          case measure => simp [intOf]; omega
        · obtain rfl : N = k := by omega
          have hA2 : Arr wr M1 N (fun j => .int .i64 ((List.replicate N (-1 : Int)).getD j (-1))) := hA.congr fun j hj => by
            show Value.int _ _ = Value.int _ _
            rw [if_pos hj, List.getD_eq_getElem?_getD, List.getElem?_replicate, if_pos hj]; rfl
          obtain ⟨w5, hw5⟩ : ∃ x, x = wr := ⟨_, rfl⟩
          rw [← hw5] at hA2 hB hz ⊢
          obtain ⟨M2, hM2⟩ : ∃ x, x = w5.heap.size := ⟨_, rfl⟩
          have HM2 := Lib.hid hM2
          have hM12 : M1 < M2 := by omega
          replace hA2 := Lib.hid hA2
          clear hA hlt hk hw5 hM2
          go_wp2_with fail
          rw [← HM2.out]
          obtain ⟨w6, hw6⟩ : ∃ x, x = (w5.alloc (.cells #[.int .i64 0, .int .i64 town] 79)).alloc (.cells #[.slice (some ⟨M2, 0, none⟩) 1 1] 81) := ⟨_, rfl⟩
          rw [← hw6]
          have hH0 : HeapAt w6 M2 (M2 + 1) (some M2) 1 [(0, town)] := by
            have hz5 : (w5.alloc (.cells #[.int .i64 0, .int .i64 town] 79)).heap.size = M2 + 1 := by rw [HM2.out]; simp
            refine ⟨?_, ?_, by simp⟩
            · have := Box.new (w5.alloc (.cells #[.int .i64 0, .int .i64 town] 79)) #[.slice (some ⟨M2, 0, none⟩) 1 1] 81
              rw [hz5, ← hw6] at this; exact this
            · have := World.ownsRow_lit (base := M2) (e := 79) (size := 2) w5 #[.int .i64 0, .int .i64 town] 1 (by rw [HM2.out]; exact Nat.le_refl _) (by decide) (by simp)
              rw [← HM2.out] at this
              have := this.alloc (.cells #[.slice (some ⟨M2, 0, none⟩) 1 1] 81)
              rw [← hw6] at this; exact this
          have hB6 : Below M1 wo w6 := by rw [hw6]; exact (hB.alloc (by have := HM2.out; omega) _).alloc (by simp; have := HM2.out; omega) _
          have hA6 : Arr w6 M1 N (fun j => .int .i64 ((List.replicate N (-1 : Int)).getD j (-1))) := by rw [hw6]; exact (hA2.out.alloc (by have := HM2.out; omega) _).alloc (by simp; have := HM2.out; omega) _
          have hz6 : M2 + 1 < w6.heap.size := hH0.box.lt
          clear hw6 hB hz
          have hVS : Hid ((vsOf L).length = L.length) := vsOf_len L
          have KPop := Lib.hid (fun (o : Option Nat) (c : Nat) (Q : List (Nat × Nat)) (n : Nat) (wx : World) (h : HeapAt wx M2 (M2 + 1) o c Q) (hq : Heap Q Q.length) (hn : Q.length = n + 1) (hm : Q.length ≤ 20000) => pop_any M2 (M2 + 1) o c Q n wx h hq hn (by omega))
          have KPush := Lib.hid (fun (o : Option Nat) (c : Nat) (Q : List (Nat × Nat)) (p : Nat × Nat) (wx : World) (h : HeapAt wx M2 (M2 + 1) o c Q) (hq : Heap Q Q.length) (hm : Q.length ≤ 20000) => push_any M2 (M2 + 1) o c Q p wx h hq (by omega) (by have := h.box.lt; omega))
          have KLen := Lib.hid (fun (o : Option Addr) (n c : Nat) (wx : World) (hn : n ≤ 20000) => len_any o n c wx (by omega))
          go_loopg [] (N * (X.R.length + 1) + 1) (fun g wr => ∃ (D : List Int) (Q : List (Nat × Nat)) (o : Option Nat) (cq : Nat), Dij N X.l3 (vsOf L) X.R town D Q [] ∧ Heap Q Q.length ∧ HeapAt wr M2 (M2 + 1) o cq Q ∧ Arr wr M1 N (fun j => .int .i64 (D.getD j (-1))) ∧ Below M1 wo wr ∧ (∀ p ∈ Q, p.1 ≤ 1000 + 24 * (N - und D)) ∧ und D * (X.R.length + 1) + Q.length ≤ g ∧ g ≤ 10101)
          case atStart =>
            refine ⟨_, _, _, _, .begin N X.l3 (vsOf L) X.R town htN, fun k h0 h1 => by simp at h1; omega, hH0, hA6, hB6, fun p hp => ?_, ?_, ?_⟩
            · obtain rfl := List.mem_singleton.1 hp; omega
            · have hu := und_le (List.replicate N (-1))
              rw [List.length_replicate] at hu
              have := Nat.mul_le_mul_right (X.R.length + 1) hu
              simp; omega
            · have := Nat.mul_le_mul hNb (show X.R.length + 1 ≤ 101 by omega); omega
          case round =>
            clear hH0 hA6 hB6 hz6 hA2
            obtain ⟨D, Q, o, cq, hD, hQ, hH, hA, hB, hbnd, hg, hgg⟩ := hrel
            have hql : Q.length ≤ 20000 := by omega
            obtain ⟨q, hq⟩ : ∃ q, q = Q.length := ⟨_, rfl⟩
            have hbox := hH.box
            have hc : wr.cell? ⟨M2 + 1, 0, none⟩ = some (.slice (ad o) Q.length cq) := hbox.cell rfl
            rw [← hq] at hc hql
            have Hq := Lib.hid hq
            have hrb := hH.row
            have ho := fun k e => hrb.lt k (by rw [ad_block]; exact e)
            have HD := Lib.hid hD
            have HQ := Lib.hid hQ
            have HH := Lib.hid hH
            have HA := Lib.hid hA
            have Hbnd := Lib.hid hbnd
            have Hg := Lib.hid hg
            have Ho := Lib.hid ho
            have hM1z : M1 < wr.heap.size := by have := hbox.lt; omega
            have hM2z : M2 + 1 < wr.heap.size := hbox.lt
            clear hD hQ hH hA hbnd hg ho hq hrb hbox
            by_cases h0 : q = 0
            · subst h0
              have hnil : Q = [] := List.eq_nil_of_length_eq_zero Hq.out.symm
              go_wp2_with (first | (go_at_call 36; (with_reducible refine (KLen.out _ _ _ _ (by omega)).mono ?_); rintro e1 w1 ⟨rfl, rfl⟩) | fail)
              go_ret
              refine ⟨M1, by rw [← HNN.out]; rfl, fun j hj => ?_, by omega, hM1z, hBw.trans (hB.mono (by omega))⟩
              have hD' := HD.out
              rw [hnil] at hD'
              rw [← HNN.out] at hj ⊢
              have hfd := hD'.found htN j hj
              rw [(HA.out j hj).1]
              dsimp only
              rw [hfd]
            · obtain ⟨n, hn⟩ : ∃ n, q = n + 1 := ⟨q - 1, by omega⟩
              have hq0 : 0 < q := by omega
              go_upto_region 18 with (first | (go_at_call 36; (with_reducible refine (KLen.out _ _ _ _ (by omega)).mono ?_); rintro e1 w1 ⟨rfl, rfl⟩) | (go_at_call 37; (with_reducible refine (KPop.out o cq Q n _ HH.out HQ.out (by rw [← Hq.out]; exact hn) (by rw [← Hq.out]; exact hql)).mono ?_); rintro e1 w1 ⟨p, Q1, rfl, hH1, hP1, hl1, hin, hmin, hsub, hsup, hK1⟩; replace hH1 := Lib.hid hH1; replace hP1 := Lib.hid hP1; replace hl1 := Lib.hid hl1; replace hin := Lib.hid hin; replace hmin := Lib.hid hmin; replace hsub := Lib.hid hsub; replace hsup := Lib.hid hsup; replace hK1 := Lib.hid hK1) | fail)
              have hpn : p.2 < N := at_lt htN (HD.out.inq p hin.out)
              have hM1n : ¬ hS (M2 + 1) o M1 := fun e => by
                rcases e with e | e
                · omega
                · have := Ho.out M1 e; omega
              have hA1 : Arr w1 M1 N (fun j => .int .i64 (D.getD j (-1))) := HA.out.keep (hK1.out.block M1 hM1z hM1n)
              have hB1 : Below M1 wo w1 := hB.trans (hK1.out.below (by omega) (fun k e => by
                rcases e with e | e
                · omega
                · have := Ho.out k e; omega))
              have hz1 : wr.heap.size ≤ w1.heap.size := hK1.out.size
              obtain ⟨w2, hw2⟩ : ∃ x, x = w1.alloc (.cells #[.int .i64 p.1, .int .i64 p.2] 79) := ⟨_, rfl⟩
              rw [← hw2]
              have hbv : Box w2 w1.heap.size #[.int .i64 p.1, .int .i64 p.2] 79 := by rw [hw2]; exact Box.new _ _ _
              have v0 : w2.cell? ⟨w1.heap.size, 0, none⟩ = some (.int .i64 p.1) := hbv.cell rfl
              have v1 : w2.cell? ⟨w1.heap.size, 1, none⟩ = some (.int .i64 p.2) := hbv.cell rfl
              have hA2 : Arr w2 M1 N (fun j => .int .i64 (D.getD j (-1))) := by rw [hw2]; exact hA1.alloc (by omega) _
              have hB2 : Below M1 wo w2 := by rw [hw2]; exact hB1.alloc (by omega) _
              have hH2 : HeapAt w2 M2 (M2 + 1) o cq Q1 := by rw [hw2]; exact hH1.out.below ((Below.refl _ _).alloc (Nat.le_refl _) _)
              have hob : o ≠ some w1.heap.size := fun e => by have := (Ho.out _ e).2; omega
              obtain ⟨a1, a2⟩ := hA2 p.2 hpn
              dsimp only at a1
              obtain ⟨d, hd⟩ : ∃ d, d = D.getD p.2 (-1) := ⟨_, rfl⟩
              rw [← hd] at a1
              have Hd := Lib.hid hd
              obtain ⟨bv, hbve⟩ : ∃ x, x = w1.heap.size := ⟨_, rfl⟩
              rw [← hbve] at hbv v0 v1 hob ⊢
              have hbvz : M2 + 1 < bv := by omega
              have hbvl := hbv.lt
              have HA2 := Lib.hid hA2
              have HH2 := Lib.hid hH2
              have HBV := Lib.hid hbv
              have Hob := Lib.hid hob
              have hgk : 0 < gk := by have := Hg.out; have := Hq.out; omega
              have hl1' : Q1.length = n := by have := hl1.out; have := Hq.out; omega
              have Hl1 := Lib.hid hl1'
              clear hd hw2 hA1 hA2 hB1 hH2 hbv hob hbve hl1' hz1
              by_cases hd0 : 0 ≤ d
              · go_wp2_with fail
                go_roundg (gk - 1)
                case measure => omega
                case rel => exact ⟨D, Q1, o, cq, HD.out.skip hsub.out hsup.out (by rw [← Hd.out]; exact hd0), hP1.out, HH2.out, HA2.out, hB2, fun q hq => Hbnd.out q (hsub.out q hq), by have := Hg.out; have := Hq.out; have := Hl1.out; omega, by omega⟩
              · obtain ⟨hTk, hIs⟩ := HD.out.take htN hin.out hmin.out hsub.out hsup.out (by rw [← Hd.out]; omega)
                have hdl : D.length = N := HD.out.len
                have hus := und_set D p.2 (p.1 : Int) (by omega) (by rw [← Hd.out]; omega) (by omega)
                have hul := und_le D
                obtain ⟨D2, hD2⟩ : ∃ x, x = D.set p.2 (p.1 : Int) := ⟨_, rfl⟩
                rw [← hD2] at hTk hus
                have HD2 := Lib.hid hD2
                have hpb : p.1 ≤ 1000 + 24 * (N - und D) := Hbnd.out p hin.out
                have hbnd2 : ∀ q ∈ Q1, q.1 ≤ 1000 + 24 * (N - und D2) := fun q hq => by have := Hbnd.out q (hsub.out q hq); omega
                obtain ⟨C1, c1, hV1, hR1⟩ := hT2.out.read roadC_len hpn
                obtain ⟨q1, q2⟩ := hT2.out.arr p.2 hpn
                rw [hV1] at q1
                have r1 : w2.cell? ⟨w.heap.size + 1, p.2, none⟩ = some (.slice C1 (fromL N X.l3 X.R p.2).length c1) := (hB2.cell (p := ⟨w.heap.size + 1, p.2, none⟩) (by show w.heap.size + 1 < M1; omega)).trans q1
                have hFl := fromL_len N X.l3 X.R p.2
                obtain ⟨F, hF⟩ : ∃ F, F = fromL N X.l3 X.R p.2 := ⟨_, rfl⟩
                rw [← hF] at r1 hR1 hFl
                have HF := Lib.hid hF
                have HTk := Lib.hid hTk
                have Hus := Lib.hid hus
                have Hbnd2 := Lib.hid hbnd2
                have HR1 := Lib.hid hR1
                have hFb : F.length ≤ 100 := by omega
                have hpb2 : p.1 ≤ 10000 := by omega
                clear hTk hus hbnd2 hR1 hF hD2 q1 q2 hV1 hdl hul hIs
                go_wp2_with fail
                have hA3 : Arr (w2.setCell ⟨M1, p.2, none⟩ (.int .i64 p.1)) M1 N (fun j => .int .i64 (D2.getD j (-1))) := (HA2.out.set hpn (.int .i64 p.1)).congr fun j hj => by
                  have hdl : D.length = N := HD.out.len
                  unfold updF
                  rw [HD2.out, getD_set]
                  by_cases e : j = p.2
                  · rw [if_pos e, if_pos ⟨e.symm, by omega⟩]
                  · rw [if_neg e, if_neg (fun q => e q.1.symm)]
                have hM1b : M1 ≠ bv := by omega
                have hH3 : HeapAt (w2.setCell ⟨M1, p.2, none⟩ (.int .i64 p.1)) M2 (M2 + 1) o cq Q1 := HH2.out.keep (Below.heap_setCell _ _ _ _ (show M2 + 1 ≠ M1 by omega)) fun g e => Below.heap_setCell _ _ _ _ (show g ≠ M1 by have := Ho.out g e; omega)
                have hBV3 : Box (w2.setCell ⟨M1, p.2, none⟩ (.int .i64 p.1)) bv #[.int .i64 p.1, .int .i64 p.2] 79 := HBV.out.keep (Below.heap_setCell _ _ _ _ (Ne.symm hM1b))
                have hB3 : Below M1 wo (w2.setCell ⟨M1, p.2, none⟩ (.int .i64 p.1)) := hB2.setCell (p := ⟨M1, p.2, none⟩) (Nat.le_refl _) _
                have hz3 : bv < (w2.setCell ⟨M1, p.2, none⟩ (.int .i64 p.1)).heap.size := by simpa using hbvl
                clear a1 a2 v0 v1 r1 hB2 hbvl hc
                replace hA3 := Lib.hid hA3
                replace hH3 := Lib.hid hH3
                replace hBV3 := Lib.hid hBV3
                generalize w2.setCell ⟨M1, p.2, none⟩ (.int .i64 p.1) = w3 at hA3 hH3 hBV3 hB3 hz3 ⊢
                have KDep := Lib.hid (fun (r : Rd) (h1 : 1 ≤ r.hours) (h2 : r.hours ≤ 24) (h3 : -1 ≤ r.by_) (wx : World) (h : Below w.heap.size w wx) => departure_any r C c L p.1 wx ((HV.out.below h).more h.size) (by omega) (by omega) h1 h2 h3)
                go_loopw [101] (fun kv wq => ∃ (k : Nat) (Q : List (Nat × Nat)) (o : Option Nat) (cq : Nat), k ≤ F.length ∧ kv = .int .i64 k ∧ Dij N X.l3 (vsOf L) X.R town D2 Q (F.drop k) ∧ Heap Q Q.length ∧ HeapAt wq M2 (M2 + 1) o cq Q ∧ Arr wq M1 N (fun j => .int .i64 (D2.getD j (-1))) ∧ Below M1 wo wq ∧ (∀ q ∈ Q, q.1 ≤ 1000 + 24 * (N - und D2)) ∧ Q.length ≤ n + k ∧ Box wq bv #[.int .i64 p.1, .int .i64 p.2] 79 ∧ o ≠ some bv) (fun kv _ => F.length - (intOf kv).toNat)
                case atStart => exact ⟨0, Q1, o, cq, Nat.zero_le _, rfl, by rw [List.drop_zero, HF.out]; exact HTk.out, hP1.out, hH3.out, hA3.out, hB3, Hbnd2.out, by have := Hl1.out; omega, hBV3.out, Hob.out⟩
                case round =>
                  clear hA3 hH3 hBV3 hB3 hz3 HA2 HH2 HBV Ho Hob Hbnd HD HQ HH HA hP1 hH1 hl1 hin hmin hsub hsup hK1 hM1z hM2z
                  obtain ⟨k, Q, o, cq, hk, rfl, hD, hQ, hH, hA, hB, hbnd, hql, hBV, hob⟩ := hrel
                  by_cases hlt : k < F.length
                  · obtain ⟨r, hr⟩ : ∃ r, F[k]? = some r := ⟨_, List.getElem?_eq_getElem hlt⟩
                    have hrm : r ∈ fromL N X.l3 X.R p.2 := by rw [← HF.out]; exact List.mem_of_getElem? hr
                    obtain ⟨hrR, hrb⟩ := List.mem_filter.1 hrm
                    simp only [Bool.and_eq_true, beq_iff_eq] at hrb
                    obtain ⟨hru, hrf⟩ := hrb
                    obtain ⟨u1, u2, u3, u4, u5, u6, u7, u8⟩ := usable_iff.1 hru
                    have hwz1 : wo.heap.size = M1 := HM1.out.symm
                    obtain ⟨b1, off1, ec, hb1, c0, c1x, c2, c3, c4, c5, c6⟩ := road_at (RowAt.below (by rw [hwz1] at HR1; exact HR1.out) hB) hr
                    subst ec
                    obtain ⟨j, hj⟩ := Int.eq_ofNat_of_zero_le u3
                    have hjN : j < N := by omega
                    have hjt : r.to_.toNat = j := by omega
                    obtain ⟨a1, a2⟩ := hA j hjN
                    dsimp only at a1
                    rw [← hjt] at a1 a2
                    obtain ⟨d2, hd2⟩ : ∃ d, d = D2.getD r.to_.toNat (-1) := ⟨_, rfl⟩
                    rw [← hd2] at a1
                    have v0 : wr.cell? ⟨bv, 0, none⟩ = some (.int .i64 p.1) := hBV.cell rfl
                    have v1 : wr.cell? ⟨bv, 1, none⟩ = some (.int .i64 p.2) := hBV.cell rfl
                    have hbvl := hBV.lt
                    have hb1w : b1 < wr.heap.size := by omega
                    have hdrop : F.drop k = r :: F.drop (k + 1) := by rw [List.drop_eq_getElem_cons hlt]; congr 1; exact Option.some.inj ((List.getElem?_eq_getElem hlt).symm.trans hr)
                    rw [hdrop] at hD
                    have hql2 : Q.length ≤ 20000 := by have := Hg.out; have := Hq.out; omega
                    have hNr := Lib.hid (And.intro hjt hd2)
                    have Hru := Lib.hid (And.intro hrR (And.intro hru hrf))
                    have HD := Lib.hid hD
                    have HQ := Lib.hid hQ
                    have HH := Lib.hid hH
                    have HA := Lib.hid hA
                    have Hbnd := Lib.hid hbnd
                    have HBV := Lib.hid hBV
                    have Hob := Lib.hid hob
                    have Hql := Lib.hid hql
                    have hM1z : M1 < wr.heap.size := by omega
                    have hfrb : D2.getD r.frm.toNat (-1) = p.1 := by
                      rw [hrf, HD2.out, getD_set, if_pos ⟨rfl, by have : D2.length = N := hD.len; rw [HD2.out, List.length_set] at this; omega⟩]
                    have Hfrb := Lib.hid hfrb
                    clear hD hQ hH hA hbnd hBV hob hrm hrR hru hrf hdrop hjt hd2 hr hfrb hj hql hwz1
                    by_cases hd0 : 0 ≤ d2
                    · go_wp2_with fail
                      have hb2 := (Below.refl wr.heap.size wr).alloc (Nat.le_refl _) (.cells (roadC r).toArray 56)
                      go_roundw
                      case rel => exact ⟨k + 1, Q, o, cq, by omega, by go_num, HD.out.pass (.inl (by have := hNr.out.2; omega)), HQ.out, HH.out.below hb2, HA.out.below hb2 hM1z, hB.trans (hb2.mono (by omega)), Hbnd.out, by have := Hql.out; omega, HBV.out.below hb2 hbvl, Hob.out⟩
                      case measure => simp [intOf]; omega
                    · have hBb : Below w.heap.size w wr := hBw.trans (hB.mono (by omega))
                      by_cases hs : ∃ s, IsLeave (vsOf L) r p.1 s
                      · obtain ⟨s, hs⟩ := hs
                        have KD : Hid (∀ wx, Below w.heap.size w wx → Calls Try.prog 23 #[.agg #[.string r.nm, .int .i64 r.frm, .int .i64 r.to_, .int .i64 r.hours, .int .i64 r.flow, .int .i64 r.by_, .int .i64 r.limit], .slice C L.length c, .int .i64 p.1] wx fun e w' => e = .returned (.tuple #[.int .i64 s, .bool true]) ∧ Below wx.heap.size wx w') := Lib.hid fun wx h => (KDep.out r u5 u6 u7 wx h).mono fun e w' ⟨hb, h⟩ => by
                          rcases h with ⟨s', h1, h2⟩ | ⟨h1, h2⟩
                          · rw [hs.uniq h1]; exact ⟨h2, hb⟩
                          · exact absurd hs.2.1 (h1 s hs.1)
                        have hsb := hs.bound
                        rw [hVS.out] at hsb
                        obtain ⟨m, hm⟩ : ∃ m, m = s + r.hours.toNat := ⟨_, rfl⟩
                        have hmi : (m : Int) = (s : Int) + r.hours := by omega
                        have hji : (j : Int) = r.to_ := by have := hNr.out.1; omega
                        have KP := Lib.hid (fun (wx : World) (h : HeapAt wx M2 (M2 + 1) o cq Q) => KPush.out o cq Q (m, j) wx h HQ.out hql2)
                        dsimp only at KP
                        rw [hmi, hji] at KP
                        have Hs := Lib.hid hs
                        have Hm := Lib.hid hm
                        have hsb2 : s ≤ 20000 := by omega
                        clear hs hm hmi hji hsb
                        go_wp2_with (first | (go_at_call 23; (with_reducible refine (KD.out _ (hBb.alloc (by omega) _)).mono ?_); rintro e1 w4 ⟨rfl, hb4⟩; have hb5 := ((Below.refl wr.heap.size wr).alloc (Nat.le_refl _) (.cells (roadC r).toArray 56)).trans (hb4.mono (by simp)); have hH4 := Lib.hid (HH.out.below hb5); have hBV4 := HBV.out.below hb5 hbvl; have v3 : w4.cell? ⟨bv, 0, none⟩ = some (.int .i64 p.1) := hBV4.cell rfl; have hBR4 := (Box.new wr (roadC r).toArray 56).below hb4 (by simp); obtain ⟨y0, y1, y2, y3, y4, y5, y6⟩ := hBR4.road; replace hb4 := Lib.hid hb4; replace hb5 := Lib.hid hb5; replace hBV4 := Lib.hid hBV4; clear hBR4) | (go_at_call 38; (with_reducible refine (KP.out _ hH4.out).mono ?_); rintro e2 w5 ⟨rfl, o2, cq2, Q2, hH5, hQ5, hl5, hm5, hK5, ho5⟩; replace hH5 := Lib.hid hH5; replace hQ5 := Lib.hid hQ5; replace hl5 := Lib.hid hl5; replace hm5 := Lib.hid hm5; replace hK5 := Lib.hid hK5; replace ho5 := Lib.hid ho5) | fail)
                        go_roundw
                        case rel =>
                          have hob2 := Hob.out
                          have ho : ∀ g, o = some g → M2 ≤ g := fun g e => (HH.out.row.lt g (by rw [ad_block]; exact e)).1
                          have hz5 := hb5.out.size
                          obtain ⟨hrR, hru, hrf⟩ := Hru.out
                          have hdl : D2.length = N := HD.out.len
                          have hul := und_le D
                          have hdl2 : D.length = N := by rw [HD2.out, List.length_set] at hdl; exact hdl
                          have hus := Hus.out
                          have hjt := hNr.out.1
                          have hpq : (m, j) = (s + r.hours.toNat, r.to_.toNat) := by rw [Hm.out, hjt]
                          refine ⟨k + 1, Q2, o2, cq2, by omega, by go_num, HD.out.push hrR hru htN Hfrb.out Hs.out (fun q hq => ?_) (fun q hq => (hm5.out q).2 (.inl hq)) ((hm5.out _).2 (.inr hpq.symm)), hQ5.out, hH5.out, (HA.out.below hb5.out hM1z).keep (hK5.out.block M1 (by omega) (fun e => ?_)), (hB.trans (hb5.out.mono (by omega))).trans (hK5.out.below (by omega) (fun q e => ?_)), fun q hq => ?_, by have := Hql.out; have := hl5.out; omega, hBV4.out.keep (hK5.out.block bv (by omega) (fun e => ?_)), fun e => ?_⟩
                          · rcases (hm5.out q).1 hq with e | e
                            · exact .inr e
                            · exact .inl (e.trans hpq)
                          · rcases e with e | e
                            · omega
                            · have := ho M1 e; omega
                          · rcases e with e | e
                            · omega
                            · have := ho q e; omega
                          · rcases (hm5.out q).1 hq with e | e
                            · exact Hbnd.out q e
                            · rw [e]
                              show m ≤ _
                              have := Hs.out.bound
                              rw [hVS.out] at this
                              have := Hm.out
                              omega
                          · rcases e with e | e
                            · omega
                            · exact hob2 e
                          · rcases ho5.out bv e with q | q
                            · exact hob2 q
                            · omega
                        case measure => simp [intOf]; omega
                      · have KD : Hid (∀ wx, Below w.heap.size w wx → Calls Try.prog 23 #[.agg #[.string r.nm, .int .i64 r.frm, .int .i64 r.to_, .int .i64 r.hours, .int .i64 r.flow, .int .i64 r.by_, .int .i64 r.limit], .slice C L.length c, .int .i64 p.1] wx fun e w' => e = .returned (.tuple #[.int .i64 0, .bool false]) ∧ Below wx.heap.size wx w') := Lib.hid fun wx h => (KDep.out r u5 u6 u7 wx h).mono fun e w' ⟨hb, h⟩ => by
                          rcases h with ⟨s', h1, h2⟩ | ⟨h1, h2⟩
                          · exact absurd ⟨s', h1⟩ hs
                          · exact ⟨h2, hb⟩
                        have Hs := Lib.hid hs
                        clear hs
                        go_wp2_with (first | (go_at_call 23; (with_reducible refine (KD.out _ (hBb.alloc (by omega) _)).mono ?_); rintro e1 w4 ⟨rfl, hb4⟩; replace hb4 := Lib.hid hb4) | fail)
                        have hb2 := ((Below.refl wr.heap.size wr).alloc (Nat.le_refl _) (.cells (roadC r).toArray 56)).trans (hb4.out.mono (by simp))
                        go_roundw
                        case rel => exact ⟨k + 1, Q, o, cq, by omega, by go_num, HD.out.pass (.inr fun b hb t ht => Hs.out ⟨t, by rw [Hfrb.out] at hb; have e : b = p.1 := (by omega); rw [← e]; exact ht⟩), HQ.out, HH.out.below hb2, HA.out.below hb2 hM1z, hB.trans (hb2.mono (by omega)), Hbnd.out, by have := Hql.out; omega, HBV.out.below hb2 hbvl, Hob.out⟩
                        case measure => simp [intOf]; omega
                  · obtain rfl : F.length = k := by omega
                    rw [List.drop_length] at hD
                    have HD := Lib.hid hD
                    have HQ := Lib.hid hQ
                    have HH := Lib.hid hH
                    have HA := Lib.hid hA
                    have Hbnd := Lib.hid hbnd
                    clear hD hQ hH hA hbnd hBV
                    go_wp2_with fail
                    go_roundg (gk - 1)
                    case measure => omega
                    case rel => exact ⟨D2, Q, o, cq, HD.out, HQ.out, HH.out, HA.out, hB, Hbnd.out, by
                      have h1 := Hg.out; have h2 := Hq.out; have h3 := Hus.out
                      rw [← h3, Nat.succ_mul] at h1
                      omega, by omega⟩
end Go.Proofs.Ytphebdmdbnpokaa
