/- The walk of the reference's Check. -/
import Derived.Test.YtkbceeobnbbfbaaCK0
import Derived.Test.YtkbceeobnbbfbaaV11
set_option linter.unusedSimpArgs false
set_option linter.unusedVariables false
namespace Go.Proofs.Ytkbceeobnbbfbaa
open Go.RowKit CM
attribute [local go_sem] alloc_drewN setCell_drewN shape_drewN

def okI (pl : Pl) (R : List Rt) (S : List Int) (G x : List (Int × Int)) (i : Nat) : Prop :=
  lawfulF pl R G i = true ∧ (shortF pl R G i = true → 0 ≤ stopN pl R S G i ∧ ∀ j ∈ wetF G R.length (i + 1), ((rtN R i).id, (rtN R j).id) ∈ x)
section
variable {pl : Pl} {R : List Rt} {S : List Int} {G x : List (Int × Int)}
theorem chk_yes (h1 : G.length = R.length) (h2 : ∀ i, i < R.length → okI pl R S G x i) (h3 : ∀ q, q < pl.length → 0 ≤ lefW pl R S G R.length q) : chkN pl R S G x = true :=
  chk_iff.2 ⟨h1, fun i hi => (h2 i hi).1, h3, fun i hi => (h2 i hi).2⟩
theorem leftN_eq (hS : ∀ x ∈ S, In64 x) (q : Nat) : leftN pl R S G R.length q = lefW pl R S G R.length q := (leftR_eq (fun p => supF_in hS p) R.length q).1
theorem wetT_mem {i m j : Nat} : j ∈ wetT G i m ↔ j < m ∧ i ≤ j ∧ 0 < gotG G j := by
  unfold wetT
  rw [List.mem_filter, List.mem_range, Bool.and_eq_true, decide_eq_true_eq, wetB_got, decide_eq_true_eq]
theorem lt_succ_all {P : Nat → Prop} {k : Nat} (h : ∀ i, i < k → P i) (hk : P k) : ∀ i, i < k + 1 → P i := fun i hi => by
  by_cases g : i < k
  · exact h i g
  · rw [show i = k by omega]; exact hk
end
set_option maxRecDepth 100000 in
set_option maxHeartbeats 8000000 in
theorem rcheck_any (X : Bas) (pl : Pl) (R : List Rt) (S : List Int) (G x : List (Int × Int)) (C : Option Addr) (cr : Nat) (E : Option Addr) (cs : Nat) (D : Option Addr) (cg : Nat) (Z : Option Addr) (cz : Nat) (w : World) {B : Nat} (hP : PlacesAt w B X.P pl) (hR : RightsAt w B C R) (hE : IntsAt w B E S) (hG : PairsAt w B D G) (hZ : PairsAt w B Z x) (hB : B ≤ w.heap.size)
    (hl : pl.length ≤ 1000000) (hr : R.length ≤ 1000) (hg : G.length ≤ 1000000) (hs : S.length ≤ 9223372036854775807) (hx : x.length ≤ 9223372036854775807) (hS : ∀ x ∈ S, In64 x) :
    Calls Try.prog 21 #[.agg #[.string X.nm, .slice X.a1 X.l1 X.c1, .int .i64 X.cl, .slice X.P pl.length X.cP, .slice X.a4 X.l4 X.c4, .slice X.a5 X.l5 X.c5, .slice X.a6 X.l6 X.c6, .slice X.a7 X.l7 X.c7, .slice X.a8 X.l8 X.c8, .slice X.a9 X.l9 X.c9, .int .i64 X.er], .slice C R.length cr, .slice E S.length cs, .slice D G.length cg, .slice Z x.length cz] w (BoolIs (chkN pl R S G x) w) := by
  by_cases hle : G.length = R.length
  case neg =>
    have hF : Hid (chkN pl R S G x = false) := chk_len hle
    have hl1 : (G.length != R.length) = true := by simp; exact hle
    have hl2 : ((G.length : Int) != (R.length : Int)) = true := by simp; omega
    go_enter Try.func21, Try.ntmps21
    go_wp2_with fail
    go_ret
    exact ⟨ret_bool hF.out.symm, (Below.refl _ _).alloc (Nat.le_refl _) _⟩
  have Hle := Lib.hid hle
  have hl1 : (G.length != R.length) = false := by simp; exact hle
  have hl2 : ((G.length : Int) != (R.length : Int)) = false := by simp; omega
  have K1 := Lib.hid (fun (k : Nat) (wx : World) (h : Below w.heap.size w wx) => rstop_any X pl R S G C cr E cs D cg (k : Int) wx (B := B) (hP.below (h.mono hB)) (hR.below (h.mono hB)) (hE.below (h.mono hB)) (hG.below (h.mono hB)) (by have := h.size; omega) hl (by omega) hg hs hS)
  have K2 := Lib.hid (fun (k : Nat) (wx : World) (hk : k < R.length) (h : Below w.heap.size w wx) => is_any X pl R G C cr D cg k wx (B := B) (hR.below (h.mono hB)) (hG.below (h.mono hB)) (by have := h.size; omega) hl (by omega) hg hk)
  have K3 := Lib.hid (fun (q : Nat) (wx : World) (h : Below w.heap.size w wx) => left_any X pl R S G C cr E cs D cg q wx (B := B) (hP.below (h.mono hB)) (hR.below (h.mono hB)) (hE.below (h.mono hB)) (hG.below (h.mono hB)) (by have := h.size; omega) hl (by omega) hg hs hS)
  have K4 := Lib.hid (fun (a b : Int) (wx : World) (h : Below w.heap.size w wx) => has38_any x Z cz (a, b) wx (B := B) (hZ.below (h.mono hB)) (by have := h.size; omega) hx)
  have HRs := Lib.hid (fun (j : Nat) (r : Rt) (h : R[j]? = some r) => hR.at_ h)
  have HGs := Lib.hid (fun (j : Nat) (r : Int × Int) (h : G[j]? = some r) => hG.at_ h)
  clear hle
  go_enter Try.func21, Try.ntmps21
  go_wp2_with fail
  clear hl1 hl2
  go_loopw [11] (fun i wr => ∃ k : Nat, k ≤ pl.length ∧ i = .int .i64 k ∧ Hid (∀ q, q < k → 0 ≤ lefW pl R S G R.length q) ∧ BoxB wr w.heap.size X pl ∧ Below w.heap.size w wr ∧ w.heap.size + 1 ≤ wr.heap.size) (fun i _ => pl.length - (intOf i).toNat)
  case atStart => exact ⟨0, Nat.zero_le _, rfl, fun q hq => absurd hq (Nat.not_lt_zero _), BoxB.new w X pl, (Below.refl _ _).alloc (Nat.le_refl _) _, by simp⟩
  case round =>
    obtain ⟨k, hk, rfl, hq, hX, hBw, hz⟩ := hrel
    obtain ⟨x0, x1, x2, x3, x4, x5, x6, x7, x8, x9, x10⟩ := hX.cells
    by_cases hlt : k < pl.length
    · have K5 := fun wx h => K3.out k wx h
      unfold IntBe at K5
      rw [leftN_eq hS] at K5
      obtain ⟨V, hV⟩ : ∃ V, lefW pl R S G R.length k = V := ⟨_, rfl⟩
      rw [hV] at K5
      have K5 := Lib.hid K5
      by_cases hV0 : V < 0
      · have hF : Hid (chkN pl R S G x = false) := chk_left hlt (by rw [hV]; exact hV0)
        clear hV
        go_wp2_with (first | (go_at_call 37; ((with_reducible refine (K5.out _ hBw).mono ?_); rintro e1 w1 ⟨rfl, hb1⟩)) | fail)
        go_ret
        exact ⟨ret_bool hF.out.symm, hBw.trans (hb1.mono (by omega))⟩
      · have hN : Hid (∀ q, q < k + 1 → 0 ≤ lefW pl R S G R.length q) := lt_succ_all hq.out (by rw [hV]; omega)
        clear hV
        go_wp2_with (first | (go_at_call 37; ((with_reducible refine (K5.out _ hBw).mono ?_); rintro e1 w1 ⟨rfl, hb1⟩)) | fail)
        have hX1 := hX.below hb1 (by omega)
        have hB1 := hBw.trans (hb1.mono (by omega))
        have hz1 : w.heap.size + 1 ≤ w1.heap.size := by have := hb1.size; omega
        clear hX hBw hb1
        go_roundw
        case rel => exact ⟨k + 1, by omega, by go_num, hN, hX1, hB1, hz1⟩
        case measure => simp [intOf]; omega
    · have hke : k = pl.length := by omega
      subst hke
      clear K3
      go_wp2_with fail
      clear x0 x1 x2 x3 x4 x5 x6 x7 x8 x9 x10
      have hX0 := hX
      obtain ⟨wa, rfl⟩ : ∃ wa, wa = wr := ⟨_, rfl⟩
      go_loopw [12] (fun i wr => ∃ k : Nat, k ≤ R.length ∧ i = .int .i64 k ∧ Hid (∀ i, i < k → okI pl R S G x i) ∧ BoxB wr w.heap.size X pl ∧ Below w.heap.size w wr ∧ w.heap.size + 1 ≤ wr.heap.size) (fun i _ => R.length - (intOf i).toNat)
      case atStart => exact ⟨0, Nat.zero_le _, rfl, fun q hq => absurd hq (Nat.not_lt_zero _), hX0, hBw, hz⟩
      case round =>
        clear hX hX0 hBw hz
        obtain ⟨k, hk, rfl, hok, hX, hBw, hz⟩ := hrel
        by_cases hlt2 : k < R.length
        case neg =>
          have hke : k = R.length := by omega
          subst hke
          have hF : Hid (chkN pl R S G x = true) := chk_yes Hle.out hok.out hq.out
          clear K1 K2 K4 hok
          go_wp2_with fail
          go_ret
          exact ⟨ret_bool hF.out.symm, hBw⟩
        obtain ⟨r, hxr⟩ : ∃ r, R[k]? = some r := ⟨_, List.getElem?_eq_getElem hlt2⟩
        have hkG : k < G.length := by have := Hle.out; omega
        obtain ⟨g, hxg⟩ : ∃ g, G[k]? = some g := ⟨_, List.getElem?_eq_getElem hkG⟩
        obtain ⟨b, off, rfl, hb, r0, r1, r2, r3, r4, _⟩ := HRs.out k r hxr
        obtain ⟨b2, off2, rfl, hb2, g0, g1⟩ := HGs.out k g hxg
        have hlaw : Hid (lawfulF pl R G k = lawB pl r g) := by show _ = _; rw [lawB_eq, rtN_of hxr, List.getD_eq_getElem?_getD, hxg]; rfl
        have hid := Lib.hid (rtN_of hxr)
        clear hxr hxg
        have hkI : (0 : Int) ≤ (k : Int) ∧ (k : Int) < (R.length : Int) := by omega
        have hkGI : (0 : Int) ≤ (k : Int) ∧ (k : Int) < (G.length : Int) := by omega
        have hbw : b < wr.heap.size := by have := hBw.size; omega
        have hbw2 : b2 < wr.heap.size := by have := hBw.size; omega
        have hzw : w.heap.size < wr.heap.size := by omega
        have q0 := (hBw.cell (p := ⟨b, off + k * 9, none⟩) (by show b < _; omega)).trans r0
        have q3 := (hBw.cell (p := ⟨b, off + k * 9 + 3, none⟩) (by show b < _; omega)).trans r3
        have q4 := (hBw.cell (p := ⟨b, off + k * 9 + 4, none⟩) (by show b < _; omega)).trans r4
        have p0 := (hBw.cell (p := ⟨b2, off2 + k * 2, none⟩) (by show b2 < _; omega)).trans g0
        have p1 := (hBw.cell (p := ⟨b2, off2 + k * 2 + 1, none⟩) (by show b2 < _; omega)).trans g1
        have r0 := Lib.hid r0
        obtain ⟨x0, x1, x2, x3, x4, x5, x6, x7, x8, x9, x10⟩ := hX.cells
        obtain ⟨P0, hP0⟩ : ∃ P0, isPl pl r.place = P0 := ⟨_, rfl⟩
        go_upto_region 12 with fail
        go_cut [14] from 37 to 146 (fun s14 wx => s14 = .bool P0 ∧ Below wr.heap.size wr wx)
        case first =>
          by_cases h2 : 0 ≤ r.place
          · have d2 : decide (0 ≤ r.place) = true := decide_eq_true h2
            have hP1 : Hid (P0 = decide (r.place < (pl.length : Int))) := by show _ = _; rw [← hP0, isPl_pos h2]
            clear hP0
            refine Plan.wp_region_tree (.rd 0 (.rd 1 (.rd 2 (.rd 3 (.rd 4 (.rd 5 (.rd 6 (.rd 7 (.rd 8 (.rd 9 (.rd 10 (.rd 11 (.rd 12 (.rd 13 (.rd 14 (.rd 15 (.rd 16 (.rd 17 .done)))))))))))))))))) (by kernel_rfl) (by kernel_rfl) ?_
            (repeat (first | (refine Plan.tree_read (v := ?_) rfl rfl ?_ ?_; rotate_left; (focus ((intro wS hSw; have hkS := (bcell hSw).1; try (have hkT := fun (b o : Nat) (h : b < w.heap.size) => hkS b o (by first | omega | (simp; omega) | (simp; done))); go_simp); try with_reducible rfl)); simp only [Act.put, List.setIfInBounds_toArray, List.set_cons_zero, List.set_cons_succ]) | (refine Plan.tree_skip rfl rfl ?_; simp only [Act.put, List.setIfInBounds_toArray, List.set_cons_zero, List.set_cons_succ])))
            refine Plan.tree_done ?_
            go_wp2_with fail
            go_meet
            exact ⟨by rw [hP1.out], (Below.refl _ _).drew⟩
          · have d2 : decide (0 ≤ r.place) = false := decide_eq_false h2
            have hP1 : Hid (P0 = false) := by show _ = _; rw [← hP0, isPl_neg h2]
            clear hP0
            refine Plan.wp_region_tree (.rd 0 (.rd 1 (.rd 2 (.rd 3 (.rd 4 (.rd 5 (.rd 6 (.rd 7 (.rd 8 (.rd 9 (.rd 10 (.rd 11 (.rd 12 (.rd 13 (.rd 14 (.rd 15 (.rd 16 (.rd 17 .done)))))))))))))))))) (by kernel_rfl) (by kernel_rfl) ?_
            (repeat (first | (refine Plan.tree_read (v := ?_) rfl rfl ?_ ?_; rotate_left; (focus ((intro wS hSw; have hkS := (bcell hSw).1; try (have hkT := fun (b o : Nat) (h : b < w.heap.size) => hkS b o (by first | omega | (simp; omega) | (simp; done))); go_simp); try with_reducible rfl)); simp only [Act.put, List.setIfInBounds_toArray, List.set_cons_zero, List.set_cons_succ]) | (refine Plan.tree_skip rfl rfl ?_; simp only [Act.put, List.setIfInBounds_toArray, List.set_cons_zero, List.set_cons_succ])))
            refine Plan.tree_done ?_
            go_wp2_with fail
            go_meet
            exact ⟨by rw [hP1.out], (Below.refl _ _).drew⟩
        case rest =>
          obtain ⟨rfl, hBc⟩ := hcut
          have q0 := (hBc.cell (p := ⟨b, off + k * 9, none⟩) hbw).trans q0
          have q4 := (hBc.cell (p := ⟨b, off + k * 9 + 4, none⟩) hbw).trans q4
          have p0 := (hBc.cell (p := ⟨b2, off2 + k * 2, none⟩) hbw2).trans p0
          have p1 := (hBc.cell (p := ⟨b2, off2 + k * 2 + 1, none⟩) hbw2).trans p1
          have hX := hX.below hBc hzw
          have hBw := hBw.trans (hBc.mono (by omega))
          have hz : w.heap.size + 1 ≤ wc.heap.size := by have := hBc.size; omega
          have hbw : b < wc.heap.size := by have := hBc.size; omega
          have hbw2 : b2 < wc.heap.size := by have := hBc.size; omega
          have hzw : w.heap.size < wc.heap.size := by omega
          clear q3 x0 x1 x2 x3 x4 x5 x6 x7 x8 x9 x10 hBc
          obtain ⟨wd, rfl⟩ : ∃ wd, wd = wc := ⟨_, rfl⟩
          obtain ⟨LB, hLB⟩ : ∃ LB, lawB pl r g = LB := ⟨_, rfl⟩
          have hLB := Lib.hid hLB
          obtain ⟨g1v, g2v⟩ := g
          dsimp only at p0 p1
          go_upto_region 13 with fail
          go_cut [101] from 37 to 146 (fun s wx => s = .bool (!LB) ∧ Below wd.heap.size wd wx)
          case first =>
            have hLv : lawB pl r (g1v, g2v) = (decide (g1v = r.id) && (decide (0 ≤ g2v) && (decide (g2v ≤ 1125899906842624) && (decide (g2v ≤ max 0 r.rate) && (decide (g2v = 0) || P0))))) := by rw [← hP0]; rfl
            clear hP0
            by_cases h1 : g1v = r.id
            case neg =>
              have hL : Hid (LB = false) := Lib.hid (by rw [← hLB.out, hLv, decide_eq_false h1]; rfl)
              have d1 : (g1v != r.id) = true := by simpa using h1
              clear hLv
              go_quiet (fail)
              go_wp2_with fail
              go_meet
              exact ⟨by rw [hL.out]; rfl, below_drewN (Below.refl _ _) _⟩
            have d1 : (g1v != r.id) = false := by simpa using h1
            by_cases h2 : 0 ≤ g2v
            case neg =>
              have hL : Hid (LB = false) := Lib.hid (by rw [← hLB.out, hLv, decide_eq_false h2]; simp)
              have d2 : decide (g2v < 0) = true := decide_eq_true (by omega)
              clear hLv h1
              go_quiet (fail)
              go_wp2_with fail
              go_meet
              exact ⟨by rw [hL.out]; rfl, below_drewN (Below.refl _ _) _⟩
            have d2 : decide (g2v < 0) = false := decide_eq_false (by omega)
            by_cases h3 : g2v ≤ 1125899906842624
            case neg =>
              have hL : Hid (LB = false) := Lib.hid (by rw [← hLB.out, hLv, decide_eq_false h3]; simp)
              have d3 : decide ((1125899906842624 : Int) < g2v) = true := decide_eq_true (by omega)
              clear hLv h1
              go_quiet (fail)
              go_wp2_with fail
              go_meet
              exact ⟨by rw [hL.out]; rfl, below_drewN (Below.refl _ _) _⟩
            have d3 : decide ((1125899906842624 : Int) < g2v) = false := decide_eq_false (by omega)
            obtain ⟨m, hm⟩ : ∃ m, m = max 0 r.rate := ⟨_, rfl⟩
            have e2 : max 0 r.rate = m := hm.symm
            have e3 : (if r.rate < 0 then 0 else r.rate) = m := by rw [hm]; split <;> omega
            have e4 : (if (0 : Int) < r.rate then r.rate else 0) = m := by rw [hm]; split <;> omega
            by_cases h4 : g2v ≤ m
            case neg =>
              have hL : Hid (LB = false) := Lib.hid (by rw [← hLB.out, hLv, ← hm, decide_eq_false h4]; simp)
              have d4 : decide (m < g2v) = true := decide_eq_true (by omega)
              clear hLv h1 hm
              go_quiet (fail)
              go_wp2_with fail
              go_meet
              exact ⟨by rw [hL.out]; rfl, below_drewN (Below.refl _ _) _⟩
            have d4 : decide (m < g2v) = false := decide_eq_false (by omega)
            have hL5 : LB = (decide (g2v = 0) || P0) := by rw [← hLB.out, hLv, ← hm, decide_eq_true h1, decide_eq_true h2, decide_eq_true h3, decide_eq_true h4]; rfl
            clear hLv h1 hm
            cases P0
            · by_cases h5 : g2v = 0
              · have hL : Hid (LB = true) := Lib.hid (by rw [hL5, decide_eq_true h5]; rfl)
                have d5 : (g2v != 0) = false := by simpa using h5
                have H5 := Lib.hid h5
                clear hL5 h5
                go_quiet (fail)
                go_wp2_with fail
                go_meet
                exact ⟨by rw [hL.out]; rfl, below_drewN (Below.refl _ _) _⟩
              · have hL : Hid (LB = false) := Lib.hid (by rw [hL5, decide_eq_false h5]; rfl)
                have d5 : (g2v != 0) = true := by simpa using h5
                clear hL5
                go_quiet (fail)
                go_wp2_with fail
                go_meet
                exact ⟨by rw [hL.out]; rfl, below_drewN (Below.refl _ _) _⟩
            · have hL : Hid (LB = true) := Lib.hid (by rw [hL5, Bool.or_true])
              clear hL5
              go_quiet (fail)
              go_wp2_with fail
              go_meet
              exact ⟨by rw [hL.out]; rfl, below_drewN (Below.refl _ _) _⟩
          case rest =>
            obtain ⟨rfl, hBd⟩ := hcut
            have hX := hX.below hBd hzw
            have hBw := hBw.trans (hBd.mono (by omega))
            have hz : w.heap.size + 1 ≤ wc.heap.size := by have := hBd.size; omega
            clear q0 q4 p0 p1 hBd hbw hbw2 hzw hP0
            have hbw : b < wc.heap.size := by have := hBw.size; omega
            have hzw : w.heap.size < wc.heap.size := by omega
            obtain ⟨x0, x1, x2, x3, x4, x5, x6, x7, x8, x9, x10⟩ := hX.cells
            cases LB
            · have hF : Hid (chkN pl R S G x = false) := chk_law hlt2 (by rw [hlaw.out]; exact hLB.out)
              clear K1 K2 K4 hok
              go_wp2_with fail
              go_ret
              exact ⟨ret_bool hF.out.symm, hBw⟩
            have hlawT : Hid (lawfulF pl R G k = true) := by show _ = _; rw [hlaw.out]; exact hLB.out
            have K5 := fun wx h => K2.out k wx hlt2 h
            unfold BoolIs at K5
            cases hF0 : shortF pl R G k
            · have hN : Hid (∀ i, i < k + 1 → okI pl R S G x i) := lt_succ_all hok.out ⟨hlawT.out, fun h => by rw [hF0] at h; cases h⟩
              rw [hF0] at K5
              have K5 := Lib.hid K5
              clear hF0 K1 K4
              go_wp2_with (first | (go_at_call 32; ((with_reducible refine (K5.out _ hBw).mono ?_); rintro e1 w1 ⟨rfl, hb1⟩)) | fail)
              have hX1 := hX.below hb1 hzw
              have hB1 := hBw.trans (hb1.mono (by omega))
              have hz1 : w.heap.size + 1 ≤ w1.heap.size := by have := hb1.size; omega
              clear hX hBw hb1
              go_roundw
              case rel => exact ⟨k + 1, by omega, by go_num, hN, hX1, hB1, hz1⟩
              case measure => simp [intOf]; omega
            rw [hF0] at K5
            have K5 := Lib.hid K5
            have K6 := fun wx h => K1.out k wx h
            unfold IntBe at K6
            rw [stopI_nat hlt2] at K6
            obtain ⟨sv, hsv⟩ : ∃ sv, stopN pl R S G k = sv := ⟨_, rfl⟩
            rw [hsv] at K6
            have K6 := Lib.hid K6
            by_cases hst : 0 ≤ sv
            case neg =>
              have hF : Hid (chkN pl R S G x = false) := chk_stop hlt2 hF0 (by rw [hsv]; exact hst)
              clear K1 K2 K4 hok hsv hF0
              go_wp2_with (first | (go_at_call 32; ((with_reducible refine (K5.out _ hBw).mono ?_); rintro e1 w1 ⟨rfl, hb1⟩; have kc := (bcell hb1).1)) | (go_at_call 19; ((with_reducible refine (K6.out _ (hBw.trans (hb1.mono (by omega)))).mono ?_); rintro e2 w2 ⟨rfl, hb2⟩)) | fail)
              go_ret
              exact ⟨ret_bool hF.out.symm, (hBw.trans (hb1.mono (by omega))).trans (hb2.mono (by have := hb1.size; omega))⟩
            have hF1 := Lib.hid hF0
            have hst1 : Hid (0 ≤ stopN pl R S G k) := by show 0 ≤ _; rw [hsv]; exact hst
            clear hF0 hsv
            go_wp2_with (first | (go_at_call 32; ((with_reducible refine (K5.out _ hBw).mono ?_); rintro e1 w1 ⟨rfl, hb1⟩; have kc := (bcell hb1).1)) | (go_at_call 19; ((with_reducible refine (K6.out _ (hBw.trans (hb1.mono (by omega)))).mono ?_); rintro e2 w2 ⟨rfl, hb2⟩)) | fail)
            have hb3 := hb1.trans (hb2.mono hb1.size)
            have hX1 := hX.below hb3 hzw
            have hB1 := hBw.trans (hb3.mono (by omega))
            have hz1 : w.heap.size + 1 ≤ w2.heap.size := by have := hb3.size; omega
            clear hX hBw hb1 hb2 hb3 kc x0 x1 x2 x3 x4 x5 x6 x7 x8 x9 x10 K5 K6 hz hbw hzw
            go_loopw [16] (fun i wr => ∃ j : Nat, k + 1 ≤ j ∧ j ≤ R.length ∧ i = .int .i64 j ∧ Hid (∀ m ∈ wetT G (k + 1) j, ((rtN R k).id, (rtN R m).id) ∈ x) ∧ BoxB wr w.heap.size X pl ∧ Below w.heap.size w wr ∧ w.heap.size + 1 ≤ wr.heap.size) (fun i _ => R.length - (intOf i).toNat)
            case atStart =>
              refine ⟨k + 1, Nat.le_refl _, by omega, by go_num, ?_, hX1, hB1, hz1⟩
              show ∀ m ∈ wetT G (k + 1) (k + 1), _
              rw [wetT_start]
              exact fun m hm => by cases hm
            case round =>
              clear hX1 hB1 hz1
              obtain ⟨j, hkj, hjR, rfl, hmem, hX, hBw, hz⟩ := hrel
              by_cases hjl : j < R.length
              case neg =>
                have hje : j = R.length := by omega
                subst hje
                have hN : Hid (∀ i, i < k + 1 → okI pl R S G x i) := lt_succ_all hok.out ⟨hlawT.out, fun _ => ⟨hst1.out, hmem.out⟩⟩
                clear hmem
                go_wp2_with fail
                go_roundw
                case rel => exact ⟨k + 1, by omega, by go_num, hN, hX, hBw, hz⟩
                case measure => simp [intOf]; omega
              obtain ⟨r', hxr'⟩ : ∃ r', R[j]? = some r' := ⟨_, List.getElem?_eq_getElem hjl⟩
              have hjG : j < G.length := by have := Hle.out; omega
              obtain ⟨g', hxg'⟩ : ∃ g', G[j]? = some g' := ⟨_, List.getElem?_eq_getElem hjG⟩
              obtain ⟨b', off', e', hb', s0, _⟩ := HRs.out j r' hxr'
              obtain ⟨rfl, rfl⟩ : b = b' ∧ off = off' := by injection e' with e'; injection e' with e1 e2; exact ⟨e1, e2⟩
              obtain ⟨b3, off3, e3, hb3', t0, t1⟩ := HGs.out j g' hxg'
              obtain ⟨rfl, rfl⟩ : b2 = b3 ∧ off2 = off3 := by injection e3 with e3; injection e3 with e1 e2; exact ⟨e1, e2⟩
              have s1 := (hBw.cell (p := ⟨b, off + j * 9, none⟩) (by show b < _; omega)).trans s0
              have s2 := (hBw.cell (p := ⟨b, off + k * 9, none⟩) (by show b < _; omega)).trans r0.out
              have s3 := (hBw.cell (p := ⟨b2, off2 + j * 2 + 1, none⟩) (by show b2 < _; omega)).trans t1
              have hjI : (0 : Int) ≤ (j : Int) ∧ (j : Int) < (R.length : Int) := by omega
              have hjGI : (0 : Int) ≤ (j : Int) ∧ (j : Int) < (G.length : Int) := by omega
              have hid' := Lib.hid (rtN_of hxr')
              have hgj := Lib.hid (gotG_of hxg')
              have hbw : b < wr.heap.size := by have := hBw.size; omega
              have hbw2 : b2 < wr.heap.size := by have := hBw.size; omega
              have hzw : w.heap.size < wr.heap.size := by omega
              clear e' s0 e3 t0 t1 hxr' hxg'
              obtain ⟨HX, hHX⟩ : ∃ HX, hasE x (r.id, r'.id) = HX := ⟨_, rfl⟩
              have K7 := fun wx h => K4.out r.id r'.id wx h
              unfold BoolIs at K7
              rw [hHX] at K7
              have K7 := Lib.hid K7
              have hHX := Lib.hid hHX
              go_upto_region 22 with fail
              refine Plan.wp_region_tree (.rd 0 (.rd 1 (.rd 2 (.rd 3 (.rd 4 (.rd 5 (.rd 6 (.rd 7 (.rd 8 (.rd 9 (.rd 10 (.rd 11 (.wr 12 (.rd 13 .done)))))))))))))) (by kernel_rfl) (by kernel_rfl) ?_
              (repeat (first | (refine Plan.tree_read (v := ?_) rfl rfl ?_ ?_; rotate_left; (focus ((intro wS hSw; have hkS := (bcell hSw).1; try (have hkT := fun (b o : Nat) (h : b < w.heap.size) => hkS b o (by first | omega | (simp; omega) | (simp; done))); go_simp); try with_reducible rfl)); simp only [Act.put, List.setIfInBounds_toArray, List.set_cons_zero, List.set_cons_succ]) | (refine Plan.tree_skip rfl rfl ?_; simp only [Act.put, List.setIfInBounds_toArray, List.set_cons_zero, List.set_cons_succ])))
              (refine Plan.tree_write rfl (fun K hK => ?_); try go_simp)
              go_at_call 39
              (with_reducible refine (K7.out _ hBw.drew).mono ?_)
              rintro e5 w5 ⟨rfl, hb5⟩
              have kB := Plan.below_drew_go hb5
              (try go_simp)
              (refine hK.out _ _ (kB) ?_; clear hK K; try simp only [Act.put, List.setIfInBounds_toArray, List.set_cons_zero, List.set_cons_succ])
              (repeat (first | (refine Plan.tree_read (v := ?_) rfl rfl ?_ ?_; rotate_left; (focus ((intro wS hSw; have hkS := (bcell hSw).1; try (have hkT := fun (b o : Nat) (h : b < w.heap.size) => hkS b o (by first | omega | (simp; omega) | (simp; done))); go_simp); try with_reducible rfl)); simp only [Act.put, List.setIfInBounds_toArray, List.set_cons_zero, List.set_cons_succ]) | (refine Plan.tree_skip rfl rfl ?_; simp only [Act.put, List.setIfInBounds_toArray, List.set_cons_zero, List.set_cons_succ])))
              refine Plan.tree_done ?_
              have s4 := (kB.cell (p := ⟨b2, off2 + j * 2 + 1, none⟩) hbw2).trans s3
              have hX5 := hX.below kB hzw
              have hB5 := hBw.trans (kB.mono (by omega))
              have hz5 : w.heap.size + 1 ≤ w5.heap.size := by have := kB.size; omega
              clear hX hBw hb5 kB s1 s2 s3
              by_cases hgp : 0 < g'.2
              case neg =>
                have hN : Hid (∀ m ∈ wetT G (k + 1) (j + 1), ((rtN R k).id, (rtN R m).id) ∈ x) := by
                  show ∀ m ∈ _, _
                  rw [wetT_succ, if_neg (fun h => by rw [wetB_got] at h; exact hgp (by rw [← hgj.out]; exact of_decide_eq_true h.2))]
                  exact hmem.out
                clear hmem
                go_wp2_with fail
                go_roundw
                case rel => exact ⟨j + 1, by omega, by omega, by go_num, hN, hX5, hB5, hz5⟩
                case measure => simp [intOf]; omega
              cases HX
              · have hF : Hid (chkN pl R S G x = false) := chk_exc hlt2 hF1.out (j := j) (wetT_mem.2 ⟨hjl, hkj, by rw [hgj.out]; exact hgp⟩) (by rw [hid.out, hid'.out]; exact of_decide_eq_false hHX.out)
                clear hmem hok
                go_wp2_with fail
                go_ret
                exact ⟨ret_bool hF.out.symm, hB5⟩
              · have hN : Hid (∀ m ∈ wetT G (k + 1) (j + 1), ((rtN R k).id, (rtN R m).id) ∈ x) := by
                  show ∀ m ∈ _, _
                  rw [wetT_succ, if_pos ⟨hkj, by rw [wetB_got]; exact decide_eq_true (by rw [hgj.out]; exact hgp)⟩]
                  intro m hm
                  rcases List.mem_append.1 hm with h | h
                  · exact hmem.out m h
                  · simp at h; subst h; rw [hid.out, hid'.out]; exact of_decide_eq_true hHX.out
                clear hmem
                go_wp2_with fail
                go_roundw
                case rel => exact ⟨j + 1, by omega, by omega, by go_num, hN, hX5, hB5, hz5⟩
                case measure => simp [intOf]; omega
end Go.Proofs.Ytkbceeobnbbfbaa
