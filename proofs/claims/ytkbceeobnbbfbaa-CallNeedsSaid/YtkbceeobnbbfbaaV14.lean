/- The walk of the reference's Excuses. -/
import Derived.Test.YtkbceeobnbbfbaaV12
import Derived.Test.YtkbceeobnbbfbaaV13
import Derived.Test.YtkbceeobnbbfbaaV5
set_option linter.unusedSimpArgs false
set_option linter.unusedVariables false
namespace Go.Proofs.Ytkbceeobnbbfbaa
open Go.RowKit CM
attribute [local go_sem] alloc_drewN setCell_drewN shape_drewN

theorem wetB_got (G : List (Int × Int)) (j : Nat) : wetB G j = decide (0 < gotG G j) := by
  unfold wetB
  by_cases h : j < G.length
  · rw [decide_eq_true h]; rfl
  · rw [decide_eq_false h, got_out h]; rfl
theorem stopI_nat {pl : Pl} {R : List Rt} {S : List Int} {G : List (Int × Int)} {k : Nat} (h : k < R.length) : stopI pl R S G (k : Int) = stopN pl R S G k := by
  unfold stopI; rw [if_pos ⟨by omega, by omega⟩, Int.toNat_natCast]
/-- The excuses of the i-th right with the rights below j. -/
def excP (R : List Rt) (G : List (Int × Int)) (id : Int) (i j : Nat) : List (Int × Int) := (wetT G (i + 1) j).map fun j => (id, (rtN R j).id)
theorem excP_start (R : List Rt) (G : List (Int × Int)) (id : Int) (i : Nat) : excP R G id i (i + 1) = [] := by unfold excP; rw [wetT_start]; rfl
theorem excP_yes {R : List Rt} {G : List (Int × Int)} {id : Int} {i j : Nat} (h : i + 1 ≤ j) (hg : 0 < gotG G j) : excP R G id i (j + 1) = excP R G id i j ++ [(id, (rtN R j).id)] := by
  unfold excP; rw [wetT_succ, if_pos ⟨h, by rw [wetB_got]; exact decide_eq_true hg⟩, List.map_append]; rfl
theorem excP_no {R : List Rt} {G : List (Int × Int)} {id : Int} {i j : Nat} (hg : ¬ 0 < gotG G j) : excP R G id i (j + 1) = excP R G id i j := by
  unfold excP; rw [wetT_succ, if_neg (fun h => by rw [wetB_got] at h; exact hg (of_decide_eq_true h.2))]
theorem excP_len (R : List Rt) (G : List (Int × Int)) (id : Int) (i j : Nat) : (excP R G id i j).length ≤ j := by unfold excP; rw [List.length_map]; exact wetT_len G (i + 1) j
set_option maxRecDepth 100000 in
set_option maxHeartbeats 8000000 in
theorem rexcuses_any (X : Bas) (pl : Pl) (R : List Rt) (S : List Int) (G : List (Int × Int)) (C : Option Addr) (cr : Nat) (E : Option Addr) (cs : Nat) (D : Option Addr) (cg : Nat) (w : World) {B : Nat} (hP : PlacesAt w B X.P pl) (hR : RightsAt w B C R) (hE : IntsAt w B E S) (hG : PairsAt w B D G) (hB : B ≤ w.heap.size)
    (hl : pl.length ≤ 1000000) (hr : R.length ≤ 1000) (hg : G.length ≤ 1000000) (hs : S.length ≤ 9223372036854775807) (hS : ∀ x ∈ S, In64 x) :
    Calls Try.prog 17 #[.agg #[.string X.nm, .slice X.a1 X.l1 X.c1, .int .i64 X.cl, .slice X.P pl.length X.cP, .slice X.a4 X.l4 X.c4, .slice X.a5 X.l5 X.c5, .slice X.a6 X.l6 X.c6, .slice X.a7 X.l7 X.c7, .slice X.a8 X.l8 X.c8, .slice X.a9 X.l9 X.c9, .int .i64 X.er], .slice C R.length cr, .slice E S.length cs, .slice D G.length cg] w (PairsRes (excN pl R S G) w) := by
  obtain ⟨g0, gi, gz0, gz1, gz2⟩ := info_parts Try.infoExcuse
  have K2 := Lib.hid (fun (k : Nat) (wx : World) (h : Below w.heap.size w wx) => rstop_any X pl R S G C cr E cs D cg (k : Int) wx (B := B) (hP.below (h.mono hB)) (hR.below (h.mono hB)) (hE.below (h.mono hB)) (hG.below (h.mono hB)) (by have := h.size; omega) hl (by omega) hg hs hS)
  have K3 := Lib.hid (fun (k : Nat) (wx : World) (hk : k < R.length) (h : Below w.heap.size w wx) => is_any X pl R G C cr D cg k wx (B := B) (hR.below (h.mono hB)) (hG.below (h.mono hB)) (by have := h.size; omega) hl (by omega) hg hk)
  have K4 := Lib.hid (fun (k : Nat) (wx : World) (h : Below w.heap.size w wx) => got_any G D cg (k : Int) wx (hG.below (h.mono hB)) hg)
  have HRs := Lib.hid (fun (j : Nat) (r : Rt) (h : R[j]? = some r) => hR.at_ h)
  go_enter Try.func17, Try.ntmps17
  go_wp2_with fail
  go_loopw [9, 10] (fun out i wr => ∃ k : Nat, k ≤ R.length ∧ i = .int .i64 k ∧ wr.ownsRow (w.heap.size + 1) 60 2 out (excT pl R S G k).length (rowP (excT pl R S G k)) ∧ BoxB wr w.heap.size X pl ∧ Below w.heap.size w wr ∧ w.heap.size + 1 ≤ wr.heap.size) (fun _ i _ => R.length - (intOf i).toNat)
  case atStart => exact ⟨0, Nat.zero_le _, rfl, World.ownsRow_nil _ _ _ _, BoxB.new w X pl, (Below.refl _ _).alloc (Nat.le_refl _) _, by simp⟩
  case round =>
    obtain ⟨k, hk, rfl, hrow, hX, hBw, hz⟩ := hrel
    obtain ⟨x0, x1, x2, x3, x4, x5, x6, x7, x8, x9, x10⟩ := hX.cells
    by_cases hlt : k < R.length
    case neg =>
      have hke : k = R.length := by omega
      subst hke
      rw [excT_end] at hrow
      obtain ⟨F1, cc, he1, hI⟩ := pairs_of_owns hrow
      have hcap := owns_cap hrow he1
      subst he1
      clear hrow K2 K3 K4
      go_wp2_with fail
      go_ret
      exact ⟨F1, cc, rfl, hcap, hI, hBw⟩
    have hTl := excT_len (pl := pl) (R := R) (S := S) (G := G) k
    have hTk : k * R.length ≤ 1000000 := Nat.le_trans (Nat.mul_le_mul (by omega : k ≤ 1000) hr) (by omega)
    obtain ⟨r, hx⟩ : ∃ r, R[k]? = some r := ⟨_, List.getElem?_eq_getElem hlt⟩
    have K5 := Lib.hid (fun wx h => K3.out k wx hlt h)
    have K6 := fun wx h => K2.out k wx h
    unfold IntBe at K6
    rw [stopI_nat hlt] at K6
    have hsucc := excT_succ (pl := pl) (R := R) (S := S) (G := G) k
    have hI0 : excI pl R S G k = if shortF pl R G k && decide (0 ≤ stopN pl R S G k) then (wetF G R.length (k + 1)).map (fun j => ((rtN R k).id, (rtN R j).id)) else [] := rfl
    rw [rtN_of hx] at hI0
    clear K3 K2
    obtain ⟨b, off, rfl, hb, r0w, _⟩ := hR.at_ hx
    have hkI : (0 : Int) ≤ (k : Int) ∧ (k : Int) < (R.length : Int) := by omega
    have hbw : b < wr.heap.size := by have := hBw.size; omega
    have hzw : w.heap.size < wr.heap.size := by omega
    have r0w := Lib.hid r0w
    clear hx
    cases hF : shortF pl R G k
    case false =>
      have hs : Hid (excT pl R S G (k + 1) = excT pl R S G k) := by show _ = _; rw [hsucc, hI0, hF]; simp
      have K8 := fun wx h => (K5.out wx h)
      unfold BoolIs at K8
      rw [hF] at K8
      have K8 := Lib.hid K8
      clear hF K5 hsucc hI0 K6
      go_wp2_with (first | (go_at_call 32; ((with_reducible refine (K8.out _ hBw).mono ?_); rintro e2 w2 ⟨rfl, hb9⟩)) | fail)
      have hrow1 := row_below hrow hb9
      have hX1 := hX.below hb9 hzw
      have hB1 := hBw.trans (hb9.mono (by omega))
      have hz1' : w.heap.size + 1 ≤ w2.heap.size := by have := hb9.size; omega
      clear hrow hX hBw hb9
      go_roundw
      case rel => exact ⟨k + 1, by omega, by go_num, by rw [hs.out]; exact hrow1, hX1, hB1, hz1'⟩
      case measure => simp [intOf]; omega
    have K8 := fun wx h => (K5.out wx h)
    unfold BoolIs at K8
    rw [hF] at K8
    have K8 := Lib.hid K8
    obtain ⟨sv, hsv⟩ : ∃ sv, stopN pl R S G k = sv := ⟨_, rfl⟩
    rw [hsv] at K6
    have K9 := Lib.hid K6
    clear K5 K6
    by_cases hst : 0 ≤ sv
    case neg =>
      have hs : Hid (excT pl R S G (k + 1) = excT pl R S G k) := by show _ = _; rw [hsucc, hI0, hF, hsv, decide_eq_false hst]; simp
      clear hF hsucc hI0 hsv
      go_wp2_with (first | (go_at_call 32; ((with_reducible refine (K8.out _ hBw).mono ?_); rintro e2 w2 ⟨rfl, hb9⟩; have kc := (bcell hb9).1)) | (go_at_call 19; ((with_reducible refine (K9.out _ (hBw.trans (hb9.mono (by omega)))).mono ?_); rintro e3 w3 ⟨rfl, hb3⟩)) | fail)
      have hb10 := hb9.trans (hb3.mono hb9.size)
      have hrow1 := row_below hrow hb10
      have hX1 := hX.below hb10 hzw
      have hB1 := hBw.trans (hb10.mono (by omega))
      have hz1' : w.heap.size + 1 ≤ w3.heap.size := by have := hb10.size; omega
      clear hrow hX hBw hb9 kc hb3 hb10
      go_roundw
      case rel => exact ⟨k + 1, by omega, by go_num, by rw [hs.out]; exact hrow1, hX1, hB1, hz1'⟩
      case measure => simp [intOf]; omega
    have hIe : Hid (excI pl R S G k = excP R G r.id k R.length) := by show _ = _; rw [hI0, hF, hsv, decide_eq_true hst]; rfl
    clear hF hI0 hsv
    go_wp2_with (first | (go_at_call 32; ((with_reducible refine (K8.out _ hBw).mono ?_); rintro e2 w2 ⟨rfl, hb9⟩; have kc := (bcell hb9).1)) | (go_at_call 19; ((with_reducible refine (K9.out _ (hBw.trans (hb9.mono (by omega)))).mono ?_); rintro e3 w3 ⟨rfl, hb3⟩)) | fail)
    have hb11 := hb9.trans (hb3.mono hb9.size)
    have hrow1 := row_below hrow hb11
    have hX1 := hX.below hb11 hzw
    have hB1 := hBw.trans (hb11.mono (by omega))
    have hz1' : w.heap.size + 1 ≤ w3.heap.size := by have := hb11.size; omega
    clear hrow hX hBw kc hb3 hb9 hb11 x0 x1 x2 x3 x4 x5 x6 x7 x8 x9 x10 K8 K9
    obtain ⟨wo, rfl⟩ : ∃ wo, wo = wr := ⟨_, rfl⟩
    go_loopw [9, 12] (fun out i wr => ∃ j : Nat, k + 1 ≤ j ∧ j ≤ R.length ∧ i = .int .i64 j ∧ wr.ownsRow (w.heap.size + 1) 60 2 out ((excT pl R S G k).length + (excP R G r.id k j).length) (rowP (excT pl R S G k ++ excP R G r.id k j)) ∧ BoxB wr w.heap.size X pl ∧ Below w.heap.size w wr ∧ w.heap.size + 1 ≤ wr.heap.size) (fun _ i _ => R.length - (intOf i).toNat)
    case atStart =>
      refine ⟨k + 1, Nat.le_refl _, by omega, by go_num, ?_, hX1, hB1, hz1'⟩
      rw [excP_start, List.append_nil]; exact hrow1
    case round =>
      clear hrow1 hX1 hB1 hz1' hzw hbw
      obtain ⟨j, hkj, hjR, rfl, hrow, hX, hBw, hz2⟩ := hrel
      by_cases hjl : j < R.length
      case neg =>
        have hje : j = R.length := by omega
        have hr9 : wr.ownsRow (w.heap.size + 1) 60 2 u9 (excT pl R S G (k + 1)).length (rowP (excT pl R S G (k + 1))) := by
          have := hrow
          rw [hje, ← List.length_append, ← hIe.out, ← hsucc] at this
          exact this
        clear hrow hsucc
        subst hje
        go_wp2_with fail
        go_roundw
        case rel => exact ⟨k + 1, by omega, by go_num, hr9, hX, hBw, hz2⟩
        case measure => simp [intOf]; omega
      obtain ⟨r2, hx2⟩ : ∃ r2, R[j]? = some r2 := ⟨_, List.getElem?_eq_getElem hjl⟩
      obtain ⟨b', off', e', hb', s0, _⟩ := HRs.out j r2 hx2
      obtain ⟨rfl, rfl⟩ : b = b' ∧ off = off' := by injection e' with e'; injection e' with e1 e2; exact ⟨e1, e2⟩
      have s1 := (hBw.cell (p := ⟨b, off + j * 9, none⟩) (by show b < _; omega)).trans s0
      have s2 := (hBw.cell (p := ⟨b, off + k * 9, none⟩) (by show b < _; omega)).trans r0w.out
      have hjI : (0 : Int) ≤ (j : Int) ∧ (j : Int) < (R.length : Int) := by omega
      have hpl := excP_len R G r.id k j
      have hid := Lib.hid (rtN_of hx2)
      clear e' s0 hx2
      have hbw2 : b < wr.heap.size := by have := hBw.size; omega
      have hzw : w.heap.size < wr.heap.size := by omega
      have K5 := K4.out j
      unfold IntIs at K5
      rw [gotI_nat] at K5
      obtain ⟨gk, hgk⟩ : ∃ gk, gotG G j = gk := ⟨_, rfl⟩
      rw [hgk] at K5
      have K5 := Lib.hid K5
      by_cases hgp : 0 < gk
      case neg =>
        have hs : Hid (excP R G r.id k (j + 1) = excP R G r.id k j) := by show _ = _; exact excP_no (by rw [hgk]; exact hgp)
        clear hgk
        go_wp2_with (first | (go_at_call 36; ((with_reducible refine (K5.out _ hBw).mono ?_); rintro e5 w5 ⟨rfl, rfl⟩)) | fail)
        go_roundw
        case rel => exact ⟨j + 1, by omega, by omega, by go_num, by rw [hs.out]; exact hrow, hX, hBw, hz2⟩
        case measure => simp [intOf]; omega
      have hs : Hid (excP R G r.id k (j + 1) = excP R G r.id k j ++ [(r.id, r2.id)]) := by show _ = _; rw [excP_yes hkj (by rw [hgk]; exact hgp), hid.out]
      have hnb : some b ≠ u9.ownBlock := fun e => by have := (hrow.lt b e.symm).1; omega
      have HR := Lib.hid hrow
      clear hgk
      go_upto_region 11 with (first | (go_at_call 36; ((with_reducible refine (K5.out _ hBw).mono ?_); rintro e5 w5 ⟨rfl, rfl⟩)) | fail)
      refine Plan.wp_region_grown (u9.ownBlock) (.rd 0 (.rd 1 (.rd 2 (.rd 3 (.rd 4 (.rd 5 (.rd 6 (.rd 7 (.rd 8 (.rd 9 (.rd 10 (.rd 11 (.wr 12 (.wr 13 (.rd 14 .done))))))))))))))) (by kernel_rfl) (by kernel_rfl) ?_
      (repeat (first | (refine Plan.tree_read (v := ?_) rfl rfl ?_ ?_; rotate_left; (focus ((intro wS hSw; have hkS := Plan.grown_cells hSw; go_simp); try with_reducible rfl)); simp only [Act.put, List.setIfInBounds_toArray, List.set_cons_zero, List.set_cons_succ]) | (refine Plan.tree_skip rfl rfl ?_; simp only [Act.put, List.setIfInBounds_toArray, List.set_cons_zero, List.set_cons_succ])))
      (refine Plan.tree_write rfl (fun K hK => ?_); try go_simp)
      refine hK.out _ _ (Plan.grown_alloc (Plan.grown_drew _ _) _) ?_
      clear hK K
      try simp only [Act.put, List.setIfInBounds_toArray, List.set_cons_zero, List.set_cons_succ]
      (repeat (first | (refine Plan.tree_read (v := ?_) rfl rfl ?_ ?_; rotate_left; (focus ((intro wS hSw; have hkS := Plan.grown_cells hSw; go_simp); try with_reducible rfl)); simp only [Act.put, List.setIfInBounds_toArray, List.set_cons_zero, List.set_cons_succ]) | (refine Plan.tree_skip rfl rfl ?_; simp only [Act.put, List.setIfInBounds_toArray, List.set_cons_zero, List.set_cons_succ])))
      refine Plan.tree_write rfl (fun K hK => ?_)
      refine step_append_lies _ (by rfl) _ _ _ (by rfl) (w.heap.size + 1) 60 g0 _ 2 16 Try.underlying34 gi gz0 gz1 gz2 rfl (by omega) u9 ((excT pl R S G k).length + (excP R G r.id k j).length) _ (by rfl) ((HR.out.alloc _).drew) ⟨wr.heap.size, 0, none⟩ 1 1 [.int .i64 r.id, .int .i64 r2.id] (by rfl) (by rfl) (cell_two_at (w := wr.drew) (by simp) _ _ _) (by simp [Value.oneCell']) (by omega) (by unfold maxLen; omega) (by omega) (by simp; omega) (wr.heap.size + 1) (by simp) ?_
      intro gg cap w5 hown5 hgrow5 hat5 hlt5
      refine hK.out _ _ (Plan.grown_go (Plan.grown_alloc (Plan.grown_drew _ _) _) hgrow5) ?_
      clear hK K
      try simp only [Act.put, List.setIfInBounds_toArray, List.set_cons_zero, List.set_cons_succ]
      (repeat (first | (refine Plan.tree_read (v := ?_) rfl rfl ?_ ?_; rotate_left; (focus ((intro wS hSw; have hkS := Plan.grown_cells hSw; go_simp); try with_reducible rfl)); simp only [Act.put, List.setIfInBounds_toArray, List.set_cons_zero, List.set_cons_succ]) | (refine Plan.tree_skip rfl rfl ?_; simp only [Act.put, List.setIfInBounds_toArray, List.set_cons_zero, List.set_cons_succ])))
      refine Plan.tree_done ?_
      go_wp2_with fail
      have hG5 : wr.grownBy w5 u9.ownBlock := Plan.grown_go (Plan.grown_alloc (Plan.grown_drew _ _) _) hgrow5
      have hb5' : Below (w.heap.size + 1) wr w5 := (Below.refl _ _).grown hG5 (by omega) (fun g hg => (hrow.lt g hg).1)
      have hrow5 : w5.ownsRow (w.heap.size + 1) 60 2 (.slice (some ⟨gg, 0, none⟩) ((excT pl R S G k).length + (excP R G r.id k j).length + 1) cap) ((excT pl R S G k).length + (excP R G r.id k (j + 1)).length) (rowP (excT pl R S G k ++ excP R G r.id k (j + 1))) := by
        rw [hs.out, List.length_append, ← List.append_assoc, rowP_snoc]; exact hown5
      have hX5 := hX.below hb5' (by omega)
      have hB5 := hBw.trans (hb5'.mono (by omega))
      have hz5 : w.heap.size + 1 ≤ w5.heap.size := by have := hG5.size; omega
      clear hrow hX hBw hown5 hgrow5 hat5 hG5 hb5'
      exact ⟨⟨j + 1, by omega, by omega, by go_num, hrow5, hX5, hB5, hz5⟩, by simp [intOf]; omega⟩
end Go.Proofs.Ytkbceeobnbbfbaa
