/- The walk of the reference's Stop. -/
import Derived.Test.YtkbceeobnbbfbaaV10
set_option linter.unusedSimpArgs false
set_option linter.unusedVariables false
namespace Go.Proofs.Ytkbceeobnbbfbaa
open Go.RowKit CM
attribute [local go_sem] alloc_drewN setCell_drewN shape_drewN

section
variable {pl : Pl} {R : List Rt} {S : List Int} {G : List (Int × Int)}
theorem stopP_eq (hS : ∀ x ∈ S, In64 x) (i q : Nat) : (decide (leftN pl R S G R.length q ≤ 0) && dryF pl R G i q R.length) = stopP pl R S G i q := by
  unfold stopP leftN lefW
  rw [(leftR_eq (fun p => supF_in hS p) R.length q).1]
  congr 1
  rw [Bool.eq_iff_iff, dryF_iff, decide_eq_true_eq, lastW_le]
  constructor
  · exact fun h j j1 j2 j3 _ => h j j1 j2 j3
  · intro h j j1 j2 j3
    by_cases g : j < G.length
    · exact h j j1 j2 j3 g
    · rw [got_out g]; exact Int.le_refl _
theorem dryF_start (i q : Nat) : dryF pl R G i q (i + 1) = true := (dryF_iff _).2 (fun j h1 h2 _ => by omega)
theorem dryF_wet {i q j : Nat} (h : i < j) (hq : q ∈ rcR pl R j) (hg : 0 < gotG G j) : dryF pl R G i q (j + 1) = false := by
  show (_ && _) = false
  rw [decide_eq_true h, decide_eq_true hq, decide_eq_true hg]; simp
theorem dryF_dry {i q j : Nat} (h : ¬ (q ∈ rcR pl R j ∧ 0 < gotG G j)) : dryF pl R G i q (j + 1) = dryF pl R G i q j := by
  show (_ && _) = _
  by_cases h1 : q ∈ rcR pl R j
  · have h2 : ¬ 0 < gotG G j := fun g => h ⟨h1, g⟩
    rw [decide_eq_false h2]; simp
  · rw [decide_eq_false h1]; simp
end
set_option maxRecDepth 100000 in
set_option maxHeartbeats 8000000 in
theorem rstop_any (X : Bas) (pl : Pl) (R : List Rt) (S : List Int) (G : List (Int × Int)) (C : Option Addr) (cr : Nat) (E : Option Addr) (cs : Nat) (D : Option Addr) (cg : Nat) (i : Int) (w : World) {B : Nat} (hP : PlacesAt w B X.P pl) (hR : RightsAt w B C R) (hE : IntsAt w B E S) (hG : PairsAt w B D G) (hB : B ≤ w.heap.size)
    (hl : pl.length ≤ 1000000) (hr : R.length ≤ 1000000) (hg : G.length ≤ 1000000) (hs : S.length ≤ 9223372036854775807) (hS : ∀ x ∈ S, In64 x) :
    Calls Try.prog 19 #[.agg #[.string X.nm, .slice X.a1 X.l1 X.c1, .int .i64 X.cl, .slice X.P pl.length X.cP, .slice X.a4 X.l4 X.c4, .slice X.a5 X.l5 X.c5, .slice X.a6 X.l6 X.c6, .slice X.a7 X.l7 X.c7, .slice X.a8 X.l8 X.c8, .slice X.a9 X.l9 X.c9, .int .i64 X.er], .slice C R.length cr, .slice E S.length cs, .slice D G.length cg, .int .i64 i] w (IntBe (stopI pl R S G i) w) := by
  have K1 := Lib.hid (fun (p : Int) (wx : World) (h : Below w.heap.size w wx) => rreach_any X pl p wx (hP.below (h.mono hB)) (by have := h.size; omega) hl)
  have K0 := Lib.hid (fun (l : List Nat) (C : Option Addr) (cc : Nat) (q : Nat) (wx : World) (D : Nat) (hq : IntsAt wx D C (natsI l)) (hl : (natsI l).length ≤ 9223372036854775807) => has37_any (natsI l) C cc (q : Int) wx hq hl)
  have K2 := Lib.hid (fun (k : Nat) (wx : World) (h : Below w.heap.size w wx) => got_any G D cg (k : Int) wx (hG.below (h.mono hB)) hg)
  have K3 := Lib.hid (fun (q : Nat) (wx : World) (h : Below w.heap.size w wx) => left_any X pl R S G C cr E cs D cg q wx (B := B) (hP.below (h.mono hB)) (hR.below (h.mono hB)) (hE.below (h.mono hB)) (hG.below (h.mono hB)) (by have := h.size; omega) hl hr hg hs hS)
  by_cases h0 : 0 ≤ i
  case neg =>
    have hF : Hid (stopI pl R S G i = -1) := by show _ = _; unfold stopI; rw [if_neg (fun h => h0 h.1)]
    clear K1 K2 K0 K3
    go_enter Try.func19, Try.ntmps19
    go_wp2_with fail
    go_ret
    exact ⟨ret_int hF.out.symm, (Below.refl _ _).alloc (Nat.le_refl _) _⟩
  obtain ⟨k, rfl⟩ : ∃ k : Nat, i = k := ⟨i.toNat, by omega⟩
  by_cases h1 : k < R.length
  case neg =>
    have hF : Hid (stopI pl R S G k = -1) := by show _ = _; unfold stopI; rw [if_neg (fun h => h1 (by omega))]
    have h2 : R.length ≤ k := by omega
    clear K1 K2 K0 K3
    go_enter Try.func19, Try.ntmps19
    go_wp2_with fail
    go_ret
    exact ⟨ret_int hF.out.symm, (Below.refl _ _).alloc (Nat.le_refl _) _⟩
  have hF : Hid (stopI pl R S G k = stopN pl R S G k) := by show _ = _; unfold stopI; rw [if_pos ⟨by omega, by omega⟩, Int.toNat_natCast]
  obtain ⟨r, hx⟩ : ∃ r, R[k]? = some r := ⟨_, List.getElem?_eq_getElem h1⟩
  have HRs := Lib.hid (fun (j : Nat) (r : Rt) (h : R[j]? = some r) => hR.at_ h)
  obtain ⟨b, off, rfl, hb, r0, r1, r2, r3, _⟩ := hR.at_ hx
  have hrc : Hid (rcR pl R k = reach pl r.place) := by show _ = _; unfold rcR; rw [rtN_of hx]
  have hbw : b < w.heap.size := by omega
  have hbw2 : b ≤ w.heap.size := by omega
  have hkI : (0 : Int) ≤ (k : Int) ∧ (k : Int) < (R.length : Int) := by omega
  have hln := reach_len pl r.place
  clear hx
  go_enter Try.func19, Try.ntmps19
  go_upto_region 3 with fail
  refine Plan.wp_region_tree (.rd 0 (.rd 1 (.rd 2 (.rd 3 (.rd 4 (.rd 5 (.wr 6 (.rd 7 .done)))))))) (by kernel_rfl) (by kernel_rfl) ?_
  (repeat (first | (refine Plan.tree_read (v := ?_) rfl rfl ?_ ?_; rotate_left; (focus ((intro wS hSw; have hkS := (bcell hSw).1; try (have hkT := fun (b o : Nat) (h : b < w.heap.size) => hkS b o (by first | omega | (simp; omega) | (simp; done))); go_simp); try with_reducible rfl)); simp only [Act.put, List.setIfInBounds_toArray, List.set_cons_zero, List.set_cons_succ]) | (refine Plan.tree_skip rfl rfl ?_; simp only [Act.put, List.setIfInBounds_toArray, List.set_cons_zero, List.set_cons_succ])))
  (refine Plan.tree_write rfl (fun K hK => ?_); try go_simp)
  go_at_call 30
  (with_reducible refine (K1.out _ _ ((Below.refl _ _).alloc (Nat.le_refl _) _).drew).mono ?_)
  rintro e1 w1 ⟨E1, ee, rfl, hI, hFr, hb1⟩
  have kB := Plan.below_drew_go hb1
  obtain ⟨n, hn⟩ : ∃ n : Nat, Hid ((reach pl r.place).length = n) := ⟨_, rfl⟩
  have hnl : n ≤ 1000000 := by have := hn.out; omega
  rw [hn.out]
  (try go_simp)
  (refine hK.out _ _ (kB) ?_; clear hK K; try simp only [Act.put, List.setIfInBounds_toArray, List.set_cons_zero, List.set_cons_succ])
  (repeat (first | (refine Plan.tree_read (v := ?_) rfl rfl ?_ ?_; rotate_left; (focus ((intro wS hSw; have hkS := (bcell hSw).1; try (have hkT := fun (b o : Nat) (h : b < w.heap.size) => hkS b o (by first | omega | (simp; omega) | (simp; done))); go_simp); try with_reducible rfl)); simp only [Act.put, List.setIfInBounds_toArray, List.set_cons_zero, List.set_cons_succ]) | (refine Plan.tree_skip rfl rfl ?_; simp only [Act.put, List.setIfInBounds_toArray, List.set_cons_zero, List.set_cons_succ])))
  refine Plan.tree_done ?_
  have hB1 : Below w.heap.size w w1 := ((Below.refl _ _).alloc (Nat.le_refl _) _).trans (kB.mono (by simp))
  have hX1 : BoxB w1 w.heap.size X pl := (BoxB.new w X pl).below kB (by simp)
  have hz1 : w.heap.size + 1 ≤ w1.heap.size := by have := kB.size; simpa using this
  go_wp2_with fail
  clear hb1 kB r0 r1 r2 r3 hFr
  go_loopw [12] (fun c wr => ∃ m : Nat, m ≤ n ∧ c = .int .i64 m ∧ Hid (∀ x ∈ (rcR pl R k).take m, stopP pl R S G k x = false) ∧ Below w1.heap.size w1 wr) (fun c _ => n - (intOf c).toNat)
  case atStart => exact ⟨0, Nat.zero_le _, rfl, fun x hx => by simp at hx, Below.refl _ _⟩
  case round =>
    obtain ⟨m, hm, rfl, hno, hBy⟩ := hrel
    by_cases hml : m < n
    case neg =>
      have hN : Hid (stopI pl R S G k = -1) := by show _ = _; rw [hF.out]; exact stop_none (by have := hno.out; rw [show m = (rcR pl R k).length by rw [hrc.out, hn.out]; omega] at this; exact this)
      clear hno hF K1 K2 K0 K3
      go_wp2_with fail
      go_ret
      exact ⟨ret_int hN.out.symm, hB1.trans (hBy.mono (by omega))⟩
    obtain ⟨q, hq⟩ : ∃ q, (reach pl r.place)[m]? = some q := ⟨_, List.getElem?_eq_getElem (by rw [hn.out]; exact hml)⟩
    have hqI : (natsI (reach pl r.place))[m]? = some (q : Int) := by unfold natsI; rw [List.getElem?_map, hq]; rfl
    obtain ⟨b5, off5, rfl, hb5, c5w⟩ := hI.at_ hqI
    have hmI : (0 : Int) ≤ (m : Int) ∧ (m : Int) < (n : Int) := by omega
    have c5 := (hBy.cell (p := ⟨b5, off5 + m, none⟩) hb5).trans c5w
    have hX2 := hX1.below hBy (by omega)
    obtain ⟨x0, x1, x2, x3, x4, x5, x6, x7, x8, x9, x10⟩ := hX2.cells
    have hzr : w1.heap.size ≤ wr.heap.size := hBy.size
    have hb5r : b5 < wr.heap.size := by omega
    have hzw : w.heap.size < wr.heap.size := by omega
    have hBw := hB1.trans (hBy.mono (by omega))
    have hit := Lib.hid (fun hp => stop_hit (S := S) (G := G) hno.out (by rw [hrc.out]; exact hq) hp)
    have miss := Lib.hid (fun hp => all_take_succ (p := stopP pl R S G k) hno.out (by rw [hrc.out]; exact hq) hp)
    have hPq := Lib.hid (stopP_eq (pl := pl) (R := R) (G := G) hS k q)
    obtain ⟨V, hV⟩ : ∃ V, leftN pl R S G R.length q = V := ⟨_, rfl⟩
    have hPq2 := hPq.out
    rw [hV] at hPq2
    have HPq := Lib.hid hPq2
    have K4 := fun wx h => K3.out q wx h
    unfold IntBe at K4
    rw [hV] at K4
    have K4 := Lib.hid K4
    clear hq hqI hPq hPq2 hV hno
    go_upto_region 7 with fail
    refine Plan.wp_region_tree (.rd 0 (.rd 1 (.rd 2 (.rd 3 (.rd 4 (.rd 5 (.rd 6 (.rd 7 (.wr 8 (.rd 9 (.rd 10 .done))))))))))) (by kernel_rfl) (by kernel_rfl) ?_
    (repeat (first | (refine Plan.tree_read (v := ?_) rfl rfl ?_ ?_; rotate_left; (focus ((intro wS hSw; have hkS := (bcell hSw).1; try (have hkT := fun (b o : Nat) (h : b < w.heap.size) => hkS b o (by first | omega | (simp; omega) | (simp; done))); go_simp); try with_reducible rfl)); simp only [Act.put, List.setIfInBounds_toArray, List.set_cons_zero, List.set_cons_succ]) | (refine Plan.tree_skip rfl rfl ?_; simp only [Act.put, List.setIfInBounds_toArray, List.set_cons_zero, List.set_cons_succ])))
    (refine Plan.tree_write rfl (fun K hK => ?_); try go_simp)
    go_at_call 37
    (with_reducible refine (K4.out _ hBw.drew).mono ?_)
    rintro e2 w2 ⟨rfl, hb2⟩
    have kB2 := Plan.below_drew_go hb2
    (try go_simp)
    (refine hK.out _ _ (kB2) ?_; clear hK K; try simp only [Act.put, List.setIfInBounds_toArray, List.set_cons_zero, List.set_cons_succ])
    (repeat (first | (refine Plan.tree_read (v := ?_) rfl rfl ?_ ?_; rotate_left; (focus ((intro wS hSw; have hkS := (bcell hSw).1; try (have hkT := fun (b o : Nat) (h : b < w.heap.size) => hkS b o (by first | omega | (simp; omega) | (simp; done))); go_simp); try with_reducible rfl)); simp only [Act.put, List.setIfInBounds_toArray, List.set_cons_zero, List.set_cons_succ]) | (refine Plan.tree_skip rfl rfl ?_; simp only [Act.put, List.setIfInBounds_toArray, List.set_cons_zero, List.set_cons_succ])))
    refine Plan.tree_done ?_
    have hBy2 := hBy.trans (kB2.mono hzr)
    go_wp2_with fail
    clear hb2 kB2 hX2 x0 x1 x2 x3 x4 x5 x6 x7 x8 x9 x10 c5 hBw hBy
    go_loopw [13, 14] (fun st c wr => ∃ (j : Nat) (bv : Bool), c = .int .i64 j ∧ k + 1 ≤ j ∧ j ≤ R.length ∧ st = .bool bv ∧ Hid (bv = (decide (V ≤ 0) && dryF pl R G k q j)) ∧ Below w1.heap.size w1 wr) (fun _ c _ => R.length - (intOf c).toNat)
    case atStart => exact ⟨k + 1, decide (V ≤ 0), by go_num, Nat.le_refl _, by omega, rfl, by show _ = _; rw [dryF_start, Bool.and_true], hBy2⟩
    case round =>
      clear hBy2 hzr hb5r hzw
      obtain ⟨j, bv, rfl, hkj, hjR, rfl, hbv, hBy⟩ := hrel
      have hX2 := hX1.below hBy (by omega)
      obtain ⟨x0, x1, x2, x3, x4, x5, x6, x7, x8, x9, x10⟩ := hX2.cells
      have c5 := (hBy.cell (p := ⟨b5, off5 + m, none⟩) hb5).trans c5w
      have hzr : w1.heap.size ≤ wr.heap.size := hBy.size
      have hb5r : b5 < wr.heap.size := by omega
      have hzw : w.heap.size < wr.heap.size := by omega
      have hBw := hB1.trans (hBy.mono (by omega))
      by_cases hjl : j < R.length
      case neg =>
        have hje : j = R.length := by omega
        subst hje
        have hbv2 : Hid (bv = stopP pl R S G k q) := by show _ = _; rw [hbv.out, HPq.out]
        cases bv
        · have hN := Lib.hid (miss.out hbv2.out.symm)
          clear hit miss hbv hbv2 K4
          go_wp2_with fail
          go_roundw
          case rel => exact ⟨m + 1, by omega, by go_num, hN, hBy⟩
          case measure => simp [intOf]; omega
        · have hN : Hid (stopI pl R S G k = q) := by show _ = _; rw [hF.out]; exact hit.out hbv2.out.symm
          clear hit miss hbv hbv2 K4 hF
          go_wp2_with fail
          go_ret
          exact ⟨ret_int hN.out.symm, hBw⟩
      obtain ⟨r', hx'⟩ : ∃ r', R[j]? = some r' := ⟨_, List.getElem?_eq_getElem hjl⟩
      obtain ⟨b', off', e', hb', s0, s1, s2, s3, _⟩ := HRs.out j r' hx'
      obtain ⟨rfl, rfl⟩ : b = b' ∧ off = off' := by injection e' with e'; injection e' with e1 e2; exact ⟨e1, e2⟩
      have q3 := (hBw.cell (p := ⟨b, off + j * 9 + 3, none⟩) (by show b < _; omega)).trans s3
      have hrc' : Hid (rcR pl R j = reach pl r'.place) := by show _ = _; unfold rcR; rw [rtN_of hx']
      have hln' := reach_len pl r'.place
      have hjI : (0 : Int) ≤ (j : Int) ∧ (j : Int) < (R.length : Int) := by omega
      have hbr : b < wr.heap.size := by have := hBw.size; omega
      have wet := Lib.hid (fun hq hg => dryF_wet (pl := pl) (R := R) (G := G) (i := k) (q := q) (j := j) (by omega) hq hg)
      have dry := Lib.hid (fun h => dryF_dry (pl := pl) (R := R) (G := G) (i := k) (q := q) (j := j) h)
      clear hx' e' s0 s1 s2 s3
      have K5 := K2.out j
      unfold IntIs at K5
      rw [gotI_nat] at K5
      obtain ⟨gk, hgk⟩ : ∃ gk, gotG G j = gk := ⟨_, rfl⟩
      rw [hgk] at K5
      have wet2 := Lib.hid (fun hq (hg : 0 < gk) => wet.out hq (by rw [hgk]; exact hg))
      have K5 := Lib.hid K5
      by_cases hqm : q ∈ reach pl r'.place
      case neg =>
        have hh : Hid (hasI (natsI (reach pl r'.place)) (q : Int) = false) := by show _ = _; rw [hasI_nats]; exact decide_eq_false hqm
        have hbv2 : Hid (bv = (decide (V ≤ 0) && dryF pl R G k q (j + 1))) := by show _ = _; rw [dry.out (fun h => hqm (by rw [← hrc'.out]; exact h.1)), hbv.out]
        clear hgk wet dry wet2 hqm K5
        go_upto_region 11 with fail
        refine Plan.wp_region_tree (.rd 0 (.rd 1 (.rd 2 (.rd 3 (.rd 4 (.rd 5 (.rd 7 (.rd 8 (.rd 9 (.rd 10 (.wr 6 (.wr 11 (.rd 12 .done))))))))))))) (by kernel_rfl) (by kernel_rfl) ?_
        (repeat (first | (refine Plan.tree_read (v := ?_) rfl rfl ?_ ?_; rotate_left; (focus ((intro wS hSw; have hkS := (bcell hSw).1; try (have hkT := fun (b o : Nat) (h : b < w.heap.size) => hkS b o (by first | omega | (simp; omega) | (simp; done))); go_simp); try with_reducible rfl)); simp only [Act.put, List.setIfInBounds_toArray, List.set_cons_zero, List.set_cons_succ]) | (refine Plan.tree_skip rfl rfl ?_; simp only [Act.put, List.setIfInBounds_toArray, List.set_cons_zero, List.set_cons_succ])))
        (refine Plan.tree_write rfl (fun K hK => ?_); try go_simp)
        go_at_call 30
        (with_reducible refine (K1.out _ _ hBw.drew).mono ?_)
        rintro e3 w3 ⟨E3, ee3, rfl, hI3, hFr3, hb3⟩
        have kB3 := Plan.below_drew_go hb3
        (try go_simp)
        (refine hK.out _ _ (kB3) ?_; clear hK K; try simp only [Act.put, List.setIfInBounds_toArray, List.set_cons_zero, List.set_cons_succ])
        (repeat (first | (refine Plan.tree_read (v := ?_) rfl rfl ?_ ?_; rotate_left; (focus ((intro wS hSw; have hkS := (bcell hSw).1; try (have hkT := fun (b o : Nat) (h : b < w.heap.size) => hkS b o (by first | omega | (simp; omega) | (simp; done))); go_simp); try with_reducible rfl)); simp only [Act.put, List.setIfInBounds_toArray, List.set_cons_zero, List.set_cons_succ]) | (refine Plan.tree_skip rfl rfl ?_; simp only [Act.put, List.setIfInBounds_toArray, List.set_cons_zero, List.set_cons_succ])))
        (refine Plan.tree_write rfl (fun K hK => ?_); try go_simp)
        have K6 := K0.out (reach pl r'.place) E3 ee3 q w3 _ hI3 (by rw [natsI_len]; omega)
        unfold BoolEq at K6
        rw [natsI_len, hh.out] at K6
        have K6 := Lib.hid K6
        go_at_call 26
        (with_reducible refine K6.out.mono ?_)
        rintro e4 w4 ⟨rfl, rfl⟩
        (try go_simp)
        (refine hK.out _ _ (kB3) ?_; clear hK K; try simp only [Act.put, List.setIfInBounds_toArray, List.set_cons_zero, List.set_cons_succ])
        (repeat (first | (refine Plan.tree_read (v := ?_) rfl rfl ?_ ?_; rotate_left; (focus ((intro wS hSw; have hkS := (bcell hSw).1; try (have hkT := fun (b o : Nat) (h : b < w.heap.size) => hkS b o (by first | omega | (simp; omega) | (simp; done))); go_simp); try with_reducible rfl)); simp only [Act.put, List.setIfInBounds_toArray, List.set_cons_zero, List.set_cons_succ]) | (refine Plan.tree_skip rfl rfl ?_; simp only [Act.put, List.setIfInBounds_toArray, List.set_cons_zero, List.set_cons_succ])))
        refine Plan.tree_done ?_
        go_wp2_with fail
        have hBn := hBy.trans (kB3.mono hzr)
        clear hBy hBw hb3 hI3 kB3 hX2
        go_roundw
        case rel => exact ⟨j + 1, bv, by go_num, by omega, by omega, rfl, hbv2, hBn⟩
        case measure => simp [intOf]; omega
      have hh : Hid (hasI (natsI (reach pl r'.place)) (q : Int) = true) := by show _ = _; rw [hasI_nats]; exact decide_eq_true hqm
      by_cases hgp : 0 < gk
      case neg =>
        have hbv2 : Hid (bv = (decide (V ≤ 0) && dryF pl R G k q (j + 1))) := by show _ = _; rw [dry.out (fun h => hgp (by rw [← hgk]; exact h.2)), hbv.out]
        clear hgk wet dry wet2 hqm
        go_upto_region 11 with fail
        refine Plan.wp_region_tree (.rd 0 (.rd 1 (.rd 2 (.rd 3 (.rd 4 (.rd 5 (.rd 7 (.rd 8 (.rd 9 (.rd 10 (.wr 6 (.wr 11 (.rd 12 .done))))))))))))) (by kernel_rfl) (by kernel_rfl) ?_
        (repeat (first | (refine Plan.tree_read (v := ?_) rfl rfl ?_ ?_; rotate_left; (focus ((intro wS hSw; have hkS := (bcell hSw).1; try (have hkT := fun (b o : Nat) (h : b < w.heap.size) => hkS b o (by first | omega | (simp; omega) | (simp; done))); go_simp); try with_reducible rfl)); simp only [Act.put, List.setIfInBounds_toArray, List.set_cons_zero, List.set_cons_succ]) | (refine Plan.tree_skip rfl rfl ?_; simp only [Act.put, List.setIfInBounds_toArray, List.set_cons_zero, List.set_cons_succ])))
        (refine Plan.tree_write rfl (fun K hK => ?_); try go_simp)
        go_at_call 30
        (with_reducible refine (K1.out _ _ hBw.drew).mono ?_)
        rintro e3 w3 ⟨E3, ee3, rfl, hI3, hFr3, hb3⟩
        have kB3 := Plan.below_drew_go hb3
        (try go_simp)
        (refine hK.out _ _ (kB3) ?_; clear hK K; try simp only [Act.put, List.setIfInBounds_toArray, List.set_cons_zero, List.set_cons_succ])
        (repeat (first | (refine Plan.tree_read (v := ?_) rfl rfl ?_ ?_; rotate_left; (focus ((intro wS hSw; have hkS := (bcell hSw).1; try (have hkT := fun (b o : Nat) (h : b < w.heap.size) => hkS b o (by first | omega | (simp; omega) | (simp; done))); go_simp); try with_reducible rfl)); simp only [Act.put, List.setIfInBounds_toArray, List.set_cons_zero, List.set_cons_succ]) | (refine Plan.tree_skip rfl rfl ?_; simp only [Act.put, List.setIfInBounds_toArray, List.set_cons_zero, List.set_cons_succ])))
        (refine Plan.tree_write rfl (fun K hK => ?_); try go_simp)
        have K6 := K0.out (reach pl r'.place) E3 ee3 q w3 _ hI3 (by rw [natsI_len]; omega)
        unfold BoolEq at K6
        rw [natsI_len, hh.out] at K6
        have K6 := Lib.hid K6
        go_at_call 26
        (with_reducible refine K6.out.mono ?_)
        rintro e4 w4 ⟨rfl, rfl⟩
        (try go_simp)
        (refine hK.out _ _ (kB3) ?_; clear hK K; try simp only [Act.put, List.setIfInBounds_toArray, List.set_cons_zero, List.set_cons_succ])
        (repeat (first | (refine Plan.tree_read (v := ?_) rfl rfl ?_ ?_; rotate_left; (focus ((intro wS hSw; have hkS := (bcell hSw).1; try (have hkT := fun (b o : Nat) (h : b < w.heap.size) => hkS b o (by first | omega | (simp; omega) | (simp; done))); go_simp); try with_reducible rfl)); simp only [Act.put, List.setIfInBounds_toArray, List.set_cons_zero, List.set_cons_succ]) | (refine Plan.tree_skip rfl rfl ?_; simp only [Act.put, List.setIfInBounds_toArray, List.set_cons_zero, List.set_cons_succ])))
        refine Plan.tree_done ?_
        have hBw3 := hBw.trans (kB3.mono (by omega))
        go_wp2_with (first | (go_at_call 36; ((with_reducible refine (K5.out _ hBw3).mono ?_); rintro e5 w5 ⟨rfl, rfl⟩)) | fail)
        have hBn := hBy.trans (kB3.mono hzr)
        clear hBy hBw hb3 hI3 kB3 hX2
        go_roundw
        case rel => exact ⟨j + 1, bv, by go_num, by omega, by omega, rfl, hbv2, hBn⟩
        case measure => simp [intOf]; omega
      have hbv2 : Hid (false = (decide (V ≤ 0) && dryF pl R G k q (j + 1))) := by show _ = _; rw [wet2.out (by rw [hrc'.out]; exact hqm) hgp, Bool.and_false]
      clear hgk wet dry wet2 hqm
      go_upto_region 11 with fail
      refine Plan.wp_region_tree (.rd 0 (.rd 1 (.rd 2 (.rd 3 (.rd 4 (.rd 5 (.rd 7 (.rd 8 (.rd 9 (.rd 10 (.wr 6 (.wr 11 (.rd 12 .done))))))))))))) (by kernel_rfl) (by kernel_rfl) ?_
      (repeat (first | (refine Plan.tree_read (v := ?_) rfl rfl ?_ ?_; rotate_left; (focus ((intro wS hSw; have hkS := (bcell hSw).1; try (have hkT := fun (b o : Nat) (h : b < w.heap.size) => hkS b o (by first | omega | (simp; omega) | (simp; done))); go_simp); try with_reducible rfl)); simp only [Act.put, List.setIfInBounds_toArray, List.set_cons_zero, List.set_cons_succ]) | (refine Plan.tree_skip rfl rfl ?_; simp only [Act.put, List.setIfInBounds_toArray, List.set_cons_zero, List.set_cons_succ])))
      (refine Plan.tree_write rfl (fun K hK => ?_); try go_simp)
      go_at_call 30
      (with_reducible refine (K1.out _ _ hBw.drew).mono ?_)
      rintro e3 w3 ⟨E3, ee3, rfl, hI3, hFr3, hb3⟩
      have kB3 := Plan.below_drew_go hb3
      (try go_simp)
      (refine hK.out _ _ (kB3) ?_; clear hK K; try simp only [Act.put, List.setIfInBounds_toArray, List.set_cons_zero, List.set_cons_succ])
      (repeat (first | (refine Plan.tree_read (v := ?_) rfl rfl ?_ ?_; rotate_left; (focus ((intro wS hSw; have hkS := (bcell hSw).1; try (have hkT := fun (b o : Nat) (h : b < w.heap.size) => hkS b o (by first | omega | (simp; omega) | (simp; done))); go_simp); try with_reducible rfl)); simp only [Act.put, List.setIfInBounds_toArray, List.set_cons_zero, List.set_cons_succ]) | (refine Plan.tree_skip rfl rfl ?_; simp only [Act.put, List.setIfInBounds_toArray, List.set_cons_zero, List.set_cons_succ])))
      (refine Plan.tree_write rfl (fun K hK => ?_); try go_simp)
      have K6 := K0.out (reach pl r'.place) E3 ee3 q w3 _ hI3 (by rw [natsI_len]; omega)
      unfold BoolEq at K6
      rw [natsI_len, hh.out] at K6
      have K6 := Lib.hid K6
      go_at_call 26
      (with_reducible refine K6.out.mono ?_)
      rintro e4 w4 ⟨rfl, rfl⟩
      (try go_simp)
      (refine hK.out _ _ (kB3) ?_; clear hK K; try simp only [Act.put, List.setIfInBounds_toArray, List.set_cons_zero, List.set_cons_succ])
      (repeat (first | (refine Plan.tree_read (v := ?_) rfl rfl ?_ ?_; rotate_left; (focus ((intro wS hSw; have hkS := (bcell hSw).1; try (have hkT := fun (b o : Nat) (h : b < w.heap.size) => hkS b o (by first | omega | (simp; omega) | (simp; done))); go_simp); try with_reducible rfl)); simp only [Act.put, List.setIfInBounds_toArray, List.set_cons_zero, List.set_cons_succ]) | (refine Plan.tree_skip rfl rfl ?_; simp only [Act.put, List.setIfInBounds_toArray, List.set_cons_zero, List.set_cons_succ])))
      refine Plan.tree_done ?_
      have hBw3 := hBw.trans (kB3.mono (by omega))
      go_wp2_with (first | (go_at_call 36; ((with_reducible refine (K5.out _ hBw3).mono ?_); rintro e5 w5 ⟨rfl, rfl⟩)) | fail)
      have hBn := hBy.trans (kB3.mono hzr)
      clear hBy hBw hb3 hI3 kB3 hX2
      go_roundw
      case rel => exact ⟨j + 1, false, by go_num, by omega, by omega, rfl, hbv2, hBn⟩
      case measure => simp [intOf]; omega
end Go.Proofs.Ytkbceeobnbbfbaa
