/- CallStops: for every input the law answers true. -/
import Derived.Test.YtkbceeobnbbfbaaSM
import Derived.Test.YtkbceeobnbbfbaaLP0
import Derived.Test.YtkbceeobnbbfbaaLT
import Derived.Test.YtkbceeobnbbfbaaLO0
import Derived.Test.YtkbceeobnbbfbaaLO0
set_option linter.unusedSimpArgs false
set_option linter.unusedVariables false
namespace Go.Proofs.Ytkbceeobnbbfbaa
open Go.RowKit CM
attribute [local go_sem] alloc_drewN setCell_drewN shape_drewN

set_option maxRecDepth 100000 in
set_option maxHeartbeats 8000000 in
theorem stops_any (X : Bas) (pl : Pl) (R : List Rt) (S : List Int) (C : Option Addr) (cr : Nat) (E : Option Addr) (cs : Nat) (w : World) (hP : PlacesAt w w.heap.size X.P pl) (hR : RightsAt w w.heap.size C R) (hE : IntsAt w w.heap.size E S)
    (hl : pl.length ≤ 9223372036854775807) (hr : R.length ≤ 9223372036854775807) (hs : S.length ≤ 9223372036854775807) (hS : ∀ x ∈ S, In64 x) :
    Calls Try.prog 5 #[.agg #[.string X.nm, .slice X.a1 X.l1 X.c1, .int .i64 X.cl, .slice X.P pl.length X.cP, .slice X.a4 X.l4 X.c4, .slice X.a5 X.l5 X.c5, .slice X.a6 X.l6 X.c6, .slice X.a7 X.l7 X.c7, .slice X.a8 X.l8 X.c8, .slice X.a9 X.l9 X.c9, .int .i64 X.er], .slice C R.length cr, .slice E S.length cs] w (BoolIs true w) := by
  have K0 := Lib.hid (fun wx => small_any wx)
  obtain ⟨fv, hfv⟩ : ∃ fv, fewB pl R.length 0 = fv := ⟨_, rfl⟩
  obtain ⟨mv, hmv⟩ : ∃ mv, modB S = mv := ⟨_, rfl⟩
  have K1 : Hid (∀ wx, Calls Try.prog 9 #[.agg #[.string X.nm, .slice X.a1 X.l1 X.c1, .int .i64 X.cl, .slice X.P pl.length X.cP, .slice X.a4 X.l4 X.c4, .slice X.a5 X.l5 X.c5, .slice X.a6 X.l6 X.c6, .slice X.a7 X.l7 X.c7, .slice X.a8 X.l8 X.c8, .slice X.a9 X.l9 X.c9, .int .i64 X.er], .slice C R.length cr, .slice none 0 0] wx (BoolIs fv wx)) := fun wx => by have := few_any X pl C R.length cr none 0 0 wx; rw [hfv] at this; exact this
  have K2 : Hid (∀ wx, Below w.heap.size w wx → Calls Try.prog 22 #[.slice E S.length cs] wx (BoolIs mv wx)) := fun wx h => by have := (modest_any S E cs wx (hE.below h) hs).mono fun e w' h => pure_below h; rw [hmv] at this; exact this
  have hnP := Lib.hid (fun (h1 : fv = true) (h2 : mv = true) => (⟨fewB_true (hfv.trans h1), hmv.trans h2⟩ : (pl.length ≤ 16 ∧ R.length ≤ 14 ∧ 0 ≤ 20) ∧ modB S = true))
  clear hfv hmv
  by_cases hall : fv = true ∧ mv = true
  case neg =>
    clear hnP
    cases fv
    · go_enter Try.func5, Try.ntmps5
      go_wp2_with (first | (go_at_call 8; ((with_reducible refine (K0.out _).mono ?_); rintro e1 w1 ⟨rfl, hb1⟩; have kc := (bcell hb1).1)) | (go_at_call 9; ((with_reducible refine (K1.out _).mono ?_); rintro e2 w2 ⟨rfl, hb2⟩; have hB2 := ((((Below.refl _ _).alloc (Nat.le_refl _) _).trans (hb1.mono (by simp)))).trans (hb2.mono (by have := hb1.size; simp at this; omega)))) | (go_at_call 22; ((with_reducible refine (K2.out _ hB2).mono ?_); rintro e3 w3 ⟨rfl, hb3⟩)) | fail)
      go_ret
      exact ⟨rfl, hB2.trans (hb3.mono (by have h1 := hB2.size; omega))⟩
    cases mv
    · go_enter Try.func5, Try.ntmps5
      go_wp2_with (first | (go_at_call 8; ((with_reducible refine (K0.out _).mono ?_); rintro e1 w1 ⟨rfl, hb1⟩; have kc := (bcell hb1).1)) | (go_at_call 9; ((with_reducible refine (K1.out _).mono ?_); rintro e2 w2 ⟨rfl, hb2⟩; have hB2 := ((((Below.refl _ _).alloc (Nat.le_refl _) _).trans (hb1.mono (by simp)))).trans (hb2.mono (by have := hb1.size; simp at this; omega)))) | (go_at_call 22; ((with_reducible refine (K2.out _ hB2).mono ?_); rintro e3 w3 ⟨rfl, hb3⟩)) | fail)
      go_ret
      exact ⟨rfl, hB2.trans (hb3.mono (by have h1 := hB2.size; omega))⟩
    exact absurd ⟨rfl, rfl⟩ hall
  obtain ⟨rfl, rfl⟩ := hall
  obtain ⟨⟨f1, f2, f3⟩, hmod⟩ := hnP.out rfl rfl
  have hM := Lib.hid (modest_of hmod f1 f2)
  have hdl := Lib.hid (dayLs_len (pl := pl) (R := R) (S := S))
  clear hnP hmod
  have K3 : Hid (∀ wx, Below w.heap.size w wx → Calls Try.prog 23 #[.agg #[.string X.nm, .slice X.a1 X.l1 X.c1, .int .i64 X.cl, .slice X.P pl.length X.cP, .slice X.a4 X.l4 X.c4, .slice X.a5 X.l5 X.c5, .slice X.a6 X.l6 X.c6, .slice X.a7 X.l7 X.c7, .slice X.a8 X.l8 X.c8, .slice X.a9 X.l9 X.c9, .int .i64 X.er], .slice C R.length cr, .slice E S.length cs] wx (DayIs pl R S wx)) := fun wx h => day_any X pl R S C cr E cs wx (hP.below h) (hR.below h) (hE.below h) h.size (by omega) (by omega) hs hS
  have K4 : Hid (∀ (r : Rt) (wx : World), Below w.heap.size w wx → Calls Try.prog 25 #[.agg #[.string X.nm, .slice X.a1 X.l1 X.c1, .int .i64 X.cl, .slice X.P pl.length X.cP, .slice X.a4 X.l4 X.c4, .slice X.a5 X.l5 X.c5, .slice X.a6 X.l6 X.c6, .slice X.a7 X.l7 X.c7, .slice X.a8 X.l8 X.c8, .slice X.a9 X.l9 X.c9, .int .i64 X.er], .int .i64 r.place] wx (ReachIs (reach pl r.place) wx)) := fun r wx h => reach_any X pl r.place wx (hP.below h) h.size (by omega)
  have K5 : Hid (∀ (A : Option Addr) (ca k : Nat) (wx : World), k < R.length → PairsAt wx wx.heap.size A (dayLs pl R S) → Below w.heap.size w wx → Calls Try.prog 18 #[.agg #[.string X.nm, .slice X.a1 X.l1 X.c1, .int .i64 X.cl, .slice X.P pl.length X.cP, .slice X.a4 X.l4 X.c4, .slice X.a5 X.l5 X.c5, .slice X.a6 X.l6 X.c6, .slice X.a7 X.l7 X.c7, .slice X.a8 X.l8 X.c8, .slice X.a9 X.l9 X.c9, .int .i64 X.er], .slice C R.length cr, .slice E S.length cs, .slice A R.length ca, .int .i64 k] wx (IntBe (stopN pl R S (dayLs pl R S) k) wx)) := fun A ca k wx hk hA h => by
    have := Stop_any X pl R S (dayLs pl R S) C cr E cs A ca (k : Int) wx ((hP.below h).more h.size) ((hR.below h).more h.size) ((hE.below h).more h.size) hA (Nat.le_refl _) (by omega) (by omega) (by rw [hdl.out]; omega) hs hS
    rw [stopI_nat hk, hdl.out] at this
    exact this
  have K6 : Hid (∀ (q : Nat) (l : List Nat) (F : Option Addr) (cf : Nat) (wx : World), q ∈ l → l.length ≤ 16 → IntsAt wx wx.heap.size F (natsI l) → Calls Try.prog 26 #[.slice F l.length cf, .int .i64 q] wx (BoolIs true wx)) := fun q l F cf wx hq hl16 hF => by
    have := (has37_any (natsI l) F cf (q : Int) wx hF (by rw [natsI_len]; omega)).mono fun e w' h => pure_below h
    rw [natsI_len, hasI_nats, decide_eq_true hq] at this
    exact this
  have K7 : Hid (∀ (q : Nat) (r : Rt) (wx : World), q < pl.length → q ∉ reach pl r.place → Below w.heap.size w wx → Calls Try.prog 10 #[.agg #[.string X.nm, .slice X.a1 X.l1 X.c1, .int .i64 X.cl, .slice X.P pl.length X.cP, .slice X.a4 X.l4 X.c4, .slice X.a5 X.l5 X.c5, .slice X.a6 X.l6 X.c6, .slice X.a7 X.l7 X.c7, .slice X.a8 X.l8 X.c8, .slice X.a9 X.l9 X.c9, .int .i64 X.er], .int .i64 q, .agg #[.int .i64 r.id, .int .i64 r.owner, .int .i64 r.date, .int .i64 r.place, .int .i64 r.rate, .int .i64 r.from1, .int .i64 r.until1, .int .i64 r.back, .int .i64 r.backTo]] wx (BoolIs true wx)) := fun q r wx h1 h2 h => by
    have := futile_any X pl (q : Int) r wx (hP.below h) h.size (by omega)
    have e : futF pl (q : Int) r.place = true := by
      unfold futF
      rw [hasI_nats, decide_eq_false h2, isPl_pos (by omega), decide_eq_true (by omega)]; rfl
    rw [e] at this
    exact this
  have HRs := Lib.hid (fun (j : Nat) (r : Rt) (h : R[j]? = some r) => hR.at_ h)
  clear hR
  go_enter Try.func5, Try.ntmps5
  go_upto_region 6 with (first | (go_at_call 8; ((with_reducible refine (K0.out _).mono ?_); rintro e1 w1 ⟨rfl, hb1⟩; have kc := (bcell hb1).1)) | (go_at_call 9; ((with_reducible refine (K1.out _).mono ?_); rintro e2 w2 ⟨rfl, hb2⟩; have hB2 := ((((Below.refl _ _).alloc (Nat.le_refl _) _).trans (hb1.mono (by simp)))).trans (hb2.mono (by have := hb1.size; simp at this; omega)); have hX2 : BoxB w2 w.heap.size X pl := ((BoxB.new w X pl).below (B := w.heap.size + 1) (hb1.mono (by simp)) (by omega)).below (B := w.heap.size + 1) (hb2.mono (by have := hb1.size; simpa using this)) (by omega))) | (go_at_call 22; ((with_reducible refine (K2.out _ hB2).mono ?_); rintro e3 w3 ⟨rfl, hb3⟩)) | fail)
  have hX3 : BoxB w3 w.heap.size X pl := hX2.below hb3 (by have h1 := hb1.size; have h2 := hb2.size; simp at h1; omega)
  have hB3 := hB2.trans (hb3.mono hB2.size)
  have hz3 : w.heap.size < w3.heap.size := by have h1 := hb1.size; have h2 := hb2.size; have h3 := hb3.size; simp at h1; omega
  clear hb1 hb2 hb3 kc K0 K1 K2 hX2 hB2
  obtain ⟨x0, x1, x2, x3, x4, x5, x6, x7, x8, x9, x10⟩ := hX3.cells
  have HB3 := Lib.hid hB3
  have hne0 : (R.length != R.length) = false := by simp
  have hne1 : ((R.length : Int) != (R.length : Int)) = false := by simp
  go_wp2_with (first | (go_at_call 23; ((with_reducible refine (K3.out _ HB3.out).mono ?_); intro e4 w4 hd; obtain ⟨D4, cd, rfl, hD4, hA4, hb4, hz44⟩ := day_pairs hd; clear hd; have kc := (bcell hb4).1)) | fail)
  have hX4 := hX3.below hb4 hz3
  have hB4 := hB3.trans (hb4.mono hB3.size)
  have hz4 : w.heap.size < w4.heap.size := by have := hb4.size; omega
  clear x0 x1 x2 x3 x4 x5 x6 x7 x8 x9 x10 hX3 hB3 hb4 hz3 kc K3 hne0 hne1
  go_loopw [12] (fun i wr => ∃ k : Nat, k ≤ R.length ∧ i = .int .i64 k ∧ Below w4.heap.size w4 wr) (fun i _ => R.length - (intOf i).toNat)
  case atStart => exact ⟨0, Nat.zero_le _, rfl, Below.refl _ _⟩
  case round =>
    obtain ⟨k, hk, rfl, hBy⟩ := hrel
    have hBw := hB4.trans (hBy.mono (by omega))
    have hX5 := hX4.below hBy hz4
    have hD5 := (hD4.below hBy).more hBy.size
    have hA5 := hA4.below hBy (by omega)
    have hzr := hBy.size
    by_cases hlt : k < R.length
    case neg =>
      have hke : k = R.length := by omega
      subst hke
      go_wp2_with fail
      go_ret
      exact ⟨rfl, hBw⟩
    obtain ⟨r, hxr⟩ : ∃ r, R[k]? = some r := ⟨_, List.getElem?_eq_getElem hlt⟩
    obtain ⟨b, off, rfl, hb, r0w, r1w, r2w, r3w, r4w, r5w, r6w, r7w, r8w⟩ := HRs.out k r hxr
    have hrc : Hid (rcR pl R k = reach pl r.place) := by show _ = _; unfold rcR; rw [rtN_of hxr]
    have hrr : Hid (rateR R k = r.rate) := by show _ = _; unfold rateR; rw [rtN_of hxr]
    have hdk : (dayLs pl R S)[k]? = some ((rtN R k).id, litN pl R S k) := by unfold dayLs dayList; simp [hlt]; rfl
    obtain ⟨b2, off2, rfl, hb2, g0, g1⟩ := hD5.at_ hdk
    dsimp only at g1
    have r3 := (hBw.cell (p := ⟨b, off + k * 9 + 3, none⟩) hb).trans r3w
    have r4 := (hBw.cell (p := ⟨b, off + k * 9 + 4, none⟩) hb).trans r4w
    have hkI : (0 : Int) ≤ (k : Int) ∧ (k : Int) < (R.length : Int) := by omega
    have hbw : b < wr.heap.size := by omega
    have hwz : w.heap.size ≤ wr.heap.size := by omega
    have hzw : w.heap.size < wr.heap.size := by omega
    have hln := reach_len pl r.place
    obtain ⟨x0, x1, x2, x3, x4, x5, x6, x7, x8, x9, x10⟩ := hX5.cells
    obtain ⟨L, hL⟩ : ∃ L, litN pl R S k = L := ⟨_, rfl⟩
    rw [hL] at g1
    have hL := Lib.hid hL
    obtain ⟨n, hn⟩ : ∃ n : Nat, Hid ((reach pl r.place).length = n) := ⟨_, rfl⟩
    have hnl : n ≤ 16 := by have := hn.out; omega
    have K8 : Hid (∀ (wx : World), Below w.heap.size w wx → Calls Try.prog 25 #[.agg #[.string X.nm, .slice X.a1 X.l1 X.c1, .int .i64 X.cl, .slice X.P pl.length X.cP, .slice X.a4 X.l4 X.c4, .slice X.a5 X.l5 X.c5, .slice X.a6 X.l6 X.c6, .slice X.a7 X.l7 X.c7, .slice X.a8 X.l8 X.c8, .slice X.a9 X.l9 X.c9, .int .i64 X.er], .int .i64 r.place] wx (fun e w' => ∃ F cf, e = .returned (.slice F n cf) ∧ IntsAt w' w'.heap.size F (natsI (reach pl r.place)) ∧ Below wx.heap.size wx w')) := fun wx h => (K4.out r wx h).mono fun e w' ⟨F, cf, he, h1, _, h2⟩ => ⟨F, cf, by rw [he, hn.out], h1, h2⟩
    clear hxr hdk g0
    have kB10 : Below wr.heap.size wr wr.drew := (Below.refl _ _).drew
    go_upto_region 12 with fail
    refine Plan.wp_region_tree (.rd 0 (.rd 1 (.rd 2 (.rd 3 (.rd 4 (.rd 5 (.wr 6 (.rd 7 .done)))))))) (by kernel_rfl) (by kernel_rfl) ?_
    (repeat (first | (refine Plan.tree_read (v := ?_) rfl rfl ?_ ?_; rotate_left; (focus ((intro wS hSw; have hkS := (bcell hSw).1; try (have hkT := fun (b o : Nat) (h : b < w.heap.size) => hkS b o (by first | omega | (simp; omega) | (simp; done))); go_simp); try with_reducible rfl)); simp only [Act.put, List.setIfInBounds_toArray, List.set_cons_zero, List.set_cons_succ]) | (refine Plan.tree_skip rfl rfl ?_; simp only [Act.put, List.setIfInBounds_toArray, List.set_cons_zero, List.set_cons_succ])))
    (refine Plan.tree_write rfl (fun K hK => ?_); try go_simp)
    go_at_call 25
    (with_reducible refine (K8.out _ (hBw.trans (kB10.mono hwz))).mono ?_)
    rintro e11 w11 ⟨F, cf, rfl, hF, hb11⟩
    have kB11 := Plan.below_go kB10 hb11
    (try go_simp)
    (refine hK.out _ _ (kB11) ?_; clear hK K; try simp only [Act.put, List.setIfInBounds_toArray, List.set_cons_zero, List.set_cons_succ])
    (repeat (first | (refine Plan.tree_read (v := ?_) rfl rfl ?_ ?_; rotate_left; (focus ((intro wS hSw; have hkS := (bcell hSw).1; try (have hkT := fun (b o : Nat) (h : b < w.heap.size) => hkS b o (by first | omega | (simp; omega) | (simp; done))); go_simp); try with_reducible rfl)); simp only [Act.put, List.setIfInBounds_toArray, List.set_cons_zero, List.set_cons_succ]) | (refine Plan.tree_skip rfl rfl ?_; simp only [Act.put, List.setIfInBounds_toArray, List.set_cons_zero, List.set_cons_succ])))
    refine Plan.tree_done ?_
    have g2 := (kB11.cell (p := ⟨b2, off2 + k * 2 + 1, none⟩) hb2).trans g1
    have r5 := (kB11.cell (p := ⟨b, off + k * 9 + 4, none⟩) hbw).trans r4
    have hBy2 := hBy.trans (kB11.mono hzr)
    have hzz := kB11.size
    have hbw2 : b < w11.heap.size := by omega
    have hbg2 : b2 < w11.heap.size := by omega
    clear kB10 hb11 K8 x0 x1 x2 x3 x4 x5 x6 x7 x8 x9 x10 g1 r3 r4
    go_upto_region 13 with fail
    by_cases hn0 : n = 0
    case pos =>
      have n0 : ((n : Int) == 0) = true := by simp [hn0]
      have n1 : (n == 0) = true := by simp [hn0]
      have hn0 := Lib.hid hn0
      go_quiet (fail)
      go_wp2_with fail
      go_roundw
      case rel => exact ⟨k + 1, by omega, by go_num, below_drewN hBy2 _⟩
      case measure => simp [intOf]; omega
    have n0 : ((n : Int) == 0) = false := by simp; omega
    have n1 : (n == 0) = false := by simp; omega
    by_cases hge : r.rate ≤ L
    case pos =>
      have d1 : decide (r.rate ≤ L) = true := decide_eq_true hge
      go_quiet (fail)
      go_wp2_with fail
      go_roundw
      case rel => exact ⟨k + 1, by omega, by go_num, below_drewN hBy2 _⟩
      case measure => simp [intOf]; omega
    have d1 : decide (r.rate ≤ L) = false := decide_eq_false hge
    obtain ⟨q, hq1, hq2, hq3, hq4⟩ := stop_day hM.out hlt (by rw [hrc.out]; intro e; rw [e] at hn; exact hn0 hn.out.symm) (by rw [hL.out, hrr.out]; omega)
    have hqn : q < pl.length := rcR_lt hq2
    have K9 := fun A ca wx h1 h2 => K5.out A ca k wx hlt h1 h2
    rw [hq1] at K9
    have K9 := Lib.hid K9
    have K10 := fun F cf wx h => K6.out q (reach pl r.place) F cf wx (by rw [← hrc.out]; exact hq2) (by omega) h
    rw [hn.out] at K10
    have K10 := Lib.hid K10
    have hfar := Lib.hid hq4
    have hq3 := Lib.hid hq3
    clear hq1 hq2 hq4
    have kB20 : Below w11.heap.size w11 w11.drew := (Below.refl _ _).drew
    refine Plan.wp_region_tree (.rd 0 (.rd 1 (.rd 2 (.rd 3 (.rd 4 (.rd 5 (.rd 6 (.rd 7 (.rd 8 (.rd 9 (.rd 10 (.rd 11 (.rd 12 (.rd 13 (.rd 14 (.rd 15 .done)))))))))))))))) (by kernel_rfl) (by kernel_rfl) ?_
    (repeat (first | (refine Plan.tree_read (v := ?_) rfl rfl ?_ ?_; rotate_left; (focus ((intro wS hSw; have hkS := (bcell hSw).1; try (have hkT := fun (b o : Nat) (h : b < w.heap.size) => hkS b o (by first | omega | (simp; omega) | (simp; done))); go_simp); try with_reducible rfl)); simp only [Act.put, List.setIfInBounds_toArray, List.set_cons_zero, List.set_cons_succ]) | (refine Plan.tree_skip rfl rfl ?_; simp only [Act.put, List.setIfInBounds_toArray, List.set_cons_zero, List.set_cons_succ])))
    refine Plan.tree_done ?_
    have kBd : Below w11.heap.size w11 w11.drew := (Below.refl _ _).drew
    generalize w11.drew = w12 at kBd ⊢
    have kB12 := Plan.below_go kB11 kBd
    have hX6 := hX5.below kB12 hzw
    have hD6 := (hD5.below kB12).more kB12.size
    have hA6 := hA5.below kB12 (by omega)
    have hB6 := hBw.trans (kB12.mono hwz)
    have hF12 := (hF.below kBd).more kBd.size
    have hzz2 := kBd.size
    obtain ⟨a0, _⟩ := hA6 q hqn
    unfold dayV at a0
    rw [show dayN pl R S R.length q = 0 from hq3.out] at a0
    obtain ⟨x0, x1, x2, x3, x4, x5, x6, x7, x8, x9, x10⟩ := hX6.cells
    have hzx : w.heap.size < w12.heap.size := by omega
    have hzg : w3.heap.size + 1 + 1 < w12.heap.size := by omega
    have hq0 : ((0 : Int) != 0) = false := rfl
    have HD6 := Lib.hid hD6
    have HB6 := Lib.hid hB6
    go_wp2_with (first | (go_at_call 18; ((with_reducible refine (K9.out _ _ _ HD6.out HB6.out).mono ?_); rintro e21 w21 ⟨rfl, hb21⟩; have kc := (bcell hb21).1; have hF21 := (hF12.below hb21).more hb21.size)) | (go_at_call 26; ((with_reducible refine (K10.out _ _ _ hF21).mono ?_); rintro e22 w22 ⟨rfl, hb22⟩; have kc2 := (bcell hb22).1; have hs21 := hb21.size; have hzg2 : w3.heap.size + 1 + 1 < w21.heap.size := Nat.lt_of_lt_of_le hzg hs21)) | fail)
    have hb23 := hb21.trans (hb22.mono hb21.size)
    have hX7 := hX6.below hb23 hzx
    have hD7 := (hD6.below hb23).more hb23.size
    have hB7 := hB6.trans (hb23.mono (by omega))
    have hBy7 := (hBy.trans (kB12.mono hzr)).trans (hb23.mono (by omega))
    have hs23 := hb23.size
    have hz7 : w.heap.size < w22.heap.size := by omega
    clear kc kc2 hb21 hb22 hb23 hF21 hF12 hF x0 x1 x2 x3 x4 x5 x6 x7 x8 x9 x10 hX5 hX6 hD5 hD6 HD6 HB6 hA5 hA6 hBw hB6 hBy hBy2 kB11 kB12 kBd a0 g2 r5 hbw hbw2 hbg2 hb2 hzx hzg hzg2 hzw hwz hzz hzz2 hs21 hs23 hzr
    obtain ⟨wo, rfl⟩ : ∃ wo, wo = wr := ⟨_, rfl⟩
    go_loopw [16] (fun i wr => ∃ j : Nat, k + 1 ≤ j ∧ j ≤ R.length ∧ i = .int .i64 j ∧ Below w22.heap.size w22 wr) (fun i _ => R.length - (intOf i).toNat)
    case atStart => exact ⟨k + 1, Nat.le_refl _, by omega, by go_num, Below.refl _ _⟩
    case round =>
      obtain ⟨j, hkj, hjR, rfl, hBz⟩ := hrel
      have hBy8 := hBy7.trans (hBz.mono (by have := hBy7.size; omega))
      by_cases hjl : j < R.length
      case neg =>
        have hje : j = R.length := by omega
        subst hje
        go_wp2_with fail
        go_roundw
        case rel => exact ⟨k + 1, by omega, by go_num, hBy8⟩
        case measure => simp [intOf]; omega
      have hB8 := hB7.trans (hBz.mono (by omega))
      have hX8 := hX7.below hBz hz7
      have hD8 := (hD7.below hBz).more hBz.size
      have hszr := hBz.size
      obtain ⟨r', hxr'⟩ : ∃ r', R[j]? = some r' := ⟨_, List.getElem?_eq_getElem hjl⟩
      obtain ⟨b', off', e', hb', s0, s1, s2, s3, s4, s5, s6, s7, s8⟩ := HRs.out j r' hxr'
      obtain ⟨rfl, rfl⟩ : b = b' ∧ off = off' := by injection e' with e'; injection e' with e1 e2; exact ⟨e1, e2⟩
      obtain ⟨q0, q1, q2, q3, q4, q5, q6, q7, q8⟩ : wr.cell? ⟨b, off + j * 9, none⟩ = some (.int .i64 r'.id) ∧ wr.cell? ⟨b, off + j * 9 + 1, none⟩ = some (.int .i64 r'.owner) ∧ wr.cell? ⟨b, off + j * 9 + 2, none⟩ = some (.int .i64 r'.date) ∧
        wr.cell? ⟨b, off + j * 9 + 3, none⟩ = some (.int .i64 r'.place) ∧ wr.cell? ⟨b, off + j * 9 + 4, none⟩ = some (.int .i64 r'.rate) ∧ wr.cell? ⟨b, off + j * 9 + 5, none⟩ = some (.int .i64 r'.from1) ∧
        wr.cell? ⟨b, off + j * 9 + 6, none⟩ = some (.int .i64 r'.until1) ∧ wr.cell? ⟨b, off + j * 9 + 7, none⟩ = some (.int .i64 r'.back) ∧ wr.cell? ⟨b, off + j * 9 + 8, none⟩ = some (.int .i64 r'.backTo) := by
        have q := fun o => hB8.cell (p := ⟨b, o, none⟩) hb
        exact ⟨(q _).trans s0, (q _).trans s1, (q _).trans s2, (q _).trans s3, (q _).trans s4, (q _).trans s5, (q _).trans s6, (q _).trans s7, (q _).trans s8⟩
      have hdj : (dayLs pl R S)[j]? = some ((rtN R j).id, litN pl R S j) := by unfold dayLs dayList; simp [hjl]; rfl
      obtain ⟨b3, off3, e3, hb3, g0, g1⟩ := hD8.at_ hdj
      obtain ⟨rfl, rfl⟩ : b2 = b3 ∧ off2 = off3 := by injection e3 with e3; injection e3 with e1 e2; exact ⟨e1, e2⟩
      dsimp only at g1
      have hrc' : Hid (rcR pl R j = reach pl r'.place) := by show _ = _; unfold rcR; rw [rtN_of hxr']
      have hjI : (0 : Int) ≤ (j : Int) ∧ (j : Int) < (R.length : Int) := by omega
      have hbr : b < wr.heap.size := by omega
      have hzw8 : w.heap.size < wr.heap.size := by omega
      have hwz8 : w.heap.size ≤ wr.heap.size := by omega
      obtain ⟨Lj, hLj⟩ : ∃ Lj, litN pl R S j = Lj := ⟨_, rfl⟩
      rw [hLj] at g1
      obtain ⟨x0, x1, x2, x3, x4, x5, x6, x7, x8, x9, x10⟩ := hX8.cells
      have hLjh := Lib.hid hLj
      clear e' s0 s1 s2 s3 s4 s5 s6 s7 s8 hxr' hdj e3 g0 hLj
      go_upto_region 21 with fail
      by_cases hp : 0 < Lj
      case neg =>
        have d1 : decide (0 < Lj) = false := decide_eq_false hp
        go_quiet (fail)
        go_wp2_with fail
        go_roundw
        case rel => exact ⟨j + 1, by omega, by omega, by go_num, below_drewN hBz _⟩
        case measure => simp [intOf]; omega
      have d1 : decide (0 < Lj) = true := decide_eq_true hp
      have hnot : q ∉ reach pl r'.place := by rw [← hrc'.out]; exact hfar.out j (by omega) hjl (by rw [hLjh.out]; exact hp)
      have K11 := Lib.hid (fun wx h => K7.out q r' wx hqn hnot h)
      clear hnot
      have kB30 : Below wr.heap.size wr wr.drew := (Below.refl _ _).drew
      refine Plan.wp_region_tree (.rd 0 (.rd 1 (.rd 2 (.rd 3 (.rd 4 (.rd 5 (.rd 6 (.rd 7 (.rd 8 (.rd 9 (.rd 10 (.rd 11 (.rd 12 (.wr 13 (.rd 14 (.rd 15 .done)))))))))))))))) (by kernel_rfl) (by kernel_rfl) ?_
      (repeat (first | (refine Plan.tree_read (v := ?_) rfl rfl ?_ ?_; rotate_left; (focus ((intro wS hSw; have hkS := (bcell hSw).1; try (have hkT := fun (b o : Nat) (h : b < w.heap.size) => hkS b o (by first | omega | (simp; omega) | (simp; done))); go_simp); try with_reducible rfl)); simp only [Act.put, List.setIfInBounds_toArray, List.set_cons_zero, List.set_cons_succ]) | (refine Plan.tree_skip rfl rfl ?_; simp only [Act.put, List.setIfInBounds_toArray, List.set_cons_zero, List.set_cons_succ])))
      (refine Plan.tree_write rfl (fun K hK => ?_); try go_simp)
      go_at_call 10
      (with_reducible refine (K11.out _ (hB8.trans (kB30.mono hwz8))).mono ?_)
      rintro e31 w31 ⟨rfl, hb31⟩
      have kB31 := Plan.below_go kB30 hb31
      (try go_simp)
      (refine hK.out _ _ (kB31) ?_; clear hK K; try simp only [Act.put, List.setIfInBounds_toArray, List.set_cons_zero, List.set_cons_succ])
      (repeat (first | (refine Plan.tree_read (v := ?_) rfl rfl ?_ ?_; rotate_left; (focus ((intro wS hSw; have hkS := (bcell hSw).1; try (have hkT := fun (b o : Nat) (h : b < w.heap.size) => hkS b o (by first | omega | (simp; omega) | (simp; done))); go_simp); try with_reducible rfl)); simp only [Act.put, List.setIfInBounds_toArray, List.set_cons_zero, List.set_cons_succ]) | (refine Plan.tree_skip rfl rfl ?_; simp only [Act.put, List.setIfInBounds_toArray, List.set_cons_zero, List.set_cons_succ])))
      refine Plan.tree_done ?_
      go_wp2_with fail
      have hBz2 := hBz.trans (kB31.mono hszr)
      clear hX8 hB8 hD8 hBz hBy8
      go_roundw
      case rel => exact ⟨j + 1, by omega, by omega, by go_num, hBz2⟩
      case measure => simp [intOf]; omega
end Go.Proofs.Ytkbceeobnbbfbaa
