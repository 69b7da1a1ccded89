/- CallMoves: for every input the law answers true. -/
import Derived.Test.YtkbceeobnbbfbaaSM
import Derived.Test.YtkbceeobnbbfbaaLP0
import Derived.Test.YtkbceeobnbbfbaaLT
import Derived.Test.YtkbceeobnbbfbaaLO0
import Derived.Test.YtkbceeobnbbfbaaLM0
import Derived.Test.YtkbceeobnbbfbaaLO0
set_option linter.unusedSimpArgs false
set_option linter.unusedVariables false
namespace Go.Proofs.Ytkbceeobnbbfbaa
open Go.RowKit CM
attribute [local go_sem] alloc_drewN setCell_drewN shape_drewN

set_option maxRecDepth 100000 in
set_option maxHeartbeats 8000000 in
theorem moves_any (X : Bas) (pl : Pl) (R : List Rt) (S : List Int) (a3 a4 a5 a6 : Int) (C : Option Addr) (cr : Nat) (E : Option Addr) (cs : Nat) (w : World) (hP : PlacesAt w w.heap.size X.P pl) (hR : RightsAt w w.heap.size C R) (hE : IntsAt w w.heap.size E S)
    (hl : pl.length ≤ 9223372036854775807) (hr : R.length ≤ 9223372036854775807) (hs : S.length ≤ 9223372036854775807) (hS : ∀ x ∈ S, In64 x) (i5 : In64 a5) :
    Calls Try.prog 6 #[.agg #[.string X.nm, .slice X.a1 X.l1 X.c1, .int .i64 X.cl, .slice X.P pl.length X.cP, .slice X.a4 X.l4 X.c4, .slice X.a5 X.l5 X.c5, .slice X.a6 X.l6 X.c6, .slice X.a7 X.l7 X.c7, .slice X.a8 X.l8 X.c8, .slice X.a9 X.l9 X.c9, .int .i64 X.er], .slice C R.length cr, .slice E S.length cs, .int .i64 a3, .int .i64 a4, .int .i64 a5, .int .i64 a6] w (BoolIs true w) := by
  have K0 := Lib.hid (fun wx => small_any wx)
  obtain ⟨fv, hfv⟩ : ∃ fv, fewB pl R.length 0 = fv := ⟨_, rfl⟩
  obtain ⟨mv, hmv⟩ : ∃ mv, modB S = mv := ⟨_, rfl⟩
  have K1 : Hid (∀ wx, Calls Try.prog 9 #[.agg #[.string X.nm, .slice X.a1 X.l1 X.c1, .int .i64 X.cl, .slice X.P pl.length X.cP, .slice X.a4 X.l4 X.c4, .slice X.a5 X.l5 X.c5, .slice X.a6 X.l6 X.c6, .slice X.a7 X.l7 X.c7, .slice X.a8 X.l8 X.c8, .slice X.a9 X.l9 X.c9, .int .i64 X.er], .slice C R.length cr, .slice none 0 0] wx (BoolIs fv wx)) := fun wx => by have := few_any X pl C R.length cr none 0 0 wx; rw [hfv] at this; exact this
  have K2 : Hid (∀ wx, Below w.heap.size w wx → Calls Try.prog 22 #[.slice E S.length cs] wx (BoolIs mv wx)) := fun wx h => by have := (modest_any S E cs wx (hE.below h) hs).mono fun e w' h => pure_below h; rw [hmv] at this; exact this
  have hnP := Lib.hid (fun (h1 : fv = true) (h2 : mv = true) => (⟨fewB_true (hfv.trans h1), hmv.trans h2⟩ : (pl.length ≤ 16 ∧ R.length ≤ 14 ∧ 0 ≤ 20) ∧ modB S = true))
  clear hfv hmv
  by_cases hall : fv = true ∧ mv = true
  case neg =>
    clear hnP
    cases fv
    · go_enter Try.func6, Try.ntmps6
      go_wp2_with (first | (go_at_call 8; ((with_reducible refine (K0.out _).mono ?_); rintro e1 w1 ⟨rfl, hb1⟩; have kc := (bcell hb1).1)) | (go_at_call 9; ((with_reducible refine (K1.out _).mono ?_); rintro e2 w2 ⟨rfl, hb2⟩; have hB2 := ((((Below.refl _ _).alloc (Nat.le_refl _) _).trans (hb1.mono (by simp)))).trans (hb2.mono (by have := hb1.size; simp at this; omega)))) | (go_at_call 22; ((with_reducible refine (K2.out _ hB2).mono ?_); rintro e3 w3 ⟨rfl, hb3⟩)) | fail)
      go_ret
      exact ⟨rfl, hB2.trans (hb3.mono (by have h1 := hB2.size; omega))⟩
    cases mv
    · go_enter Try.func6, Try.ntmps6
      go_wp2_with (first | (go_at_call 8; ((with_reducible refine (K0.out _).mono ?_); rintro e1 w1 ⟨rfl, hb1⟩; have kc := (bcell hb1).1)) | (go_at_call 9; ((with_reducible refine (K1.out _).mono ?_); rintro e2 w2 ⟨rfl, hb2⟩; have hB2 := ((((Below.refl _ _).alloc (Nat.le_refl _) _).trans (hb1.mono (by simp)))).trans (hb2.mono (by have := hb1.size; simp at this; omega)))) | (go_at_call 22; ((with_reducible refine (K2.out _ hB2).mono ?_); rintro e3 w3 ⟨rfl, hb3⟩)) | fail)
      go_ret
      exact ⟨rfl, hB2.trans (hb3.mono (by have h1 := hB2.size; omega))⟩
    exact absurd ⟨rfl, rfl⟩ hall
  obtain ⟨rfl, rfl⟩ := hall
  obtain ⟨⟨f1, f2, f3⟩, hmod⟩ := hnP.out rfl rfl
  have hM := Lib.hid (modest_of hmod f1 f2)
  have hdl := Lib.hid (dayLs_len (pl := pl) (R := R) (S := S))
  clear hnP hmod
  have K3 : Hid (∀ wx, Below w.heap.size w wx → Calls Try.prog 23 #[.agg #[.string X.nm, .slice X.a1 X.l1 X.c1, .int .i64 X.cl, .slice X.P pl.length X.cP, .slice X.a4 X.l4 X.c4, .slice X.a5 X.l5 X.c5, .slice X.a6 X.l6 X.c6, .slice X.a7 X.l7 X.c7, .slice X.a8 X.l8 X.c8, .slice X.a9 X.l9 X.c9, .int .i64 X.er], .slice C R.length cr, .slice E S.length cs] wx (DayIs pl R S wx)) := fun wx h => day_any X pl R S C cr E cs wx (hP.below h) (hR.below h) (hE.below h) h.size (by omega) (by omega) hs hS
  go_enter Try.func6, Try.ntmps6
  go_upto_region 4 with (first | (go_at_call 8; ((with_reducible refine (K0.out _).mono ?_); rintro e1 w1 ⟨rfl, hb1⟩; have kc := (bcell hb1).1)) | (go_at_call 9; ((with_reducible refine (K1.out _).mono ?_); rintro e2 w2 ⟨rfl, hb2⟩; have hB2 := ((((Below.refl _ _).alloc (Nat.le_refl _) _).trans (hb1.mono (by simp)))).trans (hb2.mono (by have := hb1.size; simp at this; omega)); have hX2 : BoxB w2 w.heap.size X pl := ((BoxB.new w X pl).below (B := w.heap.size + 1) (hb1.mono (by simp)) (by omega)).below (B := w.heap.size + 1) (hb2.mono (by have := hb1.size; simpa using this)) (by omega))) | (go_at_call 22; ((with_reducible refine (K2.out _ hB2).mono ?_); rintro e3 w3 ⟨rfl, hb3⟩)) | fail)
  have hX3 : BoxB w3 w.heap.size X pl := hX2.below hb3 (by have h1 := hb1.size; have h2 := hb2.size; simp at h1; omega)
  have hB3 := hB2.trans (hb3.mono hB2.size)
  have hz3 : w.heap.size < w3.heap.size := by have h1 := hb1.size; have h2 := hb2.size; have h3 := hb3.size; simp at h1; omega
  clear hb1 hb2 hb3 kc K0 K1 K2 hX2 hB2
  obtain ⟨x0, x1, x2, x3, x4, x5, x6, x7, x8, x9, x10⟩ := hX3.cells
  by_cases q1 : a3 < 0
  · have d1 : decide (a3 < 0) = true := decide_eq_true q1
    go_wp2_with fail
    go_ret
    exact ⟨rfl, hB3⟩
  have d1a : decide (a3 < 0) = false := decide_eq_false q1
  by_cases q2 : (R.length : Int) ≤ a3
  · have d2 : decide ((R.length : Int) ≤ a3) = true := decide_eq_true q2
    go_wp2_with fail
    go_ret
    exact ⟨rfl, hB3⟩
  have d2a : decide ((R.length : Int) ≤ a3) = false := decide_eq_false q2
  by_cases q3 : a4 < 0
  · have d3 : decide (a4 < 0) = true := decide_eq_true q3
    go_wp2_with fail
    go_ret
    exact ⟨rfl, hB3⟩
  have d3a : decide (a4 < 0) = false := decide_eq_false q3
  by_cases q4 : (R.length : Int) ≤ a4
  · have d4 : decide ((R.length : Int) ≤ a4) = true := decide_eq_true q4
    go_wp2_with fail
    go_ret
    exact ⟨rfl, hB3⟩
  have d4a : decide ((R.length : Int) ≤ a4) = false := decide_eq_false q4
  by_cases q5 : a3 = a4
  · have d5 : (a3 == a4) = true := by simpa using q5
    go_wp2_with fail
    go_ret
    exact ⟨rfl, hB3⟩
  have d5a : (a3 == a4) = false := by simpa using q5
  have HB3 := Lib.hid hB3
  have hne0 : (R.length != R.length) = false := by simp
  have hne1 : ((R.length : Int) != (R.length : Int)) = false := by simp
  have hn0 : R.length ≠ 0 := by omega
  go_upto_region 9 with (first | (go_at_call 23; ((with_reducible refine (K3.out _ HB3.out).mono ?_); intro e4 w4 hd; obtain ⟨g4, cd, rfl, hg4, hgl4, hA4, hb4⟩ := day_arr hn0 hd; clear hd; have kc := (bcell hb4).1)) | fail)
  have hX4 := hX3.below hb4 hz3
  have hB4 := hB3.trans (hb4.mono hB3.size)
  have hz4 : w.heap.size < w4.heap.size := by have := hb4.size; omega
  clear x0 x1 x2 x3 x4 x5 x6 x7 x8 x9 x10 kc K3 hne0 hne1 d1a d2a d3a d4a d5a
  obtain ⟨x0, x1, x2, x3, x4, x5, x6, x7, x8, x9, x10⟩ := hX4.cells
  obtain ⟨f, rfl⟩ : ∃ f : Nat, a3 = (f : Int) := ⟨a3.toNat, by omega⟩
  obtain ⟨t, rfl⟩ : ∃ t : Nat, a4 = (t : Int) := ⟨a4.toNat, by omega⟩
  have hf : f < R.length := by omega
  have ht : t < R.length := by omega
  have hft : f ≠ t := by omega
  have hfI : (0 : Int) ≤ (f : Int) ∧ (f : Int) < (R.length : Int) := by omega
  have htI : (0 : Int) ≤ (t : Int) ∧ (t : Int) < (R.length : Int) := by omega
  clear q1 q2 q3 q4 q5
  obtain ⟨vf, hvf⟩ : ∃ v, ((dayLs pl R S).getD f (0, 0)).2 = v := ⟨_, rfl⟩
  obtain ⟨vt, hvt⟩ : ∃ v, ((dayLs pl R S).getD t (0, 0)).2 = v := ⟨_, rfl⟩
  have hvm : vf ≤ 9223372036854775807 := by
    have hdk : (dayLs pl R S)[f]? = some ((rtN R f).id, litN pl R S f) := by unfold dayLs dayList; simp [hf]; rfl
    rw [List.getD_eq_getElem?_getD, hdk] at hvf
    rw [← hvf]
    exact litN_top hS f
  have c1 : w4.cell? ⟨g4, f * 2 + 1, none⟩ = some (.int .i64 vf) := by rw [(hA4 (f * 2 + 1) (by omega)).1, pairF_hi, hvf]
  have c2 : w4.cell? ⟨g4, t * 2 + 1, none⟩ = some (.int .i64 vt) := by rw [(hA4 (t * 2 + 1) (by omega)).1, pairF_hi, hvt]
  have z1 : w4.frozen? ⟨g4, f * 2 + 1, none⟩ = false := (hA4 (f * 2 + 1) (by omega)).2
  have z2 : w4.frozen? ⟨g4, t * 2 + 1, none⟩ = false := (hA4 (t * 2 + 1) (by omega)).2
  have HVf := Lib.hid hvf
  clear hvf hvt
  by_cases q1 : a5 < 1
  · have d1 : decide (a5 < 1) = true := decide_eq_true q1
    go_wp2_with fail
    go_ret
    exact ⟨rfl, hB4⟩
  have d1a : decide (a5 < 1) = false := decide_eq_false q1
  by_cases q2 : vf < a5
  · have d2 : decide (vf < a5) = true := decide_eq_true q2
    go_wp2_with fail
    go_ret
    exact ⟨rfl, hB4⟩
  have d2a : decide (vf < a5) = false := decide_eq_false q2
  by_cases q3 : a6 < 0
  · have d3 : decide (a6 < 0) = true := decide_eq_true q3
    go_wp2_with fail
    go_ret
    exact ⟨rfl, hB4⟩
  have d3a : decide (a6 < 0) = false := decide_eq_false q3
  by_cases q4 : 1125899906842624 < a6
  · have d4 : decide (1125899906842624 < a6) = true := decide_eq_true q4
    go_wp2_with fail
    go_ret
    exact ⟨rfl, hB4⟩
  have d4a : decide (1125899906842624 < a6) = false := decide_eq_false q4
  go_upto_region 13 with fail
  have hVn := HVf.out
  have hno : Hid (∀ x, chkN pl R S (moved (dayLs pl R S) f t (vf - a5) (wrap64 (vt + a6))) x = false) := fun x => moved_not hM.out hf hft (by rw [hVn]; omega)
  clear hVn
  have hA5 := moved_arr (vf - a5) (wrap64 (vt + a6)) (by rw [hdl.out]; exact hf) (by rw [hdl.out]; exact ht) (by rw [hdl.out]; exact hA4)
  have hwz4 : w3.heap.size ≤ w4.heap.size := hb4.size
  have kB5 : Below w3.heap.size w3 ((w4.setCell ⟨g4, f * 2 + 1, none⟩ (.int .i64 (vf - a5))).setCell ⟨g4, t * 2 + 1, none⟩ (.int .i64 (wrap64 (vt + a6)))) := (hb4.setCell (by simpa using hg4) _).setCell (by simpa using hg4) _
  have hs5 : w4.heap.size = ((w4.setCell ⟨g4, f * 2 + 1, none⟩ (.int .i64 (vf - a5))).setCell ⟨g4, t * 2 + 1, none⟩ (.int .i64 (wrap64 (vt + a6)))).heap.size := by simp
  generalize ((w4.setCell ⟨g4, f * 2 + 1, none⟩ (.int .i64 (vf - a5))).setCell ⟨g4, t * 2 + 1, none⟩ (.int .i64 (wrap64 (vt + a6)))) = w5 at hA5 kB5 hs5 ⊢
  obtain ⟨G, hG⟩ : ∃ G, moved (dayLs pl R S) f t (vf - a5) (wrap64 (vt + a6)) = G := ⟨_, rfl⟩
  have hGl : Hid (G.length = R.length) := by show _ = _; rw [← hG, moved_len, hdl.out]
  rw [hG] at hA5 hno
  clear hG
  have hX5 := hX3.below kB5 hz3
  have hB5 := hB3.trans (kB5.mono hB3.size)
  have hD5 : PairsAt w5 w5.heap.size (some ⟨g4, 0, none⟩) G := pairs_of_arr (by omega) hA5
  have hz5 : w.heap.size < w5.heap.size := by omega
  have hwz : w.heap.size ≤ w5.heap.size := by omega
  obtain ⟨n1, hn1⟩ : ∃ n, Hid ((excN pl R S G).length = n) := ⟨_, rfl⟩
  have K4 : Hid (∀ (A : Option Addr) (ca : Nat) (wx : World), PairsAt wx wx.heap.size A G → Below w.heap.size w wx → Calls Try.prog 16 #[.agg #[.string X.nm, .slice X.a1 X.l1 X.c1, .int .i64 X.cl, .slice X.P pl.length X.cP, .slice X.a4 X.l4 X.c4, .slice X.a5 X.l5 X.c5, .slice X.a6 X.l6 X.c6, .slice X.a7 X.l7 X.c7, .slice X.a8 X.l8 X.c8, .slice X.a9 X.l9 X.c9, .int .i64 X.er], .slice C R.length cr, .slice E S.length cs, .slice A R.length ca] wx (fun e w' => ∃ F cf, e = .returned (.slice F n1 cf) ∧ PairsAt w' w'.heap.size F (excN pl R S G) ∧ Below wx.heap.size wx w')) := fun A ca wx hA h => by
    have := (excuses_any X pl R S G C cr E cs A ca wx ((hP.below h).more h.size) ((hR.below h).more h.size) ((hE.below h).more h.size) hA (Nat.le_refl _) (by omega) (by omega) (by rw [hGl.out]; omega) hs hS).mono fun e w' ⟨F, cf, he, _, h1, h2⟩ => (⟨F, cf, by rw [he, hn1.out], h1, h2⟩ : ∃ F cf, e = Ending.returned (.slice F n1 cf) ∧ PairsAt w' w'.heap.size F (excN pl R S G) ∧ Below wx.heap.size wx w')
    rw [hGl.out] at this
    exact this
  have K5 : Hid (∀ (A : Option Addr) (ca : Nat) (F : Option Addr) (cf : Nat) (wx : World), PairsAt wx wx.heap.size A G → PairsAt wx wx.heap.size F (excN pl R S G) → Below w.heap.size w wx → Calls Try.prog 20 #[.agg #[.string X.nm, .slice X.a1 X.l1 X.c1, .int .i64 X.cl, .slice X.P pl.length X.cP, .slice X.a4 X.l4 X.c4, .slice X.a5 X.l5 X.c5, .slice X.a6 X.l6 X.c6, .slice X.a7 X.l7 X.c7, .slice X.a8 X.l8 X.c8, .slice X.a9 X.l9 X.c9, .int .i64 X.er], .slice C R.length cr, .slice E S.length cs, .slice A R.length ca, .slice F n1 cf] wx (BoolIs false wx)) := fun A ca F cf wx hA hF h => by
    have hq := excN_len pl R S G
    have hq2 : R.length * R.length ≤ 14 * 14 := Nat.mul_le_mul f2 f2
    have := check_any X pl R S G (excN pl R S G) C cr E cs A ca F cf wx ((hP.below h).more h.size) ((hR.below h).more h.size) ((hE.below h).more h.size) hA hF (Nat.le_refl _) (by omega) (by omega) (by rw [hGl.out]; omega) hs (by omega) hS
    rw [hno.out, hGl.out, hn1.out] at this
    exact this
  clear x0 x1 x2 x3 x4 x5 x6 x7 x8 x9 x10 hX3 hX4 hB3 hB4 hb4 hA4 c1 c2 z1 z2 HVf d1a d2a d3a d4a q1 q2 q3 q4 kB5 hA5
  obtain ⟨x0, x1, x2, x3, x4, x5, x6, x7, x8, x9, x10⟩ := hX5.cells
  have kB10 : Below w5.heap.size w5 w5.drew := (Below.refl _ _).drew
  have hD10 : PairsAt w5.drew w5.drew.heap.size (some ⟨g4, 0, none⟩) G := hD5
  refine Plan.wp_region_tree (.rd 0 (.rd 1 (.rd 2 (.rd 3 (.rd 4 (.rd 5 (.rd 6 (.rd 7 (.rd 8 (.rd 9 (.wr 10 (.wr 11 (.rd 12 (.rd 13 (.rd 14 .done))))))))))))))) (by kernel_rfl) (by kernel_rfl) ?_
  (repeat (first | (refine Plan.tree_read (v := ?_) rfl rfl ?_ ?_; rotate_left; (focus ((intro wS hSw; have hkS := (bcell hSw).1; try (have hkT := fun (b o : Nat) (h : b < w.heap.size) => hkS b o (by first | omega | (simp; omega) | (simp; done))); go_simp); try with_reducible rfl)); simp only [Act.put, List.setIfInBounds_toArray, List.set_cons_zero, List.set_cons_succ]) | (refine Plan.tree_skip rfl rfl ?_; simp only [Act.put, List.setIfInBounds_toArray, List.set_cons_zero, List.set_cons_succ])))
  (refine Plan.tree_write rfl (fun K hK => ?_); try go_simp)
  go_at_call 16
  (with_reducible refine (K4.out _ _ _ hD10 (hB5.trans (kB10.mono hwz))).mono ?_)
  rintro e11 w11 ⟨F1, cf1, rfl, hF1, hb11⟩
  have kB11 := Plan.below_go kB10 hb11
  (try go_simp)
  (refine hK.out _ _ (kB11) ?_; clear hK K; try simp only [Act.put, List.setIfInBounds_toArray, List.set_cons_zero, List.set_cons_succ])
  (repeat (first | (refine Plan.tree_read (v := ?_) rfl rfl ?_ ?_; rotate_left; (focus ((intro wS hSw; have hkS := (bcell hSw).1; try (have hkT := fun (b o : Nat) (h : b < w.heap.size) => hkS b o (by first | omega | (simp; omega) | (simp; done))); go_simp); try with_reducible rfl)); simp only [Act.put, List.setIfInBounds_toArray, List.set_cons_zero, List.set_cons_succ]) | (refine Plan.tree_skip rfl rfl ?_; simp only [Act.put, List.setIfInBounds_toArray, List.set_cons_zero, List.set_cons_succ])))
  (refine Plan.tree_write rfl (fun K hK => ?_); try go_simp)
  go_at_call 20
  (with_reducible refine (K5.out _ _ _ _ _ ((hD10.below hb11).more hb11.size) hF1 (hB5.trans (kB11.mono hwz))).mono ?_)
  rintro e12 w12 ⟨rfl, hb12⟩
  have kB12 := Plan.below_go kB11 hb12
  (try go_simp)
  (refine hK.out _ _ (kB12) ?_; clear hK K; try simp only [Act.put, List.setIfInBounds_toArray, List.set_cons_zero, List.set_cons_succ])
  (repeat (first | (refine Plan.tree_read (v := ?_) rfl rfl ?_ ?_; rotate_left; (focus ((intro wS hSw; have hkS := (bcell hSw).1; try (have hkT := fun (b o : Nat) (h : b < w.heap.size) => hkS b o (by first | omega | (simp; omega) | (simp; done))); go_simp); try with_reducible rfl)); simp only [Act.put, List.setIfInBounds_toArray, List.set_cons_zero, List.set_cons_succ]) | (refine Plan.tree_skip rfl rfl ?_; simp only [Act.put, List.setIfInBounds_toArray, List.set_cons_zero, List.set_cons_succ])))
  refine Plan.tree_done ?_
  go_wp2_with fail
  go_ret
  exact ⟨rfl, hB5.trans (kB12.mono hwz)⟩
end Go.Proofs.Ytkbceeobnbbfbaa
