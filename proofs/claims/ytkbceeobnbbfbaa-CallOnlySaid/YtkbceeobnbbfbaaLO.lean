/- CallOnly: for every input the law answers true. -/
import Derived.Test.YtkbceeobnbbfbaaSM
import Derived.Test.YtkbceeobnbbfbaaLP0
import Derived.Test.YtkbceeobnbbfbaaLT
import Derived.Test.YtkbceeobnbbfbaaLO0
set_option linter.unusedSimpArgs false
set_option linter.unusedVariables false
namespace Go.Proofs.Ytkbceeobnbbfbaa
open Go.RowKit CM
attribute [local go_sem] alloc_drewN setCell_drewN shape_drewN

set_option maxRecDepth 100000 in
set_option maxHeartbeats 8000000 in
theorem only_any (X : Bas) (pl : Pl) (R : List Rt) (S : List Int) (G x : List (Int × Int)) (C : Option Addr) (cr : Nat) (E : Option Addr) (cs : Nat) (D : Option Addr) (cg : Nat) (Z : Option Addr) (cz : Nat) (w : World) (hP : PlacesAt w w.heap.size X.P pl) (hR : RightsAt w w.heap.size C R) (hE : IntsAt w w.heap.size E S) (hG : PairsAt w w.heap.size D G) (hZ : PairsAt w w.heap.size Z x) (hg : G.length ≤ 9223372036854775807) (hx : x.length * 16 ≤ 140737488351232)
    (hl : pl.length ≤ 9223372036854775807) (hr : R.length ≤ 9223372036854775807) (hs : S.length ≤ 9223372036854775807) (hS : ∀ x ∈ S, In64 x) :
    Calls Try.prog 4 #[.agg #[.string X.nm, .slice X.a1 X.l1 X.c1, .int .i64 X.cl, .slice X.P pl.length X.cP, .slice X.a4 X.l4 X.c4, .slice X.a5 X.l5 X.c5, .slice X.a6 X.l6 X.c6, .slice X.a7 X.l7 X.c7, .slice X.a8 X.l8 X.c8, .slice X.a9 X.l9 X.c9, .int .i64 X.er], .slice C R.length cr, .slice E S.length cs, .slice D G.length cg, .slice Z x.length cz] w (BoolIs true w) := by
  have K0 := Lib.hid (fun wx => small_any wx)
  obtain ⟨fv, hfv⟩ : ∃ fv, fewB pl R.length G.length = fv := ⟨_, rfl⟩
  obtain ⟨mv, hmv⟩ : ∃ mv, modB S = mv := ⟨_, rfl⟩
  have K1 : Hid (∀ wx, Calls Try.prog 9 #[.agg #[.string X.nm, .slice X.a1 X.l1 X.c1, .int .i64 X.cl, .slice X.P pl.length X.cP, .slice X.a4 X.l4 X.c4, .slice X.a5 X.l5 X.c5, .slice X.a6 X.l6 X.c6, .slice X.a7 X.l7 X.c7, .slice X.a8 X.l8 X.c8, .slice X.a9 X.l9 X.c9, .int .i64 X.er], .slice C R.length cr, .slice D G.length cg] wx (BoolIs fv wx)) := fun wx => by have := few_any X pl C R.length cr D G.length cg wx; rw [hfv] at this; exact this
  have K2 : Hid (∀ wx, Below w.heap.size w wx → Calls Try.prog 22 #[.slice E S.length cs] wx (BoolIs mv wx)) := fun wx h => by have := (modest_any S E cs wx (hE.below h) hs).mono fun e w' h => pure_below h; rw [hmv] at this; exact this
  have hnP := Lib.hid (fun (h1 : fv = true) (h2 : mv = true) => (⟨fewB_true (hfv.trans h1), hmv.trans h2⟩ : (pl.length ≤ 16 ∧ R.length ≤ 14 ∧ G.length ≤ 20) ∧ modB S = true))
  clear hfv hmv
  by_cases hall : fv = true ∧ mv = true
  case neg =>
    clear hnP
    cases fv
    · go_enter Try.func4, Try.ntmps4
      go_wp2_with (first | (go_at_call 8; ((with_reducible refine (K0.out _).mono ?_); rintro e1 w1 ⟨rfl, hb1⟩; have kc := (bcell hb1).1)) | (go_at_call 9; ((with_reducible refine (K1.out _).mono ?_); rintro e2 w2 ⟨rfl, hb2⟩; have hB2 := ((((Below.refl _ _).alloc (Nat.le_refl _) _).trans (hb1.mono (by simp)))).trans (hb2.mono (by have := hb1.size; simp at this; omega)))) | (go_at_call 22; ((with_reducible refine (K2.out _ hB2).mono ?_); rintro e3 w3 ⟨rfl, hb3⟩)) | fail)
      go_ret
      exact ⟨rfl, hB2.trans (hb3.mono (by have h1 := hB2.size; omega))⟩
    cases mv
    · go_enter Try.func4, Try.ntmps4
      go_wp2_with (first | (go_at_call 8; ((with_reducible refine (K0.out _).mono ?_); rintro e1 w1 ⟨rfl, hb1⟩; have kc := (bcell hb1).1)) | (go_at_call 9; ((with_reducible refine (K1.out _).mono ?_); rintro e2 w2 ⟨rfl, hb2⟩; have hB2 := ((((Below.refl _ _).alloc (Nat.le_refl _) _).trans (hb1.mono (by simp)))).trans (hb2.mono (by have := hb1.size; simp at this; omega)))) | (go_at_call 22; ((with_reducible refine (K2.out _ hB2).mono ?_); rintro e3 w3 ⟨rfl, hb3⟩)) | fail)
      go_ret
      exact ⟨rfl, hB2.trans (hb3.mono (by have h1 := hB2.size; omega))⟩
    exact absurd ⟨rfl, rfl⟩ hall
  obtain ⟨rfl, rfl⟩ := hall
  obtain ⟨⟨f1, f2, f3⟩, hmod⟩ := hnP.out rfl rfl
  have hM := Lib.hid (modest_of hmod f1 f2)
  have hdl := Lib.hid (dayLs_len (pl := pl) (R := R) (S := S))
  clear hnP hmod
  have K3 : Hid (∀ wx, Below w.heap.size w wx → Calls Try.prog 23 #[.agg #[.string X.nm, .slice X.a1 X.l1 X.c1, .int .i64 X.cl, .slice X.P pl.length X.cP, .slice X.a4 X.l4 X.c4, .slice X.a5 X.l5 X.c5, .slice X.a6 X.l6 X.c6, .slice X.a7 X.l7 X.c7, .slice X.a8 X.l8 X.c8, .slice X.a9 X.l9 X.c9, .int .i64 X.er], .slice C R.length cr, .slice E S.length cs] wx (DayIs pl R S wx)) := fun wx h => day_any X pl R S C cr E cs wx (hP.below h) (hR.below h) (hE.below h) h.size (by omega) (by omega) hs hS
  obtain ⟨g0, gi, gz0, gz1, gz2⟩ := info_parts Try.infoExcuse
  obtain ⟨n1, hn1⟩ : ∃ n, Hid ((excN pl R S (dayLs pl R S)).length = n) := ⟨_, rfl⟩
  have K4 : Hid (∀ (A : Option Addr) (ca : Nat) (wx : World), PairsAt wx wx.heap.size A (dayLs pl R S) → Below w.heap.size w wx → Calls Try.prog 16 #[.agg #[.string X.nm, .slice X.a1 X.l1 X.c1, .int .i64 X.cl, .slice X.P pl.length X.cP, .slice X.a4 X.l4 X.c4, .slice X.a5 X.l5 X.c5, .slice X.a6 X.l6 X.c6, .slice X.a7 X.l7 X.c7, .slice X.a8 X.l8 X.c8, .slice X.a9 X.l9 X.c9, .int .i64 X.er], .slice C R.length cr, .slice E S.length cs, .slice A R.length ca] wx (fun e w' => ∃ F cf, e = .returned (.slice F n1 cf) ∧ PairsAt w' w'.heap.size F (excN pl R S (dayLs pl R S)) ∧ Below wx.heap.size wx w')) := fun A ca wx hA h => by
    have := (excuses_any X pl R S (dayLs pl R S) C cr E cs A ca wx ((hP.below h).more h.size) ((hR.below h).more h.size) ((hE.below h).more h.size) hA (Nat.le_refl _) (by omega) (by omega) (by rw [hdl.out]; omega) hs hS).mono fun e w' ⟨F, cf, he, _, h1, h2⟩ => (⟨F, cf, by rw [he, hn1.out], h1, h2⟩ : ∃ F cf, e = Ending.returned (.slice F n1 cf) ∧ PairsAt w' w'.heap.size F (excN pl R S (dayLs pl R S)) ∧ Below wx.heap.size wx w')
    rw [hdl.out] at this
    exact this
  have K5 : Hid (∀ (A : Option Addr) (ca : Nat) (F : Option Addr) (cf : Nat) (wx : World), PairsAt wx wx.heap.size A (dayLs pl R S) → PairsAt wx wx.heap.size F (excN pl R S (dayLs pl R S)) → Below w.heap.size w wx → Calls Try.prog 20 #[.agg #[.string X.nm, .slice X.a1 X.l1 X.c1, .int .i64 X.cl, .slice X.P pl.length X.cP, .slice X.a4 X.l4 X.c4, .slice X.a5 X.l5 X.c5, .slice X.a6 X.l6 X.c6, .slice X.a7 X.l7 X.c7, .slice X.a8 X.l8 X.c8, .slice X.a9 X.l9 X.c9, .int .i64 X.er], .slice C R.length cr, .slice E S.length cs, .slice A R.length ca, .slice F n1 cf] wx (BoolIs true wx)) := fun A ca F cf wx hA hF h => by
    have hq := excN_len pl R S (dayLs pl R S)
    have hq2 : R.length * R.length ≤ 14 * 14 := Nat.mul_le_mul f2 f2
    have := check_any X pl R S (dayLs pl R S) (excN pl R S (dayLs pl R S)) C cr E cs A ca F cf wx ((hP.below h).more h.size) ((hR.below h).more h.size) ((hE.below h).more h.size) hA hF (Nat.le_refl _) (by omega) (by omega) (by rw [hdl.out]; omega) hs (by omega) hS
    rw [chk_day hM.out (fun e h => h), hdl.out, hn1.out] at this
    exact this
  obtain ⟨n2, hn2⟩ : ∃ n, Hid ((excN pl R S G).length = n) := ⟨_, rfl⟩
  have hn2l : n2 ≤ 196 := by
    have hq := excN_len pl R S G
    have hq2 : R.length * R.length ≤ 14 * 14 := Nat.mul_le_mul f2 f2
    have := hn2.out
    omega
  have K6 : Hid (∀ (wx : World), Below w.heap.size w wx → Calls Try.prog 16 #[.agg #[.string X.nm, .slice X.a1 X.l1 X.c1, .int .i64 X.cl, .slice X.P pl.length X.cP, .slice X.a4 X.l4 X.c4, .slice X.a5 X.l5 X.c5, .slice X.a6 X.l6 X.c6, .slice X.a7 X.l7 X.c7, .slice X.a8 X.l8 X.c8, .slice X.a9 X.l9 X.c9, .int .i64 X.er], .slice C R.length cr, .slice E S.length cs, .slice D G.length cg] wx (fun e w' => ∃ F cf, e = .returned (.slice F n2 cf) ∧ PairsAt w' w'.heap.size F (excN pl R S G) ∧ Below wx.heap.size wx w')) := fun wx h =>
    (excuses_any X pl R S G C cr E cs D cg wx (hP.below h) (hR.below h) (hE.below h) (hG.below h) h.size (by omega) (by omega) (by omega) hs hS).mono fun e w' ⟨F, cf, he, _, h1, h2⟩ => ⟨F, cf, by rw [he, hn2.out], h1, h2⟩
  obtain ⟨c1, hc1⟩ : ∃ c, chkN pl R S G (x ++ excN pl R S G) = c := ⟨_, rfl⟩
  obtain ⟨c2, hc2⟩ : ∃ c, chkN pl R S G x = c := ⟨_, rfl⟩
  have K7 : Hid (∀ (F : Option Addr) (cf : Nat) (wx : World), PairsAt wx wx.heap.size F (x ++ excN pl R S G) → Below w.heap.size w wx → Calls Try.prog 20 #[.agg #[.string X.nm, .slice X.a1 X.l1 X.c1, .int .i64 X.cl, .slice X.P pl.length X.cP, .slice X.a4 X.l4 X.c4, .slice X.a5 X.l5 X.c5, .slice X.a6 X.l6 X.c6, .slice X.a7 X.l7 X.c7, .slice X.a8 X.l8 X.c8, .slice X.a9 X.l9 X.c9, .int .i64 X.er], .slice C R.length cr, .slice E S.length cs, .slice D G.length cg, .slice F (x.length + n2) cf] wx (BoolIs c1 wx)) := fun F cf wx hF h => by
    have hl2 : (x ++ excN pl R S G).length = x.length + n2 := by rw [List.length_append, hn2.out]
    have := check_any X pl R S G (x ++ excN pl R S G) C cr E cs D cg F cf wx ((hP.below h).more h.size) ((hR.below h).more h.size) ((hE.below h).more h.size) ((hG.below h).more h.size) hF (Nat.le_refl _) (by omega) (by omega) (by omega) hs (by omega) hS
    rw [hc1, hl2] at this
    exact this
  have K8 : Hid (∀ (wx : World), Below w.heap.size w wx → Calls Try.prog 20 #[.agg #[.string X.nm, .slice X.a1 X.l1 X.c1, .int .i64 X.cl, .slice X.P pl.length X.cP, .slice X.a4 X.l4 X.c4, .slice X.a5 X.l5 X.c5, .slice X.a6 X.l6 X.c6, .slice X.a7 X.l7 X.c7, .slice X.a8 X.l8 X.c8, .slice X.a9 X.l9 X.c9, .int .i64 X.er], .slice C R.length cr, .slice E S.length cs, .slice D G.length cg, .slice Z x.length cz] wx (BoolIs c2 wx)) := fun wx h => by
    have := check_any X pl R S G x C cr E cs D cg Z cz wx (hP.below h) (hR.below h) (hE.below h) (hG.below h) (hZ.below h) h.size (by omega) (by omega) (by omega) hs (by omega) hS
    rw [hc2] at this
    exact this
  have same1 : Hid (c1 = true → SameL G (dayLs pl R S) = true) := fun h => by rw [← chk_only hM.out (hc1.trans h)]; exact sameL_self _
  have same2 : Hid (c2 = true → SameL G (dayLs pl R S) = true) := fun h => by rw [← chk_only hM.out (hc2.trans h)]; exact sameL_self _
  have K9 : Hid (∀ (A : Option Addr) (ca : Nat) (wx : World), PairsAt wx wx.heap.size A (dayLs pl R S) → Below w.heap.size w wx → SameL G (dayLs pl R S) = true → Calls Try.prog 24 #[.slice D G.length cg, .slice A R.length ca] wx (fun e w' => e = .returned (.bool true) ∧ Below wx.heap.size wx w')) := fun A ca wx hA h hs1 => by
    have := (same37_any G (dayLs pl R S) D A cg ca wx ((hG.below h).more h.size) hA (by omega) (by rw [hdl.out]; omega)).mono fun e w' ⟨he, n, hw⟩ => (⟨by rw [he, hs1], by rw [hw]; exact below_drewN (Below.refl _ _) n⟩ : e = Ending.returned (.bool true) ∧ Below wx.heap.size wx w')
    rw [hdl.out] at this
    exact this
  have HZ := Lib.hid hZ
  clear hc1 hc2 hZ
  go_enter Try.func4, Try.ntmps4
  go_upto_region 6 with (first | (go_at_call 8; ((with_reducible refine (K0.out _).mono ?_); rintro e1 w1 ⟨rfl, hb1⟩; have kc := (bcell hb1).1)) | (go_at_call 9; ((with_reducible refine (K1.out _).mono ?_); rintro e2 w2 ⟨rfl, hb2⟩; have hB2 := ((((Below.refl _ _).alloc (Nat.le_refl _) _).trans (hb1.mono (by simp)))).trans (hb2.mono (by have := hb1.size; simp at this; omega)); have hX2 : BoxB w2 w.heap.size X pl := ((BoxB.new w X pl).below (B := w.heap.size + 1) (hb1.mono (by simp)) (by omega)).below (B := w.heap.size + 1) (hb2.mono (by have := hb1.size; simpa using this)) (by omega))) | (go_at_call 22; ((with_reducible refine (K2.out _ hB2).mono ?_); rintro e3 w3 ⟨rfl, hb3⟩)) | fail)
  have hX3 : BoxB w3 w.heap.size X pl := hX2.below hb3 (by have h1 := hb1.size; have h2 := hb2.size; simp at h1; omega)
  have hB3 := hB2.trans (hb3.mono hB2.size)
  have hz3 : w.heap.size < w3.heap.size := by have h1 := hb1.size; have h2 := hb2.size; have h3 := hb3.size; simp at h1; omega
  clear hb1 hb2 hb3 kc K0 K1 K2 hX2 hB2
  obtain ⟨x0, x1, x2, x3, x4, x5, x6, x7, x8, x9, x10⟩ := hX3.cells
  have HB3 := Lib.hid hB3
  go_upto_region 7 with (first | (go_at_call 23; ((with_reducible refine (K3.out _ HB3.out).mono ?_); intro e4 w4 hd; obtain ⟨D4, cd, rfl, hD4, _, hb4, _⟩ := day_pairs hd; clear hd; have kc := (bcell hb4).1)) | fail)
  have hX4 := hX3.below hb4 hz3
  have hB4 := hB3.trans (hb4.mono hB3.size)
  have hz4 : w.heap.size < w4.heap.size := by have := hb4.size; omega
  clear x0 x1 x2 x3 x4 x5 x6 x7 x8 x9 x10 hX3 hB3 hb4 hz3 kc K3
  have hwz : w.heap.size ≤ w4.heap.size := by omega
  obtain ⟨x0, x1, x2, x3, x4, x5, x6, x7, x8, x9, x10⟩ := hX4.cells
  have kB10 : Below w4.heap.size w4 w4.drew := (Below.refl _ _).drew
  have hD10 : PairsAt w4.drew w4.drew.heap.size D4 (dayLs pl R S) := hD4
  refine Plan.wp_region_tree (.rd 0 (.rd 1 (.rd 2 (.rd 3 (.rd 4 (.rd 5 (.rd 6 (.rd 7 (.wr 8 (.wr 9 (.rd 10 .done))))))))))) (by kernel_rfl) (by kernel_rfl) ?_
  (repeat (first | (refine Plan.tree_read (v := ?_) rfl rfl ?_ ?_; rotate_left; (focus ((intro wS hSw; have hkS := (bcell hSw).1; try (have hkT := fun (b o : Nat) (h : b < w.heap.size) => hkS b o (by first | omega | (simp; omega) | (simp; done))); go_simp); try with_reducible rfl)); simp only [Act.put, List.setIfInBounds_toArray, List.set_cons_zero, List.set_cons_succ]) | (refine Plan.tree_skip rfl rfl ?_; simp only [Act.put, List.setIfInBounds_toArray, List.set_cons_zero, List.set_cons_succ])))
  (refine Plan.tree_write rfl (fun K hK => ?_); try go_simp)
  go_at_call 16
  (with_reducible refine (K4.out _ _ _ hD10 (hB4.trans (kB10.mono hwz))).mono ?_)
  rintro e11 w11 ⟨F1, cf1, rfl, hF1, hb11⟩
  have kB11 := Plan.below_go kB10 hb11
  (try go_simp)
  (refine hK.out _ _ (kB11) ?_; clear hK K; try simp only [Act.put, List.setIfInBounds_toArray, List.set_cons_zero, List.set_cons_succ])
  (repeat (first | (refine Plan.tree_read (v := ?_) rfl rfl ?_ ?_; rotate_left; (focus ((intro wS hSw; have hkS := (bcell hSw).1; try (have hkT := fun (b o : Nat) (h : b < w.heap.size) => hkS b o (by first | omega | (simp; omega) | (simp; done))); go_simp); try with_reducible rfl)); simp only [Act.put, List.setIfInBounds_toArray, List.set_cons_zero, List.set_cons_succ]) | (refine Plan.tree_skip rfl rfl ?_; simp only [Act.put, List.setIfInBounds_toArray, List.set_cons_zero, List.set_cons_succ])))
  (refine Plan.tree_write rfl (fun K hK => ?_); try go_simp)
  go_at_call 20
  (with_reducible refine (K5.out _ _ _ _ _ ((hD10.below hb11).more hb11.size) hF1 (hB4.trans (kB11.mono hwz))).mono ?_)
  rintro e12 w12 ⟨rfl, hb12⟩
  have kB12 := Plan.below_go kB11 hb12
  (try go_simp)
  (refine hK.out _ _ (kB12) ?_; clear hK K; try simp only [Act.put, List.setIfInBounds_toArray, List.set_cons_zero, List.set_cons_succ])
  (repeat (first | (refine Plan.tree_read (v := ?_) rfl rfl ?_ ?_; rotate_left; (focus ((intro wS hSw; have hkS := (bcell hSw).1; try (have hkT := fun (b o : Nat) (h : b < w.heap.size) => hkS b o (by first | omega | (simp; omega) | (simp; done))); go_simp); try with_reducible rfl)); simp only [Act.put, List.setIfInBounds_toArray, List.set_cons_zero, List.set_cons_succ]) | (refine Plan.tree_skip rfl rfl ?_; simp only [Act.put, List.setIfInBounds_toArray, List.set_cons_zero, List.set_cons_succ])))
  refine Plan.tree_done ?_
  go_upto_region 9 with fail
  have hX5 := hX4.below kB12 hz4
  have hB5 := hB4.trans (kB12.mono hwz)
  have hD5 := (hD4.below kB12).more kB12.size
  have hz5 : w.heap.size < w12.heap.size := by have := kB12.size; omega
  clear x0 x1 x2 x3 x4 x5 x6 x7 x8 x9 x10 hX4 hB4 hz4 hwz hD10 hD4 hb11 hb12 hF1 kB10 kB11 kB12 K4 K5
  have hwz : w.heap.size ≤ w12.heap.size := by omega
  obtain ⟨x0, x1, x2, x3, x4, x5, x6, x7, x8, x9, x10⟩ := hX5.cells
  have hxl : x.length ≤ 8796093021952 := by omega
  have kB20 : Below w12.heap.size w12 (w12.alloc (Obj.cells #[] 60)).drew := ((Below.refl _ _).alloc (Nat.le_refl _) _).drew
  have kO20 : ((w12.alloc (Obj.cells #[] 60)).drew).ownsRow w12.heap.size 60 2 (.slice (some ⟨w12.heap.size, 0, none⟩) 0 0) 0 [] := (World.ownsRow_made w12 #[] 0 (Nat.le_refl _) (by unfold maxLen; omega) (by simp)).drew
  have hZ20 := Lib.hid (reads_pairs ((HZ.out.below (hB5.trans (kB20.mono hwz))).more (Nat.le_trans hwz (Nat.le_refl _))))
  refine Plan.wp_region_tree (.rd 1 (.rd 3 (.rd 4 (.rd 5 (.rd 6 (.wr 0 (.wr 2 (.wr 7 (.wr 8 (.rd 9 .done)))))))))) (by kernel_rfl) (by kernel_rfl) ?_
  (repeat (first | (refine Plan.tree_read (v := ?_) rfl rfl ?_ ?_; rotate_left; (focus ((intro wS hSw; have hkS := (bcell hSw).1; try (have hkT := fun (b o : Nat) (h : b < w.heap.size) => hkS b o (by first | omega | (simp; omega) | (simp; done))); go_simp); try with_reducible rfl)); simp only [Act.put, List.setIfInBounds_toArray, List.set_cons_zero, List.set_cons_succ]) | (refine Plan.tree_skip rfl rfl ?_; simp only [Act.put, List.setIfInBounds_toArray, List.set_cons_zero, List.set_cons_succ])))
  (refine Plan.tree_write rfl (fun K hK => ?_); try go_simp)
  (refine hK.out _ _ (kB20) ?_; clear hK K; try simp only [Act.put, List.setIfInBounds_toArray, List.set_cons_zero, List.set_cons_succ])
  (repeat (first | (refine Plan.tree_read (v := ?_) rfl rfl ?_ ?_; rotate_left; (focus ((intro wS hSw; have hkS := (bcell hSw).1; try (have hkT := fun (b o : Nat) (h : b < w.heap.size) => hkS b o (by first | omega | (simp; omega) | (simp; done))); go_simp); try with_reducible rfl)); simp only [Act.put, List.setIfInBounds_toArray, List.set_cons_zero, List.set_cons_succ]) | (refine Plan.tree_skip rfl rfl ?_; simp only [Act.put, List.setIfInBounds_toArray, List.set_cons_zero, List.set_cons_succ])))
  refine Plan.tree_write rfl (fun K hK => ?_)
  refine step_append_any _ (by rfl) _ _ _ (by rfl) w12.heap.size 60 g0 _ 2 16 Try.underlying34 gi gz0 gz1 gz2 rfl (by omega) _ 0 [] (by rfl) kO20 w12.heap.size Z x.length cz (rowP x) (by rfl) hZ20.out (rowP_one x) (by unfold maxLen; omega) (by omega) (by simp) ?_
  intro v21 w21 hown21 hgr21 hob21
  have kB21 : Below w12.heap.size w12 w21 := kB20.grown hgr21 (by simp) (fun k hk => by simp [Value.ownBlock] at hk; omega)
  (refine hK.out _ _ (kB21) ?_; clear hK K; try simp only [Act.put, List.setIfInBounds_toArray, List.set_cons_zero, List.set_cons_succ])
  (repeat (first | (refine Plan.tree_read (v := ?_) rfl rfl ?_ ?_; rotate_left; (focus ((intro wS hSw; have hkS := (bcell hSw).1; try (have hkT := fun (b o : Nat) (h : b < w.heap.size) => hkS b o (by first | omega | (simp; omega) | (simp; done))); go_simp); try with_reducible rfl)); simp only [Act.put, List.setIfInBounds_toArray, List.set_cons_zero, List.set_cons_succ]) | (refine Plan.tree_skip rfl rfl ?_; simp only [Act.put, List.setIfInBounds_toArray, List.set_cons_zero, List.set_cons_succ])))
  (refine Plan.tree_write rfl (fun K hK => ?_); try go_simp)
  go_at_call 16
  (with_reducible refine (K6.out _ (hB5.trans (kB21.mono hwz))).mono ?_)
  rintro e22 w22 ⟨F2, cf2, rfl, hF2, hb22⟩
  have kB22 := Plan.below_go kB21 hb22
  have hown22 := hown21.kept (grown_of_below hb22) (by cases v21.ownBlock <;> simp)
  (try go_simp)
  (refine hK.out _ _ (kB22) ?_; clear hK K; try simp only [Act.put, List.setIfInBounds_toArray, List.set_cons_zero, List.set_cons_succ])
  (repeat (first | (refine Plan.tree_read (v := ?_) rfl rfl ?_ ?_; rotate_left; (focus ((intro wS hSw; have hkS := (bcell hSw).1; try (have hkT := fun (b o : Nat) (h : b < w.heap.size) => hkS b o (by first | omega | (simp; omega) | (simp; done))); go_simp); try with_reducible rfl)); simp only [Act.put, List.setIfInBounds_toArray, List.set_cons_zero, List.set_cons_succ]) | (refine Plan.tree_skip rfl rfl ?_; simp only [Act.put, List.setIfInBounds_toArray, List.set_cons_zero, List.set_cons_succ])))
  refine Plan.tree_write rfl (fun K hK => ?_)
  refine step_append_any _ (by rfl) _ _ _ (by rfl) w12.heap.size 60 g0 _ 2 16 Try.underlying34 gi gz0 gz1 gz2 rfl (by omega) _ (0 + x.length) ([] ++ rowP x) (by rfl) hown22 w22.heap.size F2 n2 cf2 (rowP (excN pl R S G)) (by rfl) (by have := reads_pairs hF2; rw [hn2.out] at this; exact this) (rowP_one _) (by unfold maxLen; omega) (by omega) kB22.size ?_
  intro v23 w23 hown23 hgr23 hob23
  have kB23 : Below w12.heap.size w12 w23 := kB22.grown hgr23 kB22.size (fun k hk => (hown22.lt k hk).1)
  (refine hK.out _ _ (kB23) ?_; clear hK K; try simp only [Act.put, List.setIfInBounds_toArray, List.set_cons_zero, List.set_cons_succ])
  (repeat (first | (refine Plan.tree_read (v := ?_) rfl rfl ?_ ?_; rotate_left; (focus ((intro wS hSw; have hkS := (bcell hSw).1; try (have hkT := fun (b o : Nat) (h : b < w.heap.size) => hkS b o (by first | omega | (simp; omega) | (simp; done))); go_simp); try with_reducible rfl)); simp only [Act.put, List.setIfInBounds_toArray, List.set_cons_zero, List.set_cons_succ]) | (refine Plan.tree_skip rfl rfl ?_; simp only [Act.put, List.setIfInBounds_toArray, List.set_cons_zero, List.set_cons_succ])))
  refine Plan.tree_done ?_
  obtain ⟨F5, cf5, e5, hF5⟩ := pairs_of_owns (A := x ++ excN pl R S G) (by rw [rowP_app, List.length_append, hn2.out]; simpa using hown23)
  rw [List.length_append, hn2.out] at e5
  subst e5
  have hX6 := hX5.below kB23 hz5
  have hB6 := hB5.trans (kB23.mono hwz)
  have hD6 := (hD5.below kB23).more kB23.size
  have hz6 : w.heap.size < w23.heap.size := by have := kB23.size; omega
  clear x0 x1 x2 x3 x4 x5 x6 x7 x8 x9 x10 kB20 kO20 kB21 kB22 kB23 hX5 hB5 hD5 hown21 hown22 hown23 hob21 hob23 hgr21 hgr23 hZ20 hF2 hb22
  obtain ⟨x0, x1, x2, x3, x4, x5, x6, x7, x8, x9, x10⟩ := hX6.cells
  cases c1
  · cases c2
    · clear same1 same2 K9
      go_wp2_with (first | (go_at_call 20; (with_reducible refine (K7.out _ _ _ hF5 hB6).mono ?_); rintro e24 w24 ⟨rfl, hb24⟩; have hB7 := hB6.trans (hb24.mono hB6.size); obtain ⟨y0, y1, y2, y3, y4, y5, y6, y7, y8, y9, y10⟩ := (hX6.below hb24 hz6).cells) | (go_at_call 20; (with_reducible refine (K8.out _ hB7).mono ?_); rintro e25 w25 ⟨rfl, hb25⟩) | fail)
      go_ret
      exact ⟨rfl, hB7.trans (hb25.mono hB7.size)⟩
    · have hsm := same2.out rfl
      clear same1 same2
      go_wp2_with (first | (go_at_call 20; (with_reducible refine (K7.out _ _ _ hF5 hB6).mono ?_); rintro e24 w24 ⟨rfl, hb24⟩; have hB7 := hB6.trans (hb24.mono hB6.size); have hD7 := (hD6.below hb24).more hb24.size; obtain ⟨y0, y1, y2, y3, y4, y5, y6, y7, y8, y9, y10⟩ := (hX6.below hb24 hz6).cells) | (go_at_call 20; (with_reducible refine (K8.out _ hB7).mono ?_); rintro e25 w25 ⟨rfl, hb25⟩; have hB8 := hB7.trans (hb25.mono hB7.size); have hD8 := (hD7.below hb25).more hb25.size) | (go_at_call 24; (with_reducible refine (K9.out _ _ _ hD8 hB8 hsm).mono ?_); rintro e26 w26 ⟨rfl, hb26⟩) | fail)
      go_ret
      exact ⟨rfl, hB8.trans (hb26.mono hB8.size)⟩
  · have hsm := same1.out rfl
    clear same1 same2 K8
    go_wp2_with (first | (go_at_call 20; (with_reducible refine (K7.out _ _ _ hF5 hB6).mono ?_); rintro e24 w24 ⟨rfl, hb24⟩; have hB7 := hB6.trans (hb24.mono hB6.size); have hD7 := (hD6.below hb24).more hb24.size) | (go_at_call 24; (with_reducible refine (K9.out _ _ _ hD7 hB7 hsm).mono ?_); rintro e26 w26 ⟨rfl, hb26⟩) | fail)
    go_ret
    exact ⟨rfl, hB7.trans (hb26.mono hB7.size)⟩
end Go.Proofs.Ytkbceeobnbbfbaa
