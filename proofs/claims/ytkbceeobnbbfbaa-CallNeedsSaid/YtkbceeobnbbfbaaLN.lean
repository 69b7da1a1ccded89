/- CallNeeds: for every input the law answers true. -/
import Derived.Test.YtkbceeobnbbfbaaSM
import Derived.Test.YtkbceeobnbbfbaaLP0
import Derived.Test.YtkbceeobnbbfbaaLT
import Derived.Test.YtkbceeobnbbfbaaLO0
import Derived.Test.YtkbceeobnbbfbaaLN0
import Derived.Test.YtkbceeobnbbfbaaLO0
set_option linter.unusedSimpArgs false
set_option linter.unusedVariables false
namespace Go.Proofs.Ytkbceeobnbbfbaa
open Go.RowKit CM
attribute [local go_sem] alloc_drewN setCell_drewN shape_drewN

set_option maxRecDepth 100000 in
set_option maxHeartbeats 8000000 in
theorem needs_any (X : Bas) (pl : Pl) (R : List Rt) (S : List Int) (x : List (Int × Int)) (a4 : Int) (C : Option Addr) (cr : Nat) (E : Option Addr) (cs : Nat) (Z : Option Addr) (cz : Nat) (w : World) (hP : PlacesAt w w.heap.size X.P pl) (hR : RightsAt w w.heap.size C R) (hE : IntsAt w w.heap.size E S) (hZ : PairsAt w w.heap.size Z x) (hx : x.length * 16 ≤ 140737488351232)
    (hl : pl.length ≤ 9223372036854775807) (hr : R.length ≤ 9223372036854775807) (hs : S.length ≤ 9223372036854775807) (hS : ∀ x ∈ S, In64 x) :
    Calls Try.prog 7 #[.agg #[.string X.nm, .slice X.a1 X.l1 X.c1, .int .i64 X.cl, .slice X.P pl.length X.cP, .slice X.a4 X.l4 X.c4, .slice X.a5 X.l5 X.c5, .slice X.a6 X.l6 X.c6, .slice X.a7 X.l7 X.c7, .slice X.a8 X.l8 X.c8, .slice X.a9 X.l9 X.c9, .int .i64 X.er], .slice C R.length cr, .slice E S.length cs, .slice Z x.length cz, .int .i64 a4] w (BoolIs true w) := by
  have K0 := Lib.hid (fun wx => small_any wx)
  obtain ⟨fv, hfv⟩ : ∃ fv, fewB pl R.length 0 = fv := ⟨_, rfl⟩
  obtain ⟨mv, hmv⟩ : ∃ mv, modB S = mv := ⟨_, rfl⟩
  have K1 : Hid (∀ wx, Calls Try.prog 9 #[.agg #[.string X.nm, .slice X.a1 X.l1 X.c1, .int .i64 X.cl, .slice X.P pl.length X.cP, .slice X.a4 X.l4 X.c4, .slice X.a5 X.l5 X.c5, .slice X.a6 X.l6 X.c6, .slice X.a7 X.l7 X.c7, .slice X.a8 X.l8 X.c8, .slice X.a9 X.l9 X.c9, .int .i64 X.er], .slice C R.length cr, .slice none 0 0] wx (BoolIs fv wx)) := fun wx => by have := few_any X pl C R.length cr none 0 0 wx; rw [hfv] at this; exact this
  have K2 : Hid (∀ wx, Below w.heap.size w wx → Calls Try.prog 22 #[.slice E S.length cs] wx (BoolIs mv wx)) := fun wx h => by have := (modest_any S E cs wx (hE.below h) hs).mono fun e w' h => pure_below h; rw [hmv] at this; exact this
  have hnP := Lib.hid (fun (h1 : fv = true) (h2 : mv = true) => (⟨fewB_true (hfv.trans h1), hmv.trans h2⟩ : (pl.length ≤ 16 ∧ R.length ≤ 14 ∧ 0 ≤ 20) ∧ modB S = true))
  clear hfv hmv
  by_cases hall : fv = true ∧ mv = true
  case neg =>
    clear hnP
    cases fv
    · go_enter Try.func7, Try.ntmps7
      go_wp2_with (first | (go_at_call 8; ((with_reducible refine (K0.out _).mono ?_); rintro e1 w1 ⟨rfl, hb1⟩; have kc := (bcell hb1).1)) | (go_at_call 9; ((with_reducible refine (K1.out _).mono ?_); rintro e2 w2 ⟨rfl, hb2⟩; have hB2 := ((((Below.refl _ _).alloc (Nat.le_refl _) _).trans (hb1.mono (by simp)))).trans (hb2.mono (by have := hb1.size; simp at this; omega)))) | (go_at_call 22; ((with_reducible refine (K2.out _ hB2).mono ?_); rintro e3 w3 ⟨rfl, hb3⟩)) | fail)
      go_ret
      exact ⟨rfl, hB2.trans (hb3.mono (by have h1 := hB2.size; omega))⟩
    cases mv
    · go_enter Try.func7, Try.ntmps7
      go_wp2_with (first | (go_at_call 8; ((with_reducible refine (K0.out _).mono ?_); rintro e1 w1 ⟨rfl, hb1⟩; have kc := (bcell hb1).1)) | (go_at_call 9; ((with_reducible refine (K1.out _).mono ?_); rintro e2 w2 ⟨rfl, hb2⟩; have hB2 := ((((Below.refl _ _).alloc (Nat.le_refl _) _).trans (hb1.mono (by simp)))).trans (hb2.mono (by have := hb1.size; simp at this; omega)))) | (go_at_call 22; ((with_reducible refine (K2.out _ hB2).mono ?_); rintro e3 w3 ⟨rfl, hb3⟩)) | fail)
      go_ret
      exact ⟨rfl, hB2.trans (hb3.mono (by have h1 := hB2.size; omega))⟩
    exact absurd ⟨rfl, rfl⟩ hall
  obtain ⟨rfl, rfl⟩ := hall
  obtain ⟨⟨f1, f2, f3⟩, hmod⟩ := hnP.out rfl rfl
  have hM := Lib.hid (modest_of hmod f1 f2)
  have hdl := Lib.hid (dayLs_len (pl := pl) (R := R) (S := S))
  clear hnP hmod
  have K3 : Hid (∀ wx, Below w.heap.size w wx → Calls Try.prog 23 #[.agg #[.string X.nm, .slice X.a1 X.l1 X.c1, .int .i64 X.cl, .slice X.P pl.length X.cP, .slice X.a4 X.l4 X.c4, .slice X.a5 X.l5 X.c5, .slice X.a6 X.l6 X.c6, .slice X.a7 X.l7 X.c7, .slice X.a8 X.l8 X.c8, .slice X.a9 X.l9 X.c9, .int .i64 X.er], .slice C R.length cr, .slice E S.length cs] wx (DayIs pl R S wx)) := fun wx h => day_any X pl R S C cr E cs wx (hP.below h) (hR.below h) (hE.below h) h.size (by omega) (by omega) hs hS
  have HRs := Lib.hid (fun (j : Nat) (r : Rt) (h : R[j]? = some r) => hR.at_ h)
  have HZ := Lib.hid hZ
  clear hZ
  go_enter Try.func7, Try.ntmps7
  go_upto_region 6 with (first | (go_at_call 8; ((with_reducible refine (K0.out _).mono ?_); rintro e1 w1 ⟨rfl, hb1⟩; have kc := (bcell hb1).1)) | (go_at_call 9; ((with_reducible refine (K1.out _).mono ?_); rintro e2 w2 ⟨rfl, hb2⟩; have hB2 := ((((Below.refl _ _).alloc (Nat.le_refl _) _).trans (hb1.mono (by simp)))).trans (hb2.mono (by have := hb1.size; simp at this; omega)); have hX2 : BoxB w2 w.heap.size X pl := ((BoxB.new w X pl).below (B := w.heap.size + 1) (hb1.mono (by simp)) (by omega)).below (B := w.heap.size + 1) (hb2.mono (by have := hb1.size; simpa using this)) (by omega))) | (go_at_call 22; ((with_reducible refine (K2.out _ hB2).mono ?_); rintro e3 w3 ⟨rfl, hb3⟩)) | fail)
  have hX3 : BoxB w3 w.heap.size X pl := hX2.below hb3 (by have h1 := hb1.size; have h2 := hb2.size; simp at h1; omega)
  have hB3 := hB2.trans (hb3.mono hB2.size)
  have hz3 : w.heap.size < w3.heap.size := by have h1 := hb1.size; have h2 := hb2.size; have h3 := hb3.size; simp at h1; omega
  clear hb1 hb2 hb3 kc K0 K1 K2 hX2 hB2
  obtain ⟨x0, x1, x2, x3, x4, x5, x6, x7, x8, x9, x10⟩ := hX3.cells
  have HB3 := Lib.hid hB3
  go_wp2_with fail
  go_loopw [14] (fun i wr => ∃ k : Nat, k ≤ R.length ∧ i = .int .i64 k ∧ Hid (∀ m p, m < k → p < m → (rtN R p).id ≠ (rtN R m).id) ∧ Below w3.heap.size w3 wr) (fun i _ => R.length - (intOf i).toNat)
  case atStart => exact ⟨0, Nat.zero_le _, rfl, fun m p h => absurd h (by omega), Below.refl _ _⟩
  case round =>
    obtain ⟨k, hk, rfl, hdi, hBy⟩ := hrel
    by_cases hlt : k < R.length
    case neg =>
      have hke : k = R.length := by omega
      subst hke
      have hBw := HB3.out.trans (hBy.mono HB3.out.size)
      have hXr := hX3.below hBy hz3
      have hzr : w.heap.size < wr.heap.size := by have := hBy.size; omega
      clear x0 x1 x2 x3 x4 x5 x6 x7 x8 x9 x10 hX3 hB3
      obtain ⟨x0, x1, x2, x3, x4, x5, x6, x7, x8, x9, x10⟩ := hXr.cells
      have HBr := Lib.hid hBw
      have hidd : Hid (∀ i j, i < R.length → j < R.length → (rtN R i).id = (rtN R j).id → i = j) := fun i j hi hj he => by
        rcases Nat.lt_trichotomy i j with h | h | h
        · exact absurd he (hdi.out j i hj h)
        · exact h
        · exact absurd he.symm (hdi.out i j hi h)
      obtain ⟨g0, gi, gz0, gz1, gz2⟩ := info_parts Try.infoExcuse
      obtain ⟨n1, hn1⟩ : ∃ n, Hid ((excN pl R S (dayLs pl R S)).length = n) := ⟨_, rfl⟩
      have hn1l : n1 ≤ 196 := by
        have hq := excN_len pl R S (dayLs pl R S)
        have hq2 : R.length * R.length ≤ 14 * 14 := Nat.mul_le_mul f2 f2
        have := hn1.out
        omega
      have K4 : Hid (∀ (A : Option Addr) (ca : Nat) (wx : World), PairsAt wx wx.heap.size A (dayLs pl R S) → Below w.heap.size w wx → Calls Try.prog 16 #[.agg #[.string X.nm, .slice X.a1 X.l1 X.c1, .int .i64 X.cl, .slice X.P pl.length X.cP, .slice X.a4 X.l4 X.c4, .slice X.a5 X.l5 X.c5, .slice X.a6 X.l6 X.c6, .slice X.a7 X.l7 X.c7, .slice X.a8 X.l8 X.c8, .slice X.a9 X.l9 X.c9, .int .i64 X.er], .slice C R.length cr, .slice E S.length cs, .slice A R.length ca] wx (fun e w' => ∃ F cf, e = .returned (.slice F n1 cf) ∧ n1 ≤ cf ∧ PairsAt w' w'.heap.size F (excN pl R S (dayLs pl R S)) ∧ Below wx.heap.size wx w')) := fun A ca wx hA h => by
        have := (excuses_any X pl R S (dayLs pl R S) C cr E cs A ca wx ((hP.below h).more h.size) ((hR.below h).more h.size) ((hE.below h).more h.size) hA (Nat.le_refl _) (by omega) (by omega) (by rw [hdl.out]; omega) hs hS).mono fun e w' ⟨F, cf, he, h0, h1, h2⟩ => (⟨F, cf, by rw [he, hn1.out], by have := hn1.out; omega, h1, h2⟩ : ∃ F cf, e = Ending.returned (.slice F n1 cf) ∧ n1 ≤ cf ∧ PairsAt w' w'.heap.size F (excN pl R S (dayLs pl R S)) ∧ Below wx.heap.size wx w')
        rw [hdl.out] at this
        exact this
      have hxl : x.length ≤ 8796093021952 := by omega
      have K5 : Hid (∀ (A : Option Addr) (ca : Nat) (F : Option Addr) (cf : Nat) (wx : World), PairsAt wx wx.heap.size A (dayLs pl R S) → PairsAt wx wx.heap.size F (x ++ excN pl R S (dayLs pl R S)) → Below w.heap.size w wx → Calls Try.prog 20 #[.agg #[.string X.nm, .slice X.a1 X.l1 X.c1, .int .i64 X.cl, .slice X.P pl.length X.cP, .slice X.a4 X.l4 X.c4, .slice X.a5 X.l5 X.c5, .slice X.a6 X.l6 X.c6, .slice X.a7 X.l7 X.c7, .slice X.a8 X.l8 X.c8, .slice X.a9 X.l9 X.c9, .int .i64 X.er], .slice C R.length cr, .slice E S.length cs, .slice A R.length ca, .slice F (x.length + n1) cf] wx (BoolIs true wx)) := fun A ca F cf wx hA hF h => by
        have hl2 : (x ++ excN pl R S (dayLs pl R S)).length = x.length + n1 := by rw [List.length_append, hn1.out]
        have := check_any X pl R S (dayLs pl R S) (x ++ excN pl R S (dayLs pl R S)) C cr E cs A ca F cf wx ((hP.below h).more h.size) ((hR.below h).more h.size) ((hE.below h).more h.size) hA hF (Nat.le_refl _) (by omega) (by omega) (by rw [hdl.out]; omega) hs (by omega) hS
        rw [chk_day hM.out (fun e h => List.mem_append.2 (.inr h)), hdl.out, hl2] at this
        exact this
      have K6 : Hid (∀ (c : Nat) (A : Option Addr) (ca : Nat) (F : Option Addr) (cf : Nat) (wx : World), c < n1 → PairsAt wx wx.heap.size A (dayLs pl R S) → PairsAt wx wx.heap.size F ((excN pl R S (dayLs pl R S)).take c ++ (excN pl R S (dayLs pl R S)).drop (c + 1)) → Below w.heap.size w wx → Calls Try.prog 20 #[.agg #[.string X.nm, .slice X.a1 X.l1 X.c1, .int .i64 X.cl, .slice X.P pl.length X.cP, .slice X.a4 X.l4 X.c4, .slice X.a5 X.l5 X.c5, .slice X.a6 X.l6 X.c6, .slice X.a7 X.l7 X.c7, .slice X.a8 X.l8 X.c8, .slice X.a9 X.l9 X.c9, .int .i64 X.er], .slice C R.length cr, .slice E S.length cs, .slice A R.length ca, .slice F (c + (n1 - (c + 1))) cf] wx (BoolIs false wx)) := fun c A ca F cf wx hc hA hF h => by
        have hl2 : ((excN pl R S (dayLs pl R S)).take c ++ (excN pl R S (dayLs pl R S)).drop (c + 1)).length = c + (n1 - (c + 1)) := by have := hn1.out; simp; omega
        have := check_any X pl R S (dayLs pl R S) ((excN pl R S (dayLs pl R S)).take c ++ (excN pl R S (dayLs pl R S)).drop (c + 1)) C cr E cs A ca F cf wx ((hP.below h).more h.size) ((hR.below h).more h.size) ((hE.below h).more h.size) hA hF (Nat.le_refl _) (by omega) (by omega) (by rw [hdl.out]; omega) hs (by omega) hS
        rw [rest_no hM.out hidd.out (by have := hn1.out; omega), hdl.out, hl2] at this
        exact this
      go_upto_region 15 with (first | (go_at_call 23; ((with_reducible refine (K3.out _ HBr.out).mono ?_); intro e4 w4 hdd; obtain ⟨D4, cd, rfl, hD4, _, hb4, _⟩ := day_pairs hdd; clear hdd; have kc := (bcell hb4).1)) | fail)
      have hX4 := hXr.below hb4 hzr
      have hB4 := hBw.trans (hb4.mono hBw.size)
      have hz4 : w.heap.size < w4.heap.size := by have := hb4.size; omega
      clear x0 x1 x2 x3 x4 x5 x6 x7 x8 x9 x10 hXr hBw hb4 hzr kc K3 HBr
      obtain ⟨x0, x1, x2, x3, x4, x5, x6, x7, x8, x9, x10⟩ := hX4.cells
      have HB4 := Lib.hid hB4
      go_upto_region 16 with (first | (go_at_call 16; ((with_reducible refine (K4.out _ _ _ hD4 HB4.out).mono ?_); rintro e5 w5 ⟨F5, cf5, rfl, hcf5, hF5, hb5⟩; have kc := (bcell hb5).1)) | fail)
      have hX5 := hX4.below hb5 hz4
      have hB5 := hB4.trans (hb5.mono hB4.size)
      have hD5 := (hD4.below hb5).more hb5.size
      have hz5 : w.heap.size < w5.heap.size := by have := hb5.size; omega
      clear x0 x1 x2 x3 x4 x5 x6 x7 x8 x9 x10 hX4 hB4 hb5 hz4 kc K4 HB4 hD4
      have hwz : w.heap.size ≤ w5.heap.size := by omega
      obtain ⟨x0, x1, x2, x3, x4, x5, x6, x7, x8, x9, x10⟩ := hX5.cells
      have kB20 : Below w5.heap.size w5 (w5.alloc (Obj.cells #[] 60)).drew := ((Below.refl _ _).alloc (Nat.le_refl _) _).drew
      have kO20 : ((w5.alloc (Obj.cells #[] 60)).drew).ownsRow w5.heap.size 60 2 (.slice (some ⟨w5.heap.size, 0, none⟩) 0 0) 0 [] := (World.ownsRow_made w5 #[] 0 (Nat.le_refl _) (by unfold maxLen; omega) (by simp)).drew
      have hZ20 := Lib.hid (reads_pairs ((HZ.out.below (hB5.trans (kB20.mono hwz))).more hwz))
      refine Plan.wp_region_tree (.rd 0 (.rd 1 (.rd 2 (.rd 3 (.rd 5 (.rd 7 (.wr 4 (.wr 6 (.wr 8 (.wr 9 (.rd 10 .done))))))))))) (by kernel_rfl) (by kernel_rfl) ?_
      (repeat (first | (refine Plan.tree_read (v := ?_) rfl rfl ?_ ?_; rotate_left; (focus ((intro wS hSw; have hkS := (bcell hSw).1; try (have hkT := fun (b o : Nat) (h : b < w.heap.size) => hkS b o (by first | omega | (simp; omega) | (simp; done))); go_simp); try with_reducible rfl)); simp only [Act.put, List.setIfInBounds_toArray, List.set_cons_zero, List.set_cons_succ]) | (refine Plan.tree_skip rfl rfl ?_; simp only [Act.put, List.setIfInBounds_toArray, List.set_cons_zero, List.set_cons_succ])))
      (refine Plan.tree_write rfl (fun K hK => ?_); try go_simp)
      (refine hK.out _ _ (kB20) ?_; clear hK K; try simp only [Act.put, List.setIfInBounds_toArray, List.set_cons_zero, List.set_cons_succ])
      (repeat (first | (refine Plan.tree_read (v := ?_) rfl rfl ?_ ?_; rotate_left; (focus ((intro wS hSw; have hkS := (bcell hSw).1; try (have hkT := fun (b o : Nat) (h : b < w.heap.size) => hkS b o (by first | omega | (simp; omega) | (simp; done))); go_simp); try with_reducible rfl)); simp only [Act.put, List.setIfInBounds_toArray, List.set_cons_zero, List.set_cons_succ]) | (refine Plan.tree_skip rfl rfl ?_; simp only [Act.put, List.setIfInBounds_toArray, List.set_cons_zero, List.set_cons_succ])))
      refine Plan.tree_write rfl (fun K hK => ?_)
      refine step_append_any _ (by rfl) _ _ _ (by rfl) w5.heap.size 60 g0 _ 2 16 Try.underlying34 gi gz0 gz1 gz2 rfl (by omega) _ 0 [] (by rfl) kO20 w5.heap.size Z x.length cz (rowP x) (by rfl) hZ20.out (rowP_one x) (by unfold maxLen; omega) (by omega) (by simp) ?_
      intro v21 w21 hown21 hgr21 hob21
      have kB21 : Below w5.heap.size w5 w21 := kB20.grown hgr21 (by simp) (fun k hk => by simp [Value.ownBlock] at hk; omega)
      (refine hK.out _ _ (kB21) ?_; clear hK K; try simp only [Act.put, List.setIfInBounds_toArray, List.set_cons_zero, List.set_cons_succ])
      (repeat (first | (refine Plan.tree_read (v := ?_) rfl rfl ?_ ?_; rotate_left; (focus ((intro wS hSw; have hkS := (bcell hSw).1; try (have hkT := fun (b o : Nat) (h : b < w.heap.size) => hkS b o (by first | omega | (simp; omega) | (simp; done))); go_simp); try with_reducible rfl)); simp only [Act.put, List.setIfInBounds_toArray, List.set_cons_zero, List.set_cons_succ]) | (refine Plan.tree_skip rfl rfl ?_; simp only [Act.put, List.setIfInBounds_toArray, List.set_cons_zero, List.set_cons_succ])))
      refine Plan.tree_write rfl (fun K hK => ?_)
      refine step_append_any _ (by rfl) _ _ _ (by rfl) w5.heap.size 60 g0 _ 2 16 Try.underlying34 gi gz0 gz1 gz2 rfl (by omega) _ (0 + x.length) ([] ++ rowP x) (by rfl) hown21 w5.heap.size F5 n1 cf5 (rowP (excN pl R S (dayLs pl R S))) (by rfl) (by have := reads_pairs (hF5.below kB21); rw [hn1.out] at this; exact this) (rowP_one _) (by unfold maxLen; omega) (by omega) kB21.size ?_
      intro v22 w22 hown22 hgr22 hob22
      have kB22 : Below w5.heap.size w5 w22 := kB21.grown hgr22 kB21.size (fun k hk => (hown21.lt k hk).1)
      obtain ⟨F6, cf6, e6, hF6⟩ := pairs_of_owns (A := x ++ excN pl R S (dayLs pl R S)) (by rw [rowP_app, List.length_append, hn1.out]; simpa using hown22)
      rw [List.length_append, hn1.out] at e6
      subst e6
      (refine hK.out _ _ (kB22) ?_; clear hK K; try simp only [Act.put, List.setIfInBounds_toArray, List.set_cons_zero, List.set_cons_succ])
      (repeat (first | (refine Plan.tree_read (v := ?_) rfl rfl ?_ ?_; rotate_left; (focus ((intro wS hSw; have hkS := (bcell hSw).1; try (have hkT := fun (b o : Nat) (h : b < w.heap.size) => hkS b o (by first | omega | (simp; omega) | (simp; done))); go_simp); try with_reducible rfl)); simp only [Act.put, List.setIfInBounds_toArray, List.set_cons_zero, List.set_cons_succ]) | (refine Plan.tree_skip rfl rfl ?_; simp only [Act.put, List.setIfInBounds_toArray, List.set_cons_zero, List.set_cons_succ])))
      (refine Plan.tree_write rfl (fun K hK => ?_); try go_simp)
      go_at_call 20
      (with_reducible refine (K5.out _ _ _ _ _ ((hD5.below kB22).more kB22.size) hF6 (hB5.trans (kB22.mono hwz))).mono ?_)
      rintro e23 w23 ⟨rfl, hb23⟩
      have kB23 := Plan.below_go kB22 hb23
      (try go_simp)
      (refine hK.out _ _ (kB23) ?_; clear hK K; try simp only [Act.put, List.setIfInBounds_toArray, List.set_cons_zero, List.set_cons_succ])
      (repeat (first | (refine Plan.tree_read (v := ?_) rfl rfl ?_ ?_; rotate_left; (focus ((intro wS hSw; have hkS := (bcell hSw).1; try (have hkT := fun (b o : Nat) (h : b < w.heap.size) => hkS b o (by first | omega | (simp; omega) | (simp; done))); go_simp); try with_reducible rfl)); simp only [Act.put, List.setIfInBounds_toArray, List.set_cons_zero, List.set_cons_succ]) | (refine Plan.tree_skip rfl rfl ?_; simp only [Act.put, List.setIfInBounds_toArray, List.set_cons_zero, List.set_cons_succ])))
      refine Plan.tree_done ?_
      go_upto_region 18 with fail
      have hX6 := hX5.below kB23 hz5
      have hB6 := hB5.trans (kB23.mono hwz)
      have hD6 := (hD5.below kB23).more kB23.size
      have hF7 := (hF5.below kB23).more kB23.size
      have hz6 : w.heap.size < w23.heap.size := by have := kB23.size; omega
      clear x0 x1 x2 x3 x4 x5 x6 x7 x8 x9 x10 kB20 kO20 kB21 kB22 kB23 hX5 hB5 hD5 hF5 hown21 hown22 hob21 hob22 hgr21 hgr22 hZ20 hF6 hb23 hwz hz5 K5
      have hwz : w.heap.size ≤ w23.heap.size := by omega
      obtain ⟨x0, x1, x2, x3, x4, x5, x6, x7, x8, x9, x10⟩ := hX6.cells
      by_cases q1 : a4 < 0
      · have d1 : decide (a4 < 0) = true := decide_eq_true q1
        go_wp2_with fail
        go_ret
        exact ⟨rfl, hB6⟩
      have d1a : decide (a4 < 0) = false := decide_eq_false q1
      by_cases q2 : (n1 : Int) ≤ a4
      · have d2 : decide ((n1 : Int) ≤ a4) = true := decide_eq_true q2
        go_wp2_with fail
        go_ret
        exact ⟨rfl, hB6⟩
      have d2a : decide ((n1 : Int) ≤ a4) = false := decide_eq_false q2
      go_upto_region 20 with fail
      obtain ⟨c, rfl⟩ : ∃ c : Nat, a4 = (c : Int) := ⟨a4.toNat, by omega⟩
      have hc : c < n1 := by omega
      clear q1 q2 d1a d2a
      obtain ⟨b7, o7, rfl, hb7, hc7⟩ := hF7 (by have := hn1.out; omega)
      have hc1 : c ≤ cf5 := by omega
      have hc2 : c + 1 ≤ n1 := by omega
      have hc3 : (0 : Int) ≤ (c : Int) := by omega
      have hc4 : (c : Int) ≤ (cf5 : Int) := by omega
      have hc5 : (0 : Int) ≤ (c : Int) + 1 := by omega
      have hc6 : (c : Int) + 1 ≤ (n1 : Int) := by omega
      have hw1 : IntKind.i64.wrap ((c : Int) + 1) = (c : Int) + 1 := IntWalk.i64_in _ (by omega)
      refine Plan.wp_region_tree (.rd 1 (.rd 2 (.rd 3 (.rd 5 (.rd 6 (.rd 7 (.rd 8 (.wr 0 (.wr 4 (.wr 9 (.rd 10 .done))))))))))) (by kernel_rfl) (by kernel_rfl) ?_
      (repeat (first | (refine Plan.tree_read (v := ?_) rfl rfl ?_ ?_; rotate_left; (focus ((intro wS hSw; have hkS := (bcell hSw).1; try (have hkT := fun (b o : Nat) (h : b < w.heap.size) => hkS b o (by first | omega | (simp; omega) | (simp; done))); go_simp); try with_reducible rfl)); simp only [Act.put, List.setIfInBounds_toArray, List.set_cons_zero, List.set_cons_succ]) | (refine Plan.tree_skip rfl rfl ?_; simp only [Act.put, List.setIfInBounds_toArray, List.set_cons_zero, List.set_cons_succ])))
      have hlt1 : ((excN pl R S (dayLs pl R S)).take c).length = c := by have := hn1.out; simp; omega
      have hld1 : ((excN pl R S (dayLs pl R S)).drop (c + 1)).length = n1 - (c + 1) := by have := hn1.out; simp; omega
      have hT7 := pairs_take hF7 c
      have hQ7 := pairs_drop hF7 (k := c + 1) (cf := cf5) (by rw [hn1.out]; omega) (by rw [hn1.out]; omega)
      have hT := Lib.hid hlt1
      have hL := Lib.hid hld1
      clear hlt1 hld1
      have kB30 : Below w23.heap.size w23 (w23.alloc (Obj.cells #[] 60)).drew := ((Below.refl _ _).alloc (Nat.le_refl _) _).drew
      have kO30 : ((w23.alloc (Obj.cells #[] 60)).drew).ownsRow w23.heap.size 60 2 (.slice (some ⟨w23.heap.size, 0, none⟩) 0 0) 0 [] := (World.ownsRow_made w23 #[] 0 (Nat.le_refl _) (by unfold maxLen; omega) (by simp)).drew
      (refine Plan.tree_write rfl (fun K hK => ?_); try go_simp)
      (refine hK.out _ _ (kB30) ?_; clear hK K; try simp only [Act.put, List.setIfInBounds_toArray, List.set_cons_zero, List.set_cons_succ])
      (repeat (first | (refine Plan.tree_read (v := ?_) rfl rfl ?_ ?_; rotate_left; (focus ((intro wS hSw; have hkS := (bcell hSw).1; try (have hkT := fun (b o : Nat) (h : b < w.heap.size) => hkS b o (by first | omega | (simp; omega) | (simp; done))); go_simp); try with_reducible rfl)); simp only [Act.put, List.setIfInBounds_toArray, List.set_cons_zero, List.set_cons_succ]) | (refine Plan.tree_skip rfl rfl ?_; simp only [Act.put, List.setIfInBounds_toArray, List.set_cons_zero, List.set_cons_succ])))
      refine Plan.tree_write rfl (fun K hK => ?_)
      refine step_append_any _ (by rfl) _ _ _ (by rfl) w23.heap.size 60 g0 _ 2 16 Try.underlying34 gi gz0 gz1 gz2 rfl (by omega) _ 0 [] (by rfl) kO30 w23.heap.size (some ⟨b7, o7, none⟩) c cf5 (rowP ((excN pl R S (dayLs pl R S)).take c)) (by rfl) (by have := reads_pairs (hT7.below kB30); rw [hT.out] at this; exact this) (rowP_one _) (by unfold maxLen; omega) (by omega) (by simp) ?_
      intro v31 w31 hown31 hgr31 hob31
      have kB31 : Below w23.heap.size w23 w31 := kB30.grown hgr31 (by simp) (fun k hk => by simp [Value.ownBlock] at hk; omega)
      (refine hK.out _ _ (kB31) ?_; clear hK K; try simp only [Act.put, List.setIfInBounds_toArray, List.set_cons_zero, List.set_cons_succ])
      (repeat (first | (refine Plan.tree_read (v := ?_) rfl rfl ?_ ?_; rotate_left; (focus ((intro wS hSw; have hkS := (bcell hSw).1; try (have hkT := fun (b o : Nat) (h : b < w.heap.size) => hkS b o (by first | omega | (simp; omega) | (simp; done))); go_simp); try with_reducible rfl)); simp only [Act.put, List.setIfInBounds_toArray, List.set_cons_zero, List.set_cons_succ]) | (refine Plan.tree_skip rfl rfl ?_; simp only [Act.put, List.setIfInBounds_toArray, List.set_cons_zero, List.set_cons_succ])))
      refine Plan.tree_write rfl (fun K hK => ?_)
      refine step_append_any _ (by rfl) _ _ _ (by rfl) w23.heap.size 60 g0 _ 2 16 Try.underlying34 gi gz0 gz1 gz2 rfl (by omega) _ (0 + c) ([] ++ rowP ((excN pl R S (dayLs pl R S)).take c)) (by rfl) hown31 w23.heap.size (if cf5 = c + 1 then some ⟨b7, o7, none⟩ else some ⟨b7, o7 + (c + 1) * 2, none⟩) (n1 - (c + 1)) (cf5 - (c + 1)) (rowP ((excN pl R S (dayLs pl R S)).drop (c + 1))) (by rfl) (by have := reads_pairs (hQ7.below kB31); rw [hL.out] at this; exact this) (rowP_one _) (by unfold maxLen; omega) (by omega) kB31.size ?_
      intro v32 w32 hown32 hgr32 hob32
      have kB32 : Below w23.heap.size w23 w32 := kB31.grown hgr32 kB31.size (fun k hk => (hown31.lt k hk).1)
      obtain ⟨F8, cf8, e8, hF8⟩ := pairs_of_owns (A := (excN pl R S (dayLs pl R S)).take c ++ (excN pl R S (dayLs pl R S)).drop (c + 1)) (by rw [rowP_app, List.length_append, hT.out, hL.out]; simpa using hown32)
      rw [List.length_append, hT.out, hL.out] at e8
      subst e8
      (refine hK.out _ _ (kB32) ?_; clear hK K; try simp only [Act.put, List.setIfInBounds_toArray, List.set_cons_zero, List.set_cons_succ])
      (repeat (first | (refine Plan.tree_read (v := ?_) rfl rfl ?_ ?_; rotate_left; (focus ((intro wS hSw; have hkS := (bcell hSw).1; try (have hkT := fun (b o : Nat) (h : b < w.heap.size) => hkS b o (by first | omega | (simp; omega) | (simp; done))); go_simp); try with_reducible rfl)); simp only [Act.put, List.setIfInBounds_toArray, List.set_cons_zero, List.set_cons_succ]) | (refine Plan.tree_skip rfl rfl ?_; simp only [Act.put, List.setIfInBounds_toArray, List.set_cons_zero, List.set_cons_succ])))
      refine Plan.tree_done ?_
      have hX7 := hX6.below kB32 hz6
      have hB7 := hB6.trans (kB32.mono hwz)
      have hD7 := (hD6.below kB32).more kB32.size
      clear x0 x1 x2 x3 x4 x5 x6 x7 x8 x9 x10 kB30 kO30 kB31 kB32 hX6 hB6 hD6 hown31 hown32 hob31 hob32 hgr31 hgr32 hT7 hQ7 hF7
      obtain ⟨x0, x1, x2, x3, x4, x5, x6, x7, x8, x9, x10⟩ := hX7.cells
      go_wp2_with (first | (go_at_call 20; ((with_reducible refine (K6.out _ _ _ _ _ _ hc hD7 hF8 hB7).mono ?_); rintro e33 w33 ⟨rfl, hb33⟩)) | fail)
      all_goals (go_ret; exact ⟨rfl, hB7.trans (hb33.mono hB7.size)⟩)
    obtain ⟨r, hxr⟩ : ∃ r, R[k]? = some r := ⟨_, List.getElem?_eq_getElem hlt⟩
    have hrk : Hid ((rtN R k).id = r.id) := by show _ = _; rw [rtN_of hxr]
    clear K3
    go_wp2_with fail
    go_loopw [15] (fun i wy => ∃ j : Nat, j ≤ k ∧ i = .int .i64 j ∧ Hid (∀ m, m < j → (rtN R m).id ≠ r.id) ∧ Below w3.heap.size w3 wy) (fun i _ => k - (intOf i).toNat)
    case atStart => exact ⟨0, Nat.zero_le _, rfl, fun m h => absurd h (by omega), hBy⟩
    case round =>
      obtain ⟨j, hj, rfl, hdj, hBz⟩ := hrel
      by_cases hlj : j < k
      case neg =>
        have hje : j = k := by omega
        subst hje
        go_wp2_with fail
        go_roundw
        case rel =>
          refine ⟨j + 1, by omega, by go_num, fun m p hm hp => ?_, hBz⟩
          rcases Nat.lt_or_ge m j with h1 | h1
          · exact hdi.out m p h1 hp
          · have e : m = j := by omega
            subst e
            rw [hrk.out]
            exact hdj.out p hp
        case measure => simp [intOf]; omega
      obtain ⟨r2, hxr2⟩ : ∃ r, R[j]? = some r := ⟨_, List.getElem?_eq_getElem (by omega)⟩
      have hrj : Hid ((rtN R j).id = r2.id) := by show _ = _; rw [rtN_of hxr2]
      obtain ⟨b, off, rfl, hb, s0w, _⟩ := HRs.out j r2 hxr2
      obtain ⟨b', off', hbe, _, r0w, _⟩ := HRs.out k r hxr
      obtain ⟨rfl, rfl⟩ : b = b' ∧ off = off' := by simpa using hbe
      have hBw := HB3.out.trans (hBz.mono HB3.out.size)
      have r0 := (hBw.cell (p := ⟨b, off + k * 9, none⟩) hb).trans r0w
      have s0 := (hBw.cell (p := ⟨b, off + j * 9, none⟩) hb).trans s0w
      have hkI : (0 : Int) ≤ (k : Int) ∧ (k : Int) < (R.length : Int) := by omega
      have hjI : (0 : Int) ≤ (j : Int) ∧ (j : Int) < (R.length : Int) := by omega
      clear r0w s0w hbe hxr2
      by_cases hq : r2.id = r.id
      · have hd : (r2.id == r.id) = true := by simpa using hq
        clear hq
        go_upto_region 12 with fail
        go_quiet (fail)
        go_wp2_with fail
        go_ret
        exact ⟨rfl, below_drewN hBw _⟩
      · have hd : (r2.id == r.id) = false := by simpa using hq
        have hdj1 : Hid (∀ m, m < j + 1 → (rtN R m).id ≠ r.id) := fun m hm => by
          rcases Nat.lt_or_ge m j with h1 | h1
          · exact hdj.out m h1
          · have e : m = j := by omega
            subst e
            rw [hrj.out]
            exact hq
        clear hq
        go_upto_region 12 with fail
        go_quiet (fail)
        go_wp2_with fail
        go_roundw
        case rel => exact ⟨j + 1, by omega, by go_num, hdj1, below_drewN hBz _⟩
        case measure => simp [intOf]; omega
end Go.Proofs.Ytkbceeobnbbfbaa
