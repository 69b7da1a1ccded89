/- RightSeasons: for every input the law answers true. -/
import Derived.Test.YtchmplnkddgncaaDoorRW14
set_option linter.unusedSimpArgs false
set_option linter.unusedVariables false
namespace Go.Proofs.YtchmplnkddgncaaDoor
open Go.RowKit CM RG
attribute [local go_sem] alloc_drewN setCell_drewN shape_drewN

def wholeR (r : Rt) : Rt := { r with from1 := 101, until1 := 1231 }
theorem len_2000 (y m : Int) : DM.len y m ≤ DM.len 2000 m := by
  have h := DM.lp_01 y
  have h2 : DM.lp 2000 = 1 := by decide
  unfold DM.len
  rw [h2]
  split
  · omega
  · split <;> omega
theorem date_is {day : Int} {y m d : Int} (h1 : DM.vld y m d) (h2 : DM.num y m d = day) : monOf day = m ∧ dayOf day = d ∧ exB m d = true ∧ 1 ≤ m ∧ m ≤ 12 ∧ 1 ≤ d ∧ d ≤ 31 := by
  have h := dateOf_eq h1 h2
  obtain ⟨a, b, c, e⟩ := h1
  have h3 := len_2000 y m
  have h4 := DM.len_bd 2000 m
  refine ⟨by unfold monOf; rw [h], by unfold dayOf; rw [h], decide_eq_true ⟨a, b, c, by omega⟩, a, b, c, by omega⟩
set_option maxRecDepth 100000 in
set_option maxHeartbeats 8000000 in
theorem seasons_any (r : Rt) (day : Int) (w : World) (hM : Months w) (hr : RtIn r) : Calls Tryd.prog 7 #[.agg #[.int .i64 r.id, .int .i64 r.owner, .int .i64 r.date, .int .i64 r.place, .int .i64 r.rate, .int .i64 r.from1, .int .i64 r.until1, .int .i64 r.back, .int .i64 r.backTo], .int .i64 day] w (BoolIs true w) := by
  have K0 := Lib.hid (fun wx (h : Below w.heap.size w wx) => small_any wx (hM.below hM.pos h))
  have KS := Lib.hid (fun wx (h : Below w.heap.size w wx) => season_any r day wx (hM.below hM.pos h) hr)
  have hB0 : Below w.heap.size w (w.alloc (.cells (Value.cells (.agg #[.int .i64 r.id, .int .i64 r.owner, .int .i64 r.date, .int .i64 r.place, .int .i64 r.rate, .int .i64 r.from1, .int .i64 r.until1, .int .i64 r.back, .int .i64 r.backTo])) 33)) := below_new _ _
  have hb0 : BoxRt (w.alloc (.cells (Value.cells (.agg #[.int .i64 r.id, .int .i64 r.owner, .int .i64 r.date, .int .i64 r.place, .int .i64 r.rate, .int .i64 r.from1, .int .i64 r.until1, .int .i64 r.back, .int .i64 r.backTo])) 33)) w.heap.size r := heap_alloc_new w _
  have hs0 : (w.alloc (.cells (Value.cells (.agg #[.int .i64 r.id, .int .i64 r.owner, .int .i64 r.date, .int .i64 r.place, .int .i64 r.rate, .int .i64 r.from1, .int .i64 r.until1, .int .i64 r.back, .int .i64 r.backTo])) 33)).heap.size = w.heap.size + 1 := by simp
  simp only [Value.cells] at hB0 hb0 hs0
  by_cases hd : 0 ≤ day ∧ day ≤ 699050
  case neg =>
    have hw : wit day 0 699050 = false := by unfold wit; rw [Bool.and_eq_false_iff]; simp; omega
    have HS : Hid (seasonB r day = false) := by show _ = _; unfold seasonB; rw [hw]; rfl
    have KS2 : Hid (∀ wx, Below w.heap.size w wx → Calls Tryd.prog 11 #[.agg #[.int .i64 r.id, .int .i64 r.owner, .int .i64 r.date, .int .i64 r.place, .int .i64 r.rate, .int .i64 r.from1, .int .i64 r.until1, .int .i64 r.back, .int .i64 r.backTo], .int .i64 day] wx (BoolIs false wx)) := fun wx h => by rw [← HS.out]; exact KS.out wx h
    clear hw HS KS
    have key : (day < 0 ∨ (¬ day < 0 ∧ 699050 < day)) := by omega
    clear hd
    rcases key with hlt | ⟨hlt, hgt⟩
    all_goals
      go_enter Tryd.func7, Tryd.ntmps7
      go_wp2_with fail
      go_at_call 8
      (with_reducible refine (K0.out _ hB0).mono ?_)
      rintro e1 w1 ⟨rfl, hb1⟩
      have hB1 := hB0.trans (hb1.mono (by omega))
      obtain ⟨r0, r1, r2, r3, r4, r5, r6, r7, r8⟩ := (hb0.below hb1 (by omega)).cells
      go_wp2_with fail
      go_at_call 11
      (with_reducible refine (KS2.out _ hB1).mono ?_)
      rintro e2 w2 ⟨rfl, hb2⟩
      go_wp2_with fail
      go_ret
      exact ⟨rfl, hB1.trans (hb2.mono hB1.size)⟩
  obtain ⟨hd1, hd2⟩ := hd
  have hdl : ¬ day < 0 := by omega
  have hdg : ¬ 699050 < day := by omega
  have hw : wit day 0 699050 = true := by unfold wit; simp; omega
  have HD : Hid (∀ y m d, DM.vld y m d → DM.num y m d = 24 * day / 24 → m = monOf day ∧ d = dayOf day ∧ exB m d = true ∧ 1 ≤ m ∧ m ≤ 12 ∧ 1 ≤ d ∧ d ≤ 31) := fun y m d h1 h2 => by
    have e : 24 * day / 24 = day := by omega
    obtain ⟨a, b, c⟩ := date_is h1 (h2.trans e)
    exact ⟨a.symm, b.symm, c⟩
  have HSV : Hid (seasonB r day = inB (monOf day) (dayOf day) r.from1 r.until1) := by show _ = _; unfold seasonB; rw [hw]; rfl
  have HWV : Hid (seasonB (wholeR r) day = inB (monOf day) (dayOf day) 101 1231) := by show _ = _; unfold seasonB; rw [hw]; rfl
  have KW : Hid (∀ wx, Below w.heap.size w wx → Calls Tryd.prog 11 #[.agg #[.int .i64 r.id, .int .i64 r.owner, .int .i64 r.date, .int .i64 r.place, .int .i64 r.rate, .int .i64 101, .int .i64 1231, .int .i64 r.back, .int .i64 r.backTo], .int .i64 day] wx (BoolIs (seasonB (wholeR r) day) wx)) := (fun wx (h : Below w.heap.size w wx) => season_any (wholeR r) day wx (hM.below hM.pos h) (by unfold RtIn In64 wholeR; simp))
  generalize seasonB (wholeR r) day = WV at *
  generalize seasonB r day = SV at *
  generalize monOf day = MO at *
  generalize dayOf day = DA at *
  have KO : Hid (∀ wx, Below w.heap.size w wx → Calls Tryd.prog 20 #[.int .i64 (24 * day)] wx (fun e w' => ∃ y z, e = .returned (.tuple #[.agg #[.int .i64 y, .int .i64 MO, .int .i64 DA, .int .i64 z], .bool true]) ∧ (exB MO DA = true ∧ 1 ≤ MO ∧ MO ≤ 12 ∧ 1 ≤ DA ∧ DA ≤ 31) ∧ Below wx.heap.size wx w')) := fun wx h => (of_yes _ wx (by omega) (by omega) (hM.below hM.pos h)).mono fun e w' ⟨y, m, d, he, hv, hn, _, _, hb⟩ => by
    obtain ⟨rfl, rfl, hx⟩ := HD.out y m d hv hn
    exact ⟨y, _, he, hx, hb⟩
  have KF : Hid (∀ wx, Below w.heap.size w wx → Calls Tryd.prog 21 #[.agg #[.int .i64 0, .int .i64 (r.from1.tdiv 100), .int .i64 (r.from1.tmod 100), .int .i64 0], .int .i64 r.from1, .int .i64 r.from1] wx fun e w' => e = .returned (.bool (mdB r.from1)) ∧ Below wx.heap.size wx w') := fun wx h => by
    rw [← inB_self]; exact in_any 0 _ _ 0 _ _ wx (hM.below hM.pos h) hr.1 hr.1
  have KU : Hid (∀ wx, Below w.heap.size w wx → Calls Tryd.prog 21 #[.agg #[.int .i64 0, .int .i64 (r.until1.tdiv 100), .int .i64 (r.until1.tmod 100), .int .i64 0], .int .i64 r.until1, .int .i64 r.until1] wx fun e w' => e = .returned (.bool (mdB r.until1)) ∧ Below wx.heap.size wx w') := fun wx h => by
    rw [← inB_self]; exact in_any 0 _ _ 0 _ _ wx (hM.below hM.pos h) hr.2 hr.2
  have hwf := wrap_tdiv hr.1
  have hwu := wrap_tdiv hr.2
  have HSV2 : Hid (SV = (mdB r.from1 && mdB r.until1 && exB MO DA && (if r.from1 ≤ r.until1 then decide (r.from1 ≤ 100 * MO + DA) && decide (100 * MO + DA ≤ r.until1) else decide (r.from1 ≤ 100 * MO + DA) || decide (100 * MO + DA ≤ r.until1)))) := HSV.out
  have HWV2 : Hid (exB MO DA = true → 1 ≤ MO → MO ≤ 12 → 1 ≤ DA → DA ≤ 31 → WV = true) := fun h a b c d => by
    rw [HWV.out]
    unfold inB inX
    rw [h, show mdB 101 = true by decide, show mdB 1231 = true by decide, if_pos (by decide)]
    simp
    omega
  generalize mdB r.from1 = mf at *
  generalize mdB r.until1 = mu at *
  clear hw HSV HWV HD hr
  obtain ⟨c1, hq1⟩ : ∃ c, decide (r.from1 ≤ 100 * MO + DA) = c := ⟨_, rfl⟩
  obtain ⟨c2, hq2⟩ : ∃ c, decide (100 * MO + DA ≤ r.until1) = c := ⟨_, rfl⟩
  rw [hq1, hq2] at HSV2
  go_enter Tryd.func7, Tryd.ntmps7
  go_wp2_with fail
  go_at_call 8
  (with_reducible refine (K0.out _ hB0).mono ?_)
  rintro e1 w1 ⟨rfl, hb1⟩
  have hB1 := hB0.trans (hb1.mono (by omega))
  have hbr1 := hb0.below hb1 (by omega)
  have hz1 := hb1.size
  rw [hs0] at hz1
  clear hb1 hb0 hs0 hB0
  go_wp2_with fail
  go_at_call 20
  (with_reducible refine (KO.out _ hB1).mono ?_)
  rintro e2 w2 ⟨y, z, rfl, ⟨g0, g1, g2, g3, g4⟩, hb2⟩
  have hB2 := hB1.trans (hb2.mono (by omega))
  have hbr2 := hbr1.below hb2 (by omega)
  obtain ⟨r0, r1, r2, r3, r4, r5, r6, r7, r8⟩ := hbr2.cells
  have hz2 := hb2.size
  have hwv := HWV2.out g0 g1 g2 g3 g4
  rw [g0] at HSV2
  subst hwv
  have hlw2 : w.heap.size < w2.heap.size := by omega
  clear hb2 hbr1 hB1 HWV2
  have hB3 : Below w.heap.size w ((w2.alloc (.cells #[.int .i64 y, .int .i64 MO, .int .i64 DA, .int .i64 z] 50)).alloc (.cells #[.int .i64 r.id, .int .i64 r.owner, .int .i64 r.date, .int .i64 r.place, .int .i64 r.rate, .int .i64 101, .int .i64 1231, .int .i64 r.back, .int .i64 r.backTo] 33)) := (hB2.alloc (by omega) _).alloc (by simp; omega) _
  have hw2 : Below w2.heap.size w2 ((w2.alloc (.cells #[.int .i64 y, .int .i64 MO, .int .i64 DA, .int .i64 z] 50)).alloc (.cells #[.int .i64 r.id, .int .i64 r.owner, .int .i64 r.date, .int .i64 r.place, .int .i64 r.rate, .int .i64 101, .int .i64 1231, .int .i64 r.back, .int .i64 r.backTo] 33)) := (below_new _ _).alloc (by simp) _
  have hs3 : ((w2.alloc (.cells #[.int .i64 y, .int .i64 MO, .int .i64 DA, .int .i64 z] 50)).alloc (.cells #[.int .i64 r.id, .int .i64 r.owner, .int .i64 r.date, .int .i64 r.place, .int .i64 r.rate, .int .i64 101, .int .i64 1231, .int .i64 r.back, .int .i64 r.backTo] 33)).heap.size = w2.heap.size + 1 + 1 := by simp
  have hd3 : ((w2.alloc (.cells #[.int .i64 y, .int .i64 MO, .int .i64 DA, .int .i64 z] 50)).alloc (.cells #[.int .i64 r.id, .int .i64 r.owner, .int .i64 r.date, .int .i64 r.place, .int .i64 r.rate, .int .i64 101, .int .i64 1231, .int .i64 r.back, .int .i64 r.backTo] 33)).cell? ⟨w2.heap.size, 1, none⟩ = some (.int .i64 MO) := by rw [World.cell?_alloc_past _ _ _ (by simp), World.cell?_alloc_at _ _ _ _ rfl]; rfl
  have hd4 : ((w2.alloc (.cells #[.int .i64 y, .int .i64 MO, .int .i64 DA, .int .i64 z] 50)).alloc (.cells #[.int .i64 r.id, .int .i64 r.owner, .int .i64 r.date, .int .i64 r.place, .int .i64 r.rate, .int .i64 101, .int .i64 1231, .int .i64 r.back, .int .i64 r.backTo] 33)).cell? ⟨w2.heap.size, 2, none⟩ = some (.int .i64 DA) := by rw [World.cell?_alloc_past _ _ _ (by simp), World.cell?_alloc_at _ _ _ _ rfl]; rfl
  have hbr3 := hbr2.below hw2 (by omega)
  have HX := Lib.hid (And.intro hs3 (And.intro hd3 hd4))
  clear hs3 hd3 hd4
  go_wp2_with fail
  go_at_call 11
  (with_reducible refine (KW.out _ hB3).mono ?_)
  rintro e4 w4 ⟨rfl, hb4⟩
  obtain ⟨hs3, hd3, hd4⟩ := HX.out
  have hz4 := hb4.size
  rw [hs3] at hz4
  have hB4 := hB3.trans (hb4.mono (by omega))
  have hbr4 := hbr3.below hb4 (by omega)
  have f1 := (hb4.cell (p := ⟨w2.heap.size, 1, none⟩) (show w2.heap.size < _ by omega)).trans hd3
  have f2 := (hb4.cell (p := ⟨w2.heap.size, 2, none⟩) (show w2.heap.size < _ by omega)).trans hd4
  obtain ⟨r0, r1, r2, r3, r4, r5, r6, r7, r8⟩ := hbr4.cells
  have hlw4 : w.heap.size < w4.heap.size := by omega
  clear hb4 hs3 hd3 hd4 hbr3 hB3 hw2 HX
  go_wp2_with fail
  go_at_call 21
  (with_reducible refine (KF.out _ hB4).mono ?_)
  rintro e5 w5 ⟨rfl, hb5⟩
  have hB5 := hB4.trans (hb5.mono (by omega))
  have hbr5 := hbr4.below hb5 (by omega)
  have hz5 := hb5.size
  obtain ⟨r0, r1, r2, r3, r4, r5, r6, r7, r8⟩ := hbr5.cells
  clear hb5 hbr4 f1 f2
  go_wp2_with fail
  go_at_call 21
  (with_reducible refine (KU.out _ hB5).mono ?_)
  rintro e6 w6 ⟨rfl, hb6⟩
  have hB6 := hB5.trans (hb6.mono (by omega))
  have hbr6 := hbr5.below hb6 (by omega)
  have hz6 := hb6.size
  obtain ⟨r0, r1, r2, r3, r4, r5, r6, r7, r8⟩ := hbr6.cells
  clear hb6 hbr5
  by_cases hmm : mf = true ∧ mu = true
  case neg =>
    have hsv : SV = false := by
      rw [HSV2.out]
      cases mf <;> cases mu <;> simp at hmm ⊢
    subst hsv
    cases mf <;> cases mu
    all_goals first
      | exact absurd ⟨rfl, rfl⟩ hmm
      | (go_wp2_with fail
         go_at_call 11
         (with_reducible refine (KS.out _ hB6).mono ?_)
         rintro e7 w7 ⟨rfl, hb7⟩
         go_wp2_with fail
         go_ret
         exact ⟨rfl, hB6.trans (hb7.mono (by omega))⟩)
      | fail
  obtain ⟨rfl, rfl⟩ := hmm
  by_cases hfu : r.from1 ≤ r.until1
  · have hsv : SV = (c1 && c2) := by rw [HSV2.out, if_pos hfu]; rfl
    have hn : ¬ r.until1 < r.from1 := by omega
    subst hsv
    cases c1 <;> cases c2
    all_goals
      go_wp2_with fail
      go_at_call 11
      (with_reducible refine (KS.out _ hB6).mono ?_)
      rintro e7 w7 ⟨rfl, hb7⟩
      go_wp2_with fail
      go_ret
      exact ⟨rfl, hB6.trans (hb7.mono (by omega))⟩
  · have hsv : SV = (c1 || c2) := by rw [HSV2.out, if_neg hfu]; rfl
    have hn : r.until1 < r.from1 := by omega
    subst hsv
    cases c1 <;> cases c2
    all_goals
      go_wp2_with fail
      go_at_call 11
      (with_reducible refine (KS.out _ hB6).mono ?_)
      rintro e7 w7 ⟨rfl, hb7⟩
      go_wp2_with fail
      go_ret
      exact ⟨rfl, hB6.trans (hb7.mono (by omega))⟩
end Go.Proofs.YtchmplnkddgncaaDoor
