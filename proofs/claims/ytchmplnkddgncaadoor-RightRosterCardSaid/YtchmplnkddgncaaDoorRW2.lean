/- Walks of the reference's Right, and of both Seasons. -/
import Derived.Test.YtchmplnkddgncaaDoorRW1
set_option linter.unusedSimpArgs false
set_option linter.unusedVariables false
namespace Go.Proofs.YtchmplnkddgncaaDoor
open Go.RowKit CM RG
attribute [local go_sem] alloc_drewN setCell_drewN shape_drewN

theorem rightB_of2 {no np : Nat} {r : Rt} {c1 c2 c3 c7 c9 c10 bo bp bb mf mu : Bool} (h1 : wit r.id 0 2147483647 = c1) (h2 : wit r.date 0 1125899906842624 = c2) (h3 : wit r.rate 0 1125899906842624 = c3) (h7 : wit r.back 0 1000 = c7) (h9 : (r.backTo == -1) = c9) (h10 : (r.back == 0) = c10)
    (ho : wit r.owner 0 (no - 1) = bo) (hp : wit r.place 0 (np - 1) = bp) (hb : wit r.backTo 0 (np - 1) = bb) (hf : mdB r.from1 = mf) (hu : mdB r.until1 = mu) :
    rightB no np r = (c1 && c2 && c3 && bo && bp && c7 && (bb || (c9 && c10)) && mf && mu) := by
  subst h1 h2 h3 h7 h9 h10 ho hp hb hf hu
  rfl
theorem sub1 {n : Nat} (h : n ≤ 9223372036854775807) : wrap64 ((n : Int) - 1) = (n : Int) - 1 := by unfold wrap64; omega
set_option maxHeartbeats 8000000 in
theorem rright_any (X : Bas) (pl : Pl) (r : Rt) (w : World) (hl1 : X.l1 ≤ 9223372036854775807) (hl2 : pl.length ≤ 9223372036854775807) : Calls Tryd.prog 10 #[.agg #[.string X.nm, .slice X.a1 X.l1 X.c1, .int .i64 X.cl, .slice X.P pl.length X.cP, .slice X.a4 X.l4 X.c4, .slice X.a5 X.l5 X.c5, .slice X.a6 X.l6 X.c6, .slice X.a7 X.l7 X.c7, .slice X.a8 X.l8 X.c8, .slice X.a9 X.l9 X.c9, .int .i64 X.er], .agg #[.int .i64 r.id, .int .i64 r.owner, .int .i64 r.date, .int .i64 r.place, .int .i64 r.rate, .int .i64 r.from1, .int .i64 r.until1, .int .i64 r.back, .int .i64 r.backTo]] w (BoolIs (rightB X.l1 pl.length r) w) := by
  obtain ⟨c1, hc1⟩ : ∃ c, wit r.id 0 2147483647 = c := ⟨_, rfl⟩
  obtain ⟨c2, hc2⟩ : ∃ c, wit r.date 0 1125899906842624 = c := ⟨_, rfl⟩
  obtain ⟨c3, hc3⟩ : ∃ c, wit r.rate 0 1125899906842624 = c := ⟨_, rfl⟩
  obtain ⟨c7, hc7⟩ : ∃ c, wit r.back 0 1000 = c := ⟨_, rfl⟩
  obtain ⟨c9, hc9⟩ : ∃ c, (r.backTo == -1) = c := ⟨_, rfl⟩
  obtain ⟨c10, hc10⟩ : ∃ c, (r.back == 0) = c := ⟨_, rfl⟩
  obtain ⟨bo, hbo⟩ : ∃ c, wit r.owner 0 (X.l1 - 1) = c := ⟨_, rfl⟩
  obtain ⟨bp, hbp⟩ : ∃ c, wit r.place 0 (pl.length - 1) = c := ⟨_, rfl⟩
  obtain ⟨bb, hbb⟩ : ∃ c, wit r.backTo 0 (pl.length - 1) = c := ⟨_, rfl⟩
  obtain ⟨mf, hmf⟩ : ∃ c, mdB r.from1 = c := ⟨_, rfl⟩
  obtain ⟨mu, hmu⟩ : ∃ c, mdB r.until1 = c := ⟨_, rfl⟩
  have HR := Lib.hid (rightB_of2 hc1 hc2 hc3 hc7 hc9 hc10 hbo hbp hbb hmf hmu)
  have K1 : Hid (∀ w, Calls Tryd.prog 24 #[.int .i64 r.id, .int .i64 0, .int .i64 2147483647] w fun e w' => e = .returned (.bool c1) ∧ w = w') := fun w => by rw [← hc1]; exact rin3_any _ _ _ w
  have K2 : Hid (∀ w, Calls Tryd.prog 24 #[.int .i64 r.date, .int .i64 0, .int .i64 1125899906842624] w fun e w' => e = .returned (.bool c2) ∧ w = w') := fun w => by rw [← hc2]; exact rin3_any _ _ _ w
  have K3 : Hid (∀ w, Calls Tryd.prog 24 #[.int .i64 r.rate, .int .i64 0, .int .i64 1125899906842624] w fun e w' => e = .returned (.bool c3) ∧ w = w') := fun w => by rw [← hc3]; exact rin3_any _ _ _ w
  have K7 : Hid (∀ w, Calls Tryd.prog 24 #[.int .i64 r.back, .int .i64 0, .int .i64 1000] w fun e w' => e = .returned (.bool c7) ∧ w = w') := fun w => by rw [← hc7]; exact rin3_any _ _ _ w
  have KO : Hid (∀ w, Calls Tryd.prog 24 #[.int .i64 r.owner, .int .i64 0, .int .i64 ((X.l1 : Int) - 1)] w fun e w' => e = .returned (.bool bo) ∧ w = w') := fun w => by rw [← hbo]; exact rin3_any _ _ _ w
  have KP : Hid (∀ w, Calls Tryd.prog 24 #[.int .i64 r.place, .int .i64 0, .int .i64 ((pl.length : Int) - 1)] w fun e w' => e = .returned (.bool bp) ∧ w = w') := fun w => by rw [← hbp]; exact rin3_any _ _ _ w
  have KB : Hid (∀ w, Calls Tryd.prog 24 #[.int .i64 r.backTo, .int .i64 0, .int .i64 ((pl.length : Int) - 1)] w fun e w' => e = .returned (.bool bb) ∧ w = w') := fun w => by rw [← hbb]; exact rin3_any _ _ _ w
  have KF : Hid (∀ wx, Calls Tryd.prog 25 #[.int .i64 r.from1] wx (BoolIs mf wx)) := fun wx => by rw [← hmf]; exact rmonthDay_any _ wx
  have KU : Hid (∀ wx, Calls Tryd.prog 25 #[.int .i64 r.until1] wx (BoolIs mu wx)) := fun wx => by rw [← hmu]; exact rmonthDay_any _ wx
  have s1 := sub1 hl1
  have s2 := sub1 hl2
  generalize rightB X.l1 pl.length r = R at HR ⊢
  have hB0 : Below w.heap.size w ((w.alloc (.cells (Value.cells (.agg #[.string X.nm, .slice X.a1 X.l1 X.c1, .int .i64 X.cl, .slice X.P pl.length X.cP, .slice X.a4 X.l4 X.c4, .slice X.a5 X.l5 X.c5, .slice X.a6 X.l6 X.c6, .slice X.a7 X.l7 X.c7, .slice X.a8 X.l8 X.c8, .slice X.a9 X.l9 X.c9, .int .i64 X.er])) 31)).alloc (.cells (Value.cells (.agg #[.int .i64 r.id, .int .i64 r.owner, .int .i64 r.date, .int .i64 r.place, .int .i64 r.rate, .int .i64 r.from1, .int .i64 r.until1, .int .i64 r.back, .int .i64 r.backTo])) 33)) := ((Below.refl _ _).alloc (Nat.le_refl _) _).alloc (by simp) _
  have hz0 : ((w.alloc (.cells (Value.cells (.agg #[.string X.nm, .slice X.a1 X.l1 X.c1, .int .i64 X.cl, .slice X.P pl.length X.cP, .slice X.a4 X.l4 X.c4, .slice X.a5 X.l5 X.c5, .slice X.a6 X.l6 X.c6, .slice X.a7 X.l7 X.c7, .slice X.a8 X.l8 X.c8, .slice X.a9 X.l9 X.c9, .int .i64 X.er])) 31)).alloc (.cells (Value.cells (.agg #[.int .i64 r.id, .int .i64 r.owner, .int .i64 r.date, .int .i64 r.place, .int .i64 r.rate, .int .i64 r.from1, .int .i64 r.until1, .int .i64 r.back, .int .i64 r.backTo])) 33)).heap.size = w.heap.size + 1 + 1 := by simp
  have q6 : ((w.alloc (.cells (Value.cells (.agg #[.string X.nm, .slice X.a1 X.l1 X.c1, .int .i64 X.cl, .slice X.P pl.length X.cP, .slice X.a4 X.l4 X.c4, .slice X.a5 X.l5 X.c5, .slice X.a6 X.l6 X.c6, .slice X.a7 X.l7 X.c7, .slice X.a8 X.l8 X.c8, .slice X.a9 X.l9 X.c9, .int .i64 X.er])) 31)).alloc (.cells (Value.cells (.agg #[.int .i64 r.id, .int .i64 r.owner, .int .i64 r.date, .int .i64 r.place, .int .i64 r.rate, .int .i64 r.from1, .int .i64 r.until1, .int .i64 r.back, .int .i64 r.backTo])) 33)).cell? ⟨w.heap.size + 1, 6, none⟩ = some (.int .i64 r.until1) := by rw [World.cell?_alloc_at _ _ _ _ (by simp)]; rfl
  have q7 : ((w.alloc (.cells (Value.cells (.agg #[.string X.nm, .slice X.a1 X.l1 X.c1, .int .i64 X.cl, .slice X.P pl.length X.cP, .slice X.a4 X.l4 X.c4, .slice X.a5 X.l5 X.c5, .slice X.a6 X.l6 X.c6, .slice X.a7 X.l7 X.c7, .slice X.a8 X.l8 X.c8, .slice X.a9 X.l9 X.c9, .int .i64 X.er])) 31)).alloc (.cells (Value.cells (.agg #[.int .i64 r.id, .int .i64 r.owner, .int .i64 r.date, .int .i64 r.place, .int .i64 r.rate, .int .i64 r.from1, .int .i64 r.until1, .int .i64 r.back, .int .i64 r.backTo])) 33)).cell? ⟨w.heap.size + 1, 7, none⟩ = some (.int .i64 r.back) := by rw [World.cell?_alloc_at _ _ _ _ (by simp)]; rfl
  have q8 : ((w.alloc (.cells (Value.cells (.agg #[.string X.nm, .slice X.a1 X.l1 X.c1, .int .i64 X.cl, .slice X.P pl.length X.cP, .slice X.a4 X.l4 X.c4, .slice X.a5 X.l5 X.c5, .slice X.a6 X.l6 X.c6, .slice X.a7 X.l7 X.c7, .slice X.a8 X.l8 X.c8, .slice X.a9 X.l9 X.c9, .int .i64 X.er])) 31)).alloc (.cells (Value.cells (.agg #[.int .i64 r.id, .int .i64 r.owner, .int .i64 r.date, .int .i64 r.place, .int .i64 r.rate, .int .i64 r.from1, .int .i64 r.until1, .int .i64 r.back, .int .i64 r.backTo])) 33)).cell? ⟨w.heap.size + 1, 8, none⟩ = some (.int .i64 r.backTo) := by rw [World.cell?_alloc_at _ _ _ _ (by simp)]; rfl
  have q3 : ((w.alloc (.cells (Value.cells (.agg #[.string X.nm, .slice X.a1 X.l1 X.c1, .int .i64 X.cl, .slice X.P pl.length X.cP, .slice X.a4 X.l4 X.c4, .slice X.a5 X.l5 X.c5, .slice X.a6 X.l6 X.c6, .slice X.a7 X.l7 X.c7, .slice X.a8 X.l8 X.c8, .slice X.a9 X.l9 X.c9, .int .i64 X.er])) 31)).alloc (.cells (Value.cells (.agg #[.int .i64 r.id, .int .i64 r.owner, .int .i64 r.date, .int .i64 r.place, .int .i64 r.rate, .int .i64 r.from1, .int .i64 r.until1, .int .i64 r.back, .int .i64 r.backTo])) 33)).cell? ⟨w.heap.size, 3, none⟩ = some (.slice X.P pl.length X.cP) := by rw [World.cell?_alloc_past _ _ _ (by simp), World.cell?_alloc_at _ _ _ _ rfl]; rfl
  simp only [Value.cells] at hB0 hz0 q3 q6 q7 q8
  have Q := Lib.hid (And.intro hz0 (And.intro q3 (And.intro q6 (And.intro q7 q8))))
  clear hz0 q3 q6 q7 q8
  clear hc1 hc2 hc3 hc7 hbo hbp hbb hmf hmu
  go_enter Tryd.func10, Tryd.ntmps10
  go_wp2_with (first | (go_at_call 24; first | ((with_reducible refine (K1.out _).mono ?_); rintro e1 w1 ⟨rfl, rfl⟩) | ((with_reducible refine (K2.out _).mono ?_); rintro e1 w1 ⟨rfl, rfl⟩) | ((with_reducible refine (K3.out _).mono ?_); rintro e1 w1 ⟨rfl, rfl⟩) | ((with_reducible refine (K7.out _).mono ?_); rintro e1 w1 ⟨rfl, rfl⟩) | ((with_reducible refine (KO.out _).mono ?_); rintro e1 w1 ⟨rfl, rfl⟩) | ((with_reducible refine (KP.out _).mono ?_); rintro e1 w1 ⟨rfl, rfl⟩) | ((with_reducible refine (KB.out _).mono ?_); rintro e1 w1 ⟨rfl, rfl⟩) | fail) | (go_at_call 25; first | ((with_reducible refine (KF.out _).mono ?_); rintro e1 w1 ⟨rfl, hb1⟩; obtain ⟨z0, q3, q6, q7, q8⟩ := Q.out; have z1 := hb1.size; rw [z0] at z1; have f6 := (hb1.cell (p := ⟨w.heap.size + 1, 6, none⟩) (by rw [z0]; show w.heap.size + 1 < _; omega)).trans q6; have hB1 := hB0.trans (hb1.mono (by rw [z0]; omega)); clear z0 q3 q6 q7 q8 hb1) | ((with_reducible refine (KU.out _).mono ?_); rintro e2 w2 ⟨rfl, hb2⟩; have hB2 := hB1.trans (hb2.mono (by omega)); clear hb2 f6) | fail) | fail)
  all_goals go_ret
  all_goals first
    | exact ⟨ret_bool (by rw [HR.out]; clear HR Q K1 K2 K3 K7 KO KP KB KF KU; simp_all), hB2⟩
    | exact ⟨ret_bool (by rw [HR.out]; clear HR Q K1 K2 K3 K7 KO KP KB KF KU; simp_all), hB1⟩
    | exact ⟨ret_bool (by rw [HR.out]; clear HR Q K1 K2 K3 K7 KO KP KB KF KU; simp_all), hB0⟩
    | fail
set_option maxHeartbeats 8000000 in
theorem season_any (r : Rt) (day : Int) (w : World) (hM : Months w) (hr : RtIn r) : Calls Tryd.prog 11 #[.agg #[.int .i64 r.id, .int .i64 r.owner, .int .i64 r.date, .int .i64 r.place, .int .i64 r.rate, .int .i64 r.from1, .int .i64 r.until1, .int .i64 r.back, .int .i64 r.backTo], .int .i64 day] w (BoolIs (seasonB r day) w) := by
  have hB0 : Below w.heap.size w (w.alloc (.cells (Value.cells (.agg #[.int .i64 r.id, .int .i64 r.owner, .int .i64 r.date, .int .i64 r.place, .int .i64 r.rate, .int .i64 r.from1, .int .i64 r.until1, .int .i64 r.back, .int .i64 r.backTo])) 33)) := (Below.refl _ _).alloc (Nat.le_refl _) _
  have q5 : (w.alloc (.cells (Value.cells (.agg #[.int .i64 r.id, .int .i64 r.owner, .int .i64 r.date, .int .i64 r.place, .int .i64 r.rate, .int .i64 r.from1, .int .i64 r.until1, .int .i64 r.back, .int .i64 r.backTo])) 33)).cell? ⟨w.heap.size, 5, none⟩ = some (.int .i64 r.from1) := by rw [World.cell?_alloc_at _ _ _ _ rfl]; rfl
  have q6 : (w.alloc (.cells (Value.cells (.agg #[.int .i64 r.id, .int .i64 r.owner, .int .i64 r.date, .int .i64 r.place, .int .i64 r.rate, .int .i64 r.from1, .int .i64 r.until1, .int .i64 r.back, .int .i64 r.backTo])) 33)).cell? ⟨w.heap.size, 6, none⟩ = some (.int .i64 r.until1) := by rw [World.cell?_alloc_at _ _ _ _ rfl]; rfl
  have z0 : (w.alloc (.cells (Value.cells (.agg #[.int .i64 r.id, .int .i64 r.owner, .int .i64 r.date, .int .i64 r.place, .int .i64 r.rate, .int .i64 r.from1, .int .i64 r.until1, .int .i64 r.back, .int .i64 r.backTo])) 33)).heap.size = w.heap.size + 1 := by simp
  simp only [Value.cells] at hB0 q5 q6 z0
  by_cases hd : 0 ≤ day ∧ day ≤ 699050
  case neg =>
    have hw : wit day 0 699050 = false := by unfold wit; rw [Bool.and_eq_false_iff]; simp; omega
    have H : Hid (seasonB r day = false) := by show _ = _; unfold seasonB; rw [hw]; rfl
    generalize seasonB r day = R at H ⊢
    clear hw
    by_cases h0 : day < 0
    · clear hd
      go_enter Tryd.func11, Tryd.ntmps11
      go_wp2_with fail
      go_ret
      exact ⟨ret_bool H.out.symm, hB0⟩
    · have h1 : 699050 < day := by omega
      clear hd
      go_enter Tryd.func11, Tryd.ntmps11
      go_wp2_with fail
      go_ret
      exact ⟨ret_bool H.out.symm, hB0⟩
  obtain ⟨hd1, hd2⟩ := hd
  have hw : wit day 0 699050 = true := by unfold wit; simp; omega
  have H : Hid (seasonB r day = inB (monOf day) (dayOf day) r.from1 r.until1) := by show _ = _; unfold seasonB; rw [hw]; rfl
  have HD : Hid (∀ y m d, DM.vld y m d → DM.num y m d = 24 * day / 24 → m = monOf day ∧ d = dayOf day) := fun y m d h1 h2 => by
    have e : 24 * day / 24 = day := by omega
    have := dateOf_eq h1 (h2.trans e)
    unfold monOf dayOf
    rw [this]
    exact ⟨rfl, rfl⟩
  generalize seasonB r day = R at H ⊢
  generalize monOf day = MO at *
  generalize dayOf day = DA at *
  have KO : Hid (∀ wx, Below w.heap.size w wx → Calls Tryd.prog 20 #[.int .i64 (24 * day)] wx (fun e w' => ∃ y z, e = .returned (.tuple #[.agg #[.int .i64 y, .int .i64 MO, .int .i64 DA, .int .i64 z], .bool true]) ∧ Below wx.heap.size wx w')) := fun wx h => (of_yes _ wx (by omega) (by omega) (hM.below hM.pos h)).mono fun e w' ⟨y, m, d, he, hv, hn, _, _, hb⟩ => by
    obtain ⟨rfl, rfl⟩ := HD.out y m d hv hn
    exact ⟨y, _, he, hb⟩
  have KI : Hid (∀ y z wx, Below w.heap.size w wx → Calls Tryd.prog 21 #[.agg #[.int .i64 y, .int .i64 MO, .int .i64 DA, .int .i64 z], .int .i64 r.from1, .int .i64 r.until1] wx fun e w' => e = .returned (.bool R) ∧ Below wx.heap.size wx w') := fun y z wx h => by
    rw [H.out]; exact in_any y MO DA z _ _ wx (hM.below hM.pos h) hr.1 hr.2

  clear hw H hM hr HD
  go_enter Tryd.func11, Tryd.ntmps11
  go_wp2_with fail
  go_at_call 20
  ((with_reducible refine (KO.out _ hB0).mono ?_); rintro e1 w1 ⟨y, z, rfl, hb1⟩; have z1 := hb1.size; rw [z0] at z1; have f5 := (hb1.cell (p := ⟨w.heap.size, 5, none⟩) (show w.heap.size < _ by omega)).trans q5; have f6 := (hb1.cell (p := ⟨w.heap.size, 6, none⟩) (show w.heap.size < _ by omega)).trans q6; have hB1 := (hB0.trans (hb1.mono (by omega))).alloc (by omega) (.cells #[.int .i64 y, .int .i64 MO, .int .i64 DA, .int .i64 z] 50); have z2 : w.heap.size < w1.heap.size := (by omega); clear q5 q6 hb1)
  go_wp2_with fail
  go_at_call 21
  (with_reducible refine (KI.out _ _ _ hB1).mono ?_)
  rintro e2 w2 ⟨rfl, hb2⟩
  have hB2 := hB1.trans (hb2.mono (by simp; omega))
  go_wp2_with fail
  go_ret
  exact ⟨rfl, hB2⟩
set_option maxHeartbeats 8000000 in
theorem rseason_any (r : Rt) (day : Int) (w : World) (hr : RtIn r) : Calls Tryd.prog 12 #[.agg #[.int .i64 r.id, .int .i64 r.owner, .int .i64 r.date, .int .i64 r.place, .int .i64 r.rate, .int .i64 r.from1, .int .i64 r.until1, .int .i64 r.back, .int .i64 r.backTo], .int .i64 day] w (BoolIs (seasonB r day) w) := by
  have hB0 : Below w.heap.size w (w.alloc (.cells (Value.cells (.agg #[.int .i64 r.id, .int .i64 r.owner, .int .i64 r.date, .int .i64 r.place, .int .i64 r.rate, .int .i64 r.from1, .int .i64 r.until1, .int .i64 r.back, .int .i64 r.backTo])) 33)) := (Below.refl _ _).alloc (Nat.le_refl _) _
  have q5 : (w.alloc (.cells (Value.cells (.agg #[.int .i64 r.id, .int .i64 r.owner, .int .i64 r.date, .int .i64 r.place, .int .i64 r.rate, .int .i64 r.from1, .int .i64 r.until1, .int .i64 r.back, .int .i64 r.backTo])) 33)).cell? ⟨w.heap.size, 5, none⟩ = some (.int .i64 r.from1) := by rw [World.cell?_alloc_at _ _ _ _ rfl]; rfl
  have q6 : (w.alloc (.cells (Value.cells (.agg #[.int .i64 r.id, .int .i64 r.owner, .int .i64 r.date, .int .i64 r.place, .int .i64 r.rate, .int .i64 r.from1, .int .i64 r.until1, .int .i64 r.back, .int .i64 r.backTo])) 33)).cell? ⟨w.heap.size, 6, none⟩ = some (.int .i64 r.until1) := by rw [World.cell?_alloc_at _ _ _ _ rfl]; rfl
  have z0 : (w.alloc (.cells (Value.cells (.agg #[.int .i64 r.id, .int .i64 r.owner, .int .i64 r.date, .int .i64 r.place, .int .i64 r.rate, .int .i64 r.from1, .int .i64 r.until1, .int .i64 r.back, .int .i64 r.backTo])) 33)).heap.size = w.heap.size + 1 := by simp
  simp only [Value.cells] at hB0 q5 q6 z0
  have K1 : Hid (∀ w, Calls Tryd.prog 24 #[.int .i64 day, .int .i64 0, .int .i64 699050] w fun e w' => e = .returned (.bool (wit day 0 699050)) ∧ w = w') := fun w => rin3_any _ _ _ w
  by_cases hd : 0 ≤ day ∧ day ≤ 699050
  case neg =>
    have hw : wit day 0 699050 = false := by unfold wit; rw [Bool.and_eq_false_iff]; simp; omega
    have H : Hid (seasonB r day = false) := by show _ = _; unfold seasonB; rw [hw]; rfl
    rw [hw] at K1
    generalize seasonB r day = R at H ⊢
    clear hw hd
    go_enter Tryd.func12, Tryd.ntmps12
    go_wp2_with (first | (go_at_call 24; (with_reducible refine (K1.out _).mono ?_); rintro e1 w1 ⟨rfl, rfl⟩) | fail)
    go_ret
    exact ⟨ret_bool H.out.symm, hB0⟩
  obtain ⟨hd1, hd2⟩ := hd
  have hw : wit day 0 699050 = true := by unfold wit; simp; omega
  have H : Hid (seasonB r day = inB (monOf day) (dayOf day) r.from1 r.until1) := by show _ = _; unfold seasonB; rw [hw]; rfl
  have HD : Hid (∀ y m d, DM.vld y m d → DM.num y m d = 24 * day / 24 → m = monOf day ∧ d = dayOf day) := fun y m d h1 h2 => by
    have e : 24 * day / 24 = day := by omega
    have := dateOf_eq h1 (h2.trans e)
    unfold monOf dayOf
    rw [this]
    exact ⟨rfl, rfl⟩
  generalize seasonB r day = R at H ⊢
  generalize monOf day = MO at *
  generalize dayOf day = DA at *
  have KO : Hid (∀ wx, Below w.heap.size w wx → Calls Tryd.prog 26 #[.int .i64 (24 * day)] wx (fun e w' => ∃ y z, e = .returned (.tuple #[.agg #[.int .i64 y, .int .i64 MO, .int .i64 DA, .int .i64 z], .bool true]) ∧ Below wx.heap.size wx w')) := fun wx h => (rof_yes _ wx (by omega) (by omega)).mono fun e w' ⟨y, m, d, he, hv, hn, _, _, hb⟩ => by
    obtain ⟨rfl, rfl⟩ := HD.out y m d hv hn
    exact ⟨y, _, he, hb⟩
  have KI : Hid (∀ y z wx, Below w.heap.size w wx → Calls Tryd.prog 27 #[.agg #[.int .i64 y, .int .i64 MO, .int .i64 DA, .int .i64 z], .int .i64 r.from1, .int .i64 r.until1] wx fun e w' => e = .returned (.bool R) ∧ Below wx.heap.size wx w') := fun y z wx h => by
    rw [H.out]; exact rin_any y MO DA z _ _ wx hr.1 hr.2
  rw [hw] at K1
  clear hw H hr HD
  go_enter Tryd.func12, Tryd.ntmps12
  go_wp2_with fail
  go_at_call 24
  (with_reducible refine (K1.out _).mono ?_)
  rintro e1 w1 ⟨rfl, rfl⟩
  go_wp2_with fail
  go_at_call 26
  ((with_reducible refine (KO.out _ hB0).mono ?_); rintro e1 w1 ⟨y, z, rfl, hb1⟩; have z1 := hb1.size; rw [z0] at z1; have f5 := (hb1.cell (p := ⟨w.heap.size, 5, none⟩) (show w.heap.size < _ by omega)).trans q5; have f6 := (hb1.cell (p := ⟨w.heap.size, 6, none⟩) (show w.heap.size < _ by omega)).trans q6; have hB1 := (hB0.trans (hb1.mono (by omega))).alloc (by omega) (.cells #[.int .i64 y, .int .i64 MO, .int .i64 DA, .int .i64 z] 50); have z2 : w.heap.size < w1.heap.size := (by omega); clear q5 q6 hb1)
  go_wp2_with fail
  go_at_call 27
  (with_reducible refine (KI.out _ _ _ hB1).mono ?_)
  rintro e2 w2 ⟨rfl, hb2⟩
  have hB2 := hB1.trans (hb2.mono (by simp; omega))
  go_wp2_with fail
  go_ret
  exact ⟨rfl, hB2⟩
end Go.Proofs.YtchmplnkddgncaaDoor
