/- Walks of index, in, monthDay, and of both Rights. -/
import Derived.Test.YtchmplnkddgncaaDoorDW5
import Derived.Test.YtchmplnkddgncaaDoorEW
set_option linter.unusedSimpArgs false
set_option linter.unusedVariables false
namespace Go.Proofs.YtchmplnkddgncaaDoor
open Go.RowKit CM RG
attribute [local go_sem] alloc_drewN setCell_drewN shape_drewN

theorem wit_n (i n : Int) : (decide (0 ≤ i) && decide (i < n)) = wit i 0 (n - 1) := by
  unfold wit; rw [Bool.eq_iff_iff]; simp; omega
theorem index_any (i n : Int) (w : World) : Calls Tryd.prog 22 #[.int .i64 i, .int .i64 n] w fun e w' => e = .returned (.bool (wit i 0 (n - 1))) ∧ w = w' := by
  have H := Lib.hid (wit_n i n)
  generalize wit i 0 (n - 1) = r at H ⊢
  obtain ⟨c1, hq1⟩ : ∃ c, decide (0 ≤ i) = c := ⟨_, rfl⟩
  obtain ⟨c2, hq2⟩ : ∃ c, decide (i < n) = c := ⟨_, rfl⟩
  rw [hq1, hq2] at H
  cases c1 <;> cases c2
  all_goals
    go_enter Tryd.func22, Tryd.ntmps22
    go_wp2_with fail
    go_ret
    exact ⟨ret_bool (by rw [← H.out]; rfl), rfl⟩
theorem rin3_any (n a b : Int) (w : World) : Calls Tryd.prog 24 #[.int .i64 n, .int .i64 a, .int .i64 b] w fun e w' => e = .returned (.bool (wit n a b)) ∧ w = w' := by
  have H : Hid (wit n a b = (decide (a ≤ n) && decide (n ≤ b))) := rfl
  generalize wit n a b = r at H ⊢
  obtain ⟨c1, hq1⟩ : ∃ c, decide (a ≤ n) = c := ⟨_, rfl⟩
  obtain ⟨c2, hq2⟩ : ∃ c, decide (n ≤ b) = c := ⟨_, rfl⟩
  rw [hq1, hq2] at H
  cases c1 <;> cases c2
  all_goals
    go_enter Tryd.func24, Tryd.ntmps24
    go_wp2_with fail
    go_ret
    exact ⟨ret_bool (by rw [H.out]; rfl), rfl⟩
theorem inB_self (n : Int) : inB (n.tdiv 100) (n.tmod 100) n n = mdB n := by
  have e : 100 * n.tdiv 100 + n.tmod 100 = n := by rw [Int.mul_comm]; exact Int.tdiv_mul_add_tmod n 100
  unfold inB
  rw [e]
  show (mdB n && mdB n && mdB n && inX n n n) = mdB n
  have : inX n n n = true := by simp [inX]
  rw [this]
  cases mdB n <;> rfl
theorem monthDay_any (n : Int) (w : World) (hM : Months w) (hn : In64 n) : Calls Tryd.prog 23 #[.int .i64 n] w (BoolIs (mdB n) w) := by
  have hw := wrap_tdiv hn
  have K : Hid (Calls Tryd.prog 21 #[.agg #[.int .i64 0, .int .i64 (n.tdiv 100), .int .i64 (n.tmod 100), .int .i64 0], .int .i64 n, .int .i64 n] w fun e w' => e = .returned (.bool (mdB n)) ∧ Below w.heap.size w w') := by
    rw [← inB_self]; exact in_any 0 _ _ 0 n n w hM hn hn
  generalize mdB n = r at K ⊢
  clear hM hn
  go_enter Tryd.func23, Tryd.ntmps23
  go_wp2_with (first | (go_at_call 21; (with_reducible refine K.out.mono ?_); rintro e1 w1 ⟨rfl, hb1⟩) | fail)
  go_ret
  exact ⟨rfl, hb1⟩
theorem rightB_of {no np : Nat} {r : Rt} {c1 c2 c3 c4 c5 c6 c7 c8 c9 c10 bo bp bb mf mu : Bool} (h1 : decide (r.id < 0) = c1) (h2 : decide (2147483647 < r.id) = c2) (h3 : decide (r.date < 0) = c3) (h4 : decide (1125899906842624 < r.date) = c4)
    (h5 : decide (r.rate < 0) = c5) (h6 : decide (1125899906842624 < r.rate) = c6) (h7 : decide (r.back < 0) = c7) (h8 : decide (1000 < r.back) = c8) (h9 : (r.backTo == -1) = c9) (h10 : (r.back == 0) = c10)
    (ho : wit r.owner 0 (no - 1) = bo) (hp : wit r.place 0 (np - 1) = bp) (hb : wit r.backTo 0 (np - 1) = bb) (hf : mdB r.from1 = mf) (hu : mdB r.until1 = mu) :
    rightB no np r = (!c1 && !c2 && (!c3 && !c4) && (!c5 && !c6) && bo && bp && (!c7 && !c8) && (bb || (c9 && c10)) && mf && mu) := by
  have w1 : ∀ (x y z : Int), wit x y z = (!decide (x < y) && !decide (z < x)) := fun x y z => by unfold wit; rw [Bool.eq_iff_iff]; simp
  unfold rightB
  rw [ho, hp, hb, hf, hu, w1 r.id, w1 r.date, w1 r.rate, w1 r.back, h1, h2, h3, h4, h5, h6, h7, h8]
  subst h9 h10
  rfl
def RtIn (r : Rt) : Prop := In64 r.from1 ∧ In64 r.until1
set_option maxHeartbeats 8000000 in
theorem right_any (X : Bas) (pl : Pl) (r : Rt) (w : World) (hM : Months w) (hr : RtIn r) : Calls Tryd.prog 9 #[.agg #[.string X.nm, .slice X.a1 X.l1 X.c1, .int .i64 X.cl, .slice X.P pl.length X.cP, .slice X.a4 X.l4 X.c4, .slice X.a5 X.l5 X.c5, .slice X.a6 X.l6 X.c6, .slice X.a7 X.l7 X.c7, .slice X.a8 X.l8 X.c8, .slice X.a9 X.l9 X.c9, .int .i64 X.er], .agg #[.int .i64 r.id, .int .i64 r.owner, .int .i64 r.date, .int .i64 r.place, .int .i64 r.rate, .int .i64 r.from1, .int .i64 r.until1, .int .i64 r.back, .int .i64 r.backTo]] w (BoolIs (rightB X.l1 pl.length r) w) := by
  obtain ⟨c1, h1⟩ : ∃ c, decide (r.id < 0) = c := ⟨_, rfl⟩
  obtain ⟨c2, h2⟩ : ∃ c, decide (2147483647 < r.id) = c := ⟨_, rfl⟩
  obtain ⟨c3, h3⟩ : ∃ c, decide (r.date < 0) = c := ⟨_, rfl⟩
  obtain ⟨c4, h4⟩ : ∃ c, decide (1125899906842624 < r.date) = c := ⟨_, rfl⟩
  obtain ⟨c5, h5⟩ : ∃ c, decide (r.rate < 0) = c := ⟨_, rfl⟩
  obtain ⟨c6, h6⟩ : ∃ c, decide (1125899906842624 < r.rate) = c := ⟨_, rfl⟩
  obtain ⟨c7, h7⟩ : ∃ c, decide (r.back < 0) = c := ⟨_, rfl⟩
  obtain ⟨c8, h8⟩ : ∃ c, decide (1000 < r.back) = c := ⟨_, rfl⟩
  obtain ⟨c9, h9⟩ : ∃ c, (r.backTo == -1) = c := ⟨_, rfl⟩
  obtain ⟨c10, h10⟩ : ∃ c, (r.back == 0) = c := ⟨_, rfl⟩
  obtain ⟨bo, ho⟩ : ∃ c, wit r.owner 0 (X.l1 - 1) = c := ⟨_, rfl⟩
  obtain ⟨bp, hp⟩ : ∃ c, wit r.place 0 (pl.length - 1) = c := ⟨_, rfl⟩
  obtain ⟨bb, hb⟩ : ∃ c, wit r.backTo 0 (pl.length - 1) = c := ⟨_, rfl⟩
  obtain ⟨mf, hf⟩ : ∃ c, mdB r.from1 = c := ⟨_, rfl⟩
  obtain ⟨mu, hu⟩ : ∃ c, mdB r.until1 = c := ⟨_, rfl⟩
  have HR := Lib.hid (rightB_of h1 h2 h3 h4 h5 h6 h7 h8 h9 h10 ho hp hb hf hu)
  have KO : Hid (∀ w, Calls Tryd.prog 22 #[.int .i64 r.owner, .int .i64 X.l1] w fun e w' => e = .returned (.bool bo) ∧ w = w') := fun w => by rw [← ho]; exact index_any _ _ w
  have KP : Hid (∀ w, Calls Tryd.prog 22 #[.int .i64 r.place, .int .i64 pl.length] w fun e w' => e = .returned (.bool bp) ∧ w = w') := fun w => by rw [← hp]; exact index_any _ _ w
  have KB : Hid (∀ w, Calls Tryd.prog 22 #[.int .i64 r.backTo, .int .i64 pl.length] w fun e w' => e = .returned (.bool bb) ∧ w = w') := fun w => by rw [← hb]; exact index_any _ _ w
  have KF : Hid (∀ wx, Below w.heap.size w wx → Calls Tryd.prog 23 #[.int .i64 r.from1] wx (BoolIs mf wx)) := fun wx h => by rw [← hf]; exact monthDay_any _ wx (hM.below hM.pos h) hr.1
  have KU : Hid (∀ wx, Below w.heap.size w wx → Calls Tryd.prog 23 #[.int .i64 r.until1] wx (BoolIs mu wx)) := fun wx h => by rw [← hu]; exact monthDay_any _ wx (hM.below hM.pos h) hr.2
  generalize rightB X.l1 pl.length r = R at HR ⊢
  have hB0 : Below w.heap.size w ((w.alloc (.cells (Value.cells (.agg #[.string X.nm, .slice X.a1 X.l1 X.c1, .int .i64 X.cl, .slice X.P pl.length X.cP, .slice X.a4 X.l4 X.c4, .slice X.a5 X.l5 X.c5, .slice X.a6 X.l6 X.c6, .slice X.a7 X.l7 X.c7, .slice X.a8 X.l8 X.c8, .slice X.a9 X.l9 X.c9, .int .i64 X.er])) 31)).alloc (.cells (Value.cells (.agg #[.int .i64 r.id, .int .i64 r.owner, .int .i64 r.date, .int .i64 r.place, .int .i64 r.rate, .int .i64 r.from1, .int .i64 r.until1, .int .i64 r.back, .int .i64 r.backTo])) 33)) := ((Below.refl _ _).alloc (Nat.le_refl _) _).alloc (by simp) _
  have hz0 : ((w.alloc (.cells (Value.cells (.agg #[.string X.nm, .slice X.a1 X.l1 X.c1, .int .i64 X.cl, .slice X.P pl.length X.cP, .slice X.a4 X.l4 X.c4, .slice X.a5 X.l5 X.c5, .slice X.a6 X.l6 X.c6, .slice X.a7 X.l7 X.c7, .slice X.a8 X.l8 X.c8, .slice X.a9 X.l9 X.c9, .int .i64 X.er])) 31)).alloc (.cells (Value.cells (.agg #[.int .i64 r.id, .int .i64 r.owner, .int .i64 r.date, .int .i64 r.place, .int .i64 r.rate, .int .i64 r.from1, .int .i64 r.until1, .int .i64 r.back, .int .i64 r.backTo])) 33)).heap.size = w.heap.size + 1 + 1 := by simp
  have q6 : ((w.alloc (.cells (Value.cells (.agg #[.string X.nm, .slice X.a1 X.l1 X.c1, .int .i64 X.cl, .slice X.P pl.length X.cP, .slice X.a4 X.l4 X.c4, .slice X.a5 X.l5 X.c5, .slice X.a6 X.l6 X.c6, .slice X.a7 X.l7 X.c7, .slice X.a8 X.l8 X.c8, .slice X.a9 X.l9 X.c9, .int .i64 X.er])) 31)).alloc (.cells (Value.cells (.agg #[.int .i64 r.id, .int .i64 r.owner, .int .i64 r.date, .int .i64 r.place, .int .i64 r.rate, .int .i64 r.from1, .int .i64 r.until1, .int .i64 r.back, .int .i64 r.backTo])) 33)).cell? ⟨w.heap.size + 1, 6, none⟩ = some (.int .i64 r.until1) := by rw [World.cell?_alloc_at _ _ _ _ (by simp)]; rfl
  have q7 : ((w.alloc (.cells (Value.cells (.agg #[.string X.nm, .slice X.a1 X.l1 X.c1, .int .i64 X.cl, .slice X.P pl.length X.cP, .slice X.a4 X.l4 X.c4, .slice X.a5 X.l5 X.c5, .slice X.a6 X.l6 X.c6, .slice X.a7 X.l7 X.c7, .slice X.a8 X.l8 X.c8, .slice X.a9 X.l9 X.c9, .int .i64 X.er])) 31)).alloc (.cells (Value.cells (.agg #[.int .i64 r.id, .int .i64 r.owner, .int .i64 r.date, .int .i64 r.place, .int .i64 r.rate, .int .i64 r.from1, .int .i64 r.until1, .int .i64 r.back, .int .i64 r.backTo])) 33)).cell? ⟨w.heap.size + 1, 7, none⟩ = some (.int .i64 r.back) := by rw [World.cell?_alloc_at _ _ _ _ (by simp)]; rfl
  have q8 : ((w.alloc (.cells (Value.cells (.agg #[.string X.nm, .slice X.a1 X.l1 X.c1, .int .i64 X.cl, .slice X.P pl.length X.cP, .slice X.a4 X.l4 X.c4, .slice X.a5 X.l5 X.c5, .slice X.a6 X.l6 X.c6, .slice X.a7 X.l7 X.c7, .slice X.a8 X.l8 X.c8, .slice X.a9 X.l9 X.c9, .int .i64 X.er])) 31)).alloc (.cells (Value.cells (.agg #[.int .i64 r.id, .int .i64 r.owner, .int .i64 r.date, .int .i64 r.place, .int .i64 r.rate, .int .i64 r.from1, .int .i64 r.until1, .int .i64 r.back, .int .i64 r.backTo])) 33)).cell? ⟨w.heap.size + 1, 8, none⟩ = some (.int .i64 r.backTo) := by rw [World.cell?_alloc_at _ _ _ _ (by simp)]; rfl
  have q3 : ((w.alloc (.cells (Value.cells (.agg #[.string X.nm, .slice X.a1 X.l1 X.c1, .int .i64 X.cl, .slice X.P pl.length X.cP, .slice X.a4 X.l4 X.c4, .slice X.a5 X.l5 X.c5, .slice X.a6 X.l6 X.c6, .slice X.a7 X.l7 X.c7, .slice X.a8 X.l8 X.c8, .slice X.a9 X.l9 X.c9, .int .i64 X.er])) 31)).alloc (.cells (Value.cells (.agg #[.int .i64 r.id, .int .i64 r.owner, .int .i64 r.date, .int .i64 r.place, .int .i64 r.rate, .int .i64 r.from1, .int .i64 r.until1, .int .i64 r.back, .int .i64 r.backTo])) 33)).cell? ⟨w.heap.size, 3, none⟩ = some (.slice X.P pl.length X.cP) := by rw [World.cell?_alloc_past _ _ _ (by simp), World.cell?_alloc_at _ _ _ _ rfl]; rfl
  simp only [Value.cells] at hB0 hz0 q3 q6 q7 q8
  have Q := Lib.hid (And.intro hz0 (And.intro q3 (And.intro q6 (And.intro q7 q8))))
  clear hz0 q3 q6 q7 q8
  clear ho hp hb hf hu hM hr
  go_enter Tryd.func9, Tryd.ntmps9
  go_wp2_with (first | (go_at_call 22; first | ((with_reducible refine (KO.out _).mono ?_); rintro e1 w1 ⟨rfl, rfl⟩) | ((with_reducible refine (KP.out _).mono ?_); rintro e1 w1 ⟨rfl, rfl⟩) | ((with_reducible refine (KB.out _).mono ?_); rintro e1 w1 ⟨rfl, rfl⟩) | fail) | (go_at_call 23; first | ((with_reducible refine (KF.out _ hB0).mono ?_); rintro e1 w1 ⟨rfl, hb1⟩; obtain ⟨z0, q3, q6, q7, q8⟩ := Q.out; have z1 := hb1.size; rw [z0] at z1; have f3 := (hb1.cell (p := ⟨w.heap.size, 3, none⟩) (by rw [z0]; show w.heap.size < _; omega)).trans q3; have f6 := (hb1.cell (p := ⟨w.heap.size + 1, 6, none⟩) (by rw [z0]; show w.heap.size + 1 < _; omega)).trans q6; have f7 := (hb1.cell (p := ⟨w.heap.size + 1, 7, none⟩) (by rw [z0]; show w.heap.size + 1 < _; omega)).trans q7; have f8 := (hb1.cell (p := ⟨w.heap.size + 1, 8, none⟩) (by rw [z0]; show w.heap.size + 1 < _; omega)).trans q8; have hB1 := hB0.trans (hb1.mono (by rw [z0]; omega)); clear z0 q3 q6 q7 q8 hb1) | ((with_reducible refine (KU.out _ hB1).mono ?_); rintro e2 w2 ⟨rfl, hb2⟩; have g3 := (hb2.cell (p := ⟨w.heap.size, 3, none⟩) (by show w.heap.size < _; omega)).trans f3; have g7 := (hb2.cell (p := ⟨w.heap.size + 1, 7, none⟩) (by show w.heap.size + 1 < _; omega)).trans f7; have g8 := (hb2.cell (p := ⟨w.heap.size + 1, 8, none⟩) (by show w.heap.size + 1 < _; omega)).trans f8; have hB2 := hB1.trans (hb2.mono (by omega)); clear hb2 f3 f6 f7 f8) | fail) | fail)
  all_goals go_ret
  all_goals first
    | exact ⟨ret_bool (by rw [HR.out]; clear HR Q KO KP KB KF KU; simp_all), hB2⟩
    | exact ⟨ret_bool (by rw [HR.out]; clear HR Q KO KP KB KF KU; simp_all), hB1⟩
    | exact ⟨ret_bool (by rw [HR.out]; clear HR Q KO KP KB KF KU; simp_all), hB0⟩
    | fail
end Go.Proofs.YtchmplnkddgncaaDoor
