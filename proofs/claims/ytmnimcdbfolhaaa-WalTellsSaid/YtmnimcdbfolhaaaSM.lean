/- small answers true. -/
import Derived.Test.YtmnimcdbfolhaaaGP
import Derived.Test.YtmnimcdbfolhaaaWD
set_option linter.unusedSimpArgs false
set_option linter.unusedVariables false
namespace Go.Proofs.Ytmnimcdbfolhaaa
open Go.RowKit DK
attribute [local go_sem] alloc_drewN setCell_drewN shape_drewN
theorem strsP_new {w : World} {base c : Nat} {o : Option Nat} {l : List Bts} {P : Nat → Prop} (h : w.ownsRow base 9 1 (.slice (ad o) l.length c) l.length (strV l)) (hP : ∀ k, base ≤ k → k < w.heap.size → P k) : StrsP P w (ad o) l :=
  (strs_of_owns h).sub fun k hk q => hP k q hk
/-- A list that the call has laid. -/
theorem strs_lit (w : World) (l : List Bts) (t : TypeId) : StrsAt (w.alloc (.cells (strV l).toArray t)) (w.alloc (.cells (strV l).toArray t)).heap.size (some ⟨w.heap.size, 0, none⟩) l := fun hl => ⟨w.heap.size, 0, rfl, by simp, fun j hj => by
  have hj : j < l.length := hj
  rw [Nat.zero_add, World.cell?_alloc_new]
  simp [strV, strF, List.getD_eq_getElem?_getD, hj]⟩
set_option maxRecDepth 100000 in
set_option maxHeartbeats 8000000 in
theorem small_any (w : World) : Calls Try.prog 9 #[] w fun e w' => e = .returned (.bool true) ∧ Below w.heap.size w w' := by
  -- the states
  have g1 : G (opnS St.zero 2) := G.zero.opn (by omega)
  have r1 : Recs (opnS St.zero 2) 2 [] [] := by
    have := opnS_recs St.zero 2
    rwa [show rowsOf (St.zero.data 2) = [] from rowsOf_eq (rows_recs (l := []) (fun _ h => by cases h))] at this
  obtain ⟨s1, e1⟩ : ∃ s, opnS St.zero 2 = s := ⟨_, rfl⟩
  have ho1 := open_up Up.zero (f := 2) (by omega)
  rw [e1] at g1 r1 ho1
  have hl : ∀ (x : Bts), x.length ≤ 1 → ∀ s R X, Recs s 2 R X → (recs (R ++ X)).length ≤ 1000 → (s.data 2).length + (x.length + 7) ≤ 16777216 := fun x hx s R X h hb => by rw [h.data]; omega
  have ha := wapp_g g1 (f := 2) (by omega) [] [97] (by decide) (hl _ (by decide) _ _ _ r1 (by decide))
  have g2 := g1.app (f := 2) (by omega) [97] (hl _ (by decide) _ _ _ r1 (by decide))
  have r2 := r1.app g1.ok [97] (by decide)
  have r2 : Recs (appS s1 2 [97]) 2 [] [[97]] := r2
  obtain ⟨s2, e2⟩ : ∃ s, appS s1 2 [97] = s := ⟨_, rfl⟩
  rw [e2] at ha g2 r2
  have hfl := flush_up g2.up (f := 2) (by omega)
  have g3 := g2.flush (f := 2)
  have r3 : Recs (flushS s2 2) 2 [[97]] [] := r2.flushed
  obtain ⟨s3, e3⟩ : ∃ s, flushS s2 2 = s := ⟨_, rfl⟩
  rw [e3] at hfl g3 r3
  have hb := wapp_g g3 (f := 2) (by omega) [[97]] [98] (by decide) (hl _ (by decide) _ _ _ r3 (by rw [recs_len]; decide))
  have g4 := g3.app (f := 2) (by omega) [98] (hl _ (by decide) _ _ _ r3 (by rw [recs_len]; decide))
  have r4 : Recs (appS s3 2 [98]) 2 [[97]] [[98]] := r3.app g3.ok [98] (by decide)
  obtain ⟨s4, e4⟩ : ∃ s, appS s3 2 [98] = s := ⟨_, rfl⟩
  rw [e4] at hb g4 r4
  have hrow4 := crash_none g4 (by omega) r4
  have g5 := g4.crashed []
  have hd5 : (crash s4 []).down = true := crash_down []
  obtain ⟨s5, e5⟩ : ∃ s, crash s4 [] = s := ⟨_, rfl⟩
  have hc := wapp_down (f := 2) (s := crash s4 []) (crash_down []) [[97], [98]] [99] (by decide)
  rw [e5] at hrow4 g5 hd5 hc
  obtain ⟨s6, e6⟩ : ∃ s, DK.start s5 = s := ⟨_, rfl⟩
  have hrow6 : rowsOf (s6.data 2) = [[97]] := by rw [← e6]; exact hrow4
  rw [e6] at g5
  have ho6 := open_up g5.up (f := 2) (by omega)
  have g7 := g5.opn (f := 2) (by omega)
  obtain ⟨s7, e7⟩ : ∃ s, opnS s6 2 = s := ⟨_, rfl⟩
  rw [e7] at ho6 g7
  have hlen : (recs [[120], []]).length ≤ 16777216 := by rw [recs_len]; decide
  have hw := wrew_up g7.up (f := 2) (by omega) [[97]] [[120], []] hlen
  have g8 := g7.rew (f := 2) (by omega) [[120], []] hlen
  have r8 := rewS_recs s7 2 (m := [[120], []]) (by decide)
  obtain ⟨s8, e8⟩ : ∃ s, rewS s7 2 [[120], []] = s := ⟨_, rfl⟩
  rw [e8] at hw g8 r8
  have hrow8 := crash_none g8 (by omega) r8
  have g9 := g8.crashed []
  obtain ⟨s9, e9⟩ : ∃ s, crash s8 [] = s := ⟨_, rfl⟩
  rw [e9] at hrow8 g9
  obtain ⟨s10, e10⟩ : ∃ s, DK.start s9 = s := ⟨_, rfl⟩
  have hrow10 : rowsOf (s10.data 2) = [[120], []] := by rw [← e10]; exact hrow8
  rw [e10] at g9
  have ho10 := open_up g9.up (f := 2) (by omega)
  have hr0 : rowsOf (St.zero.data 2) = [] := rowsOf_eq (rows_recs (l := []) (fun _ h => by cases h))
  -- the walk
  go_enter Try.func9, Try.ntmps9
  go_wp2_with fail
  go_at_call 15
  refine (HasP.new (fun k => k < w.heap.size) w (Below.refl _ _) (fun _ h => h)).mono ?_
  rintro e w1 ⟨b, rfl, h1, -, -⟩
  have KO := Lib.hid (open_yes h1 2 (by omega) ho1 hr0)
  unfold dp at KO ⊢
  go_wp2_with fail
  go_at_call 17
  refine KO.out.mono ?_
  rintro e w2 ⟨lb, rfl, h2, k2, -⟩
  unfold lp
  have KB := Lib.hid (open_bad b 7 w2 (.inr (by omega)))
  unfold dp at KB
  go_wp2_with fail
  go_at_call 17
  refine KB.out.mono ?_
  rintro e _ ⟨rfl, rfl⟩
  go_wp2_with fail
  go_at_call 17
  refine (open_nil 2 w2).mono ?_
  rintro e _ ⟨rfl, rfl⟩
  have KL := Lib.hid (len_any h2)
  unfold lp at KL
  go_wp2_with fail
  go_at_call 32
  refine KL.out.mono ?_
  rintro e _ ⟨rfl, rfl⟩
  have KA := Lib.hid (wapp_any h2 [97] (by decide) (by decide) (by omega) ha)
  have c97 : bs [97] = ⟨#[97]⟩ := rfl
  have c98 : bs [98] = ⟨#[98]⟩ := rfl
  have c99 : bs [99] = ⟨#[99]⟩ := rfl
  unfold lp at KA
  rw [c97] at KA
  go_wp2_with fail
  go_at_call 19
  refine KA.out.mono ?_
  rintro e w3 ⟨rfl, h3, k3⟩
  have KF := Lib.hid (wflush_any h3 (by omega) hfl)
  unfold lp at KF
  go_wp2_with fail
  go_at_call 22
  refine KF.out.mono ?_
  rintro e w4 ⟨rfl, h4, k4⟩
  have KA2 := Lib.hid (wapp_any h4 [98] (by decide) (by decide) (by omega) hb)
  unfold lp at KA2
  rw [c98] at KA2
  go_wp2_with fail
  go_at_call 19
  refine KA2.out.mono ?_
  rintro e w5 ⟨rfl, h5, k5⟩
  have KL2 := Lib.hid (len_any h5)
  unfold lp at KL2
  go_wp2_with fail
  go_at_call 32
  refine KL2.out.mono ?_
  rintro e _ ⟨rfl, rfl⟩
  have KC := Lib.hid (wcrash_any h5 (A := none) (c := 0) (keep := []) (Apart.nil _ _ _ _) (by decide) (by omega) e5)
  unfold dp at KC
  go_wp2_with fail
  go_at_call 23
  refine KC.out.mono ?_
  rintro e w6 ⟨rfl, h6, k6⟩
  have KA3 := Lib.hid (wapp_any h6 [99] (by decide) (by decide) (by omega) hc)
  unfold lp at KA3
  rw [c99] at KA3
  go_wp2_with fail
  go_at_call 19
  refine KA3.out.mono ?_
  rintro e w7 ⟨rfl, h7, k7⟩
  have KS := Lib.hid (h7.has.start e6)
  unfold dp at KS
  go_wp2_with fail
  go_at_call 24
  refine KS.out.mono ?_
  rintro e w8 ⟨rfl, h8, k8⟩
  have KO2 := Lib.hid (open_yes h8 2 (by omega) ho6 hrow6)
  unfold dp at KO2
  go_wp2_with fail
  go_at_call 17
  refine KO2.out.mono ?_
  rintro e w9 ⟨lb2, rfl, h9, k9, -⟩
  have KAl := Lib.hid (all_any h9 (by decide))
  unfold lp at KAl ⊢
  go_wp2_with fail
  go_at_call 25
  refine KAl.out.mono ?_
  rintro e w10 ⟨hb10, o10, c10, rfl, hO10⟩
  have h10 := h9.with_ hb10
  have hS10 := strsP_new (P := fun k => k < w.heap.size ∨ (w9.heap.size ≤ k ∧ k < w10.heap.size)) hO10 (fun k q1 q2 => .inr ⟨q1, q2⟩)
  have hb11 : Below w10.heap.size w10 (w10.alloc (.cells #[.string ⟨#[120]⟩, .string ⟨#[]⟩] 9)) := below_new _ _
  have h11 := h10.with_ hb11
  have hS10b := hS10.below hb11
  have hS11 : StrsP (fun k => (k < w.heap.size ∨ (w9.heap.size ≤ k ∧ k < w10.heap.size)) ∨ (w10.heap.size ≤ k ∧ k < (w10.alloc (.cells #[.string ⟨#[120]⟩, .string ⟨#[]⟩] 9)).heap.size)) (w10.alloc (.cells #[.string ⟨#[120]⟩, .string ⟨#[]⟩] 9)) (some ⟨w10.heap.size, 0, none⟩) [[120], []] :=
    fun hl => by
      obtain ⟨b1, o1, e1, _, hc⟩ := strs_lit w10 [[120], []] 9 hl
      injection e1 with e1; injection e1 with e1 e2
      subst e1; subst e2
      exact ⟨_, _, rfl, .inr ⟨Nat.le_refl _, by simp⟩, by simp, hc⟩
  have hm120 : Hid (∀ x ∈ ([[120], []] : List Bts), x.length ≤ 1048576) := (by decide : ∀ x ∈ ([[120], []] : List Bts), x.length ≤ 1048576)
  have KW := Lib.hid (wrew_any h11 (by omega) _ 2 hS11 hm120 (by rw [recs_len]; decide) (by omega) hw)
  unfold lp at KW
  replace hS11 := Lib.hid hS11
  go_wp2_with fail
  go_at_call 18
  refine KW.out.mono ?_
  rintro e w12 ⟨rfl, h12, k12⟩
  have hS12 := (hS10b.sub fun k _ q => .inl q).keep k12
  have KC2 := Lib.hid (wcrash_any h12 (A := none) (c := 0) (keep := []) (Apart.nil _ _ _ _) (by decide) (by omega) e9)
  unfold dp at KC2
  go_wp2_with fail
  go_at_call 23
  refine KC2.out.mono ?_
  rintro e w13 ⟨rfl, h13, k13⟩
  have hS13 := hS12.keep k13
  have KS2 := Lib.hid (wstart_any h13 e10)
  unfold dp at KS2
  go_wp2_with fail
  go_at_call 24
  refine KS2.out.mono ?_
  rintro e w14 ⟨rfl, h14, k14⟩
  have hS14 := hS13.keep k14
  have KO3 := Lib.hid (open_yes h14.has 2 (by omega) ho10 hrow10)
  unfold dp at KO3
  go_wp2_with fail
  go_at_call 17
  refine KO3.out.mono ?_
  rintro e w15 ⟨lb3, rfl, h15, k15, -⟩
  have hS15 := hS14.keep k15
  have hb16 := below_new w15 (.cells #[.string ⟨#[97]⟩] 9)
  have KSm := Lib.hid (same_any _ c10 [[97]] _ 1 [[97]] _ (hS15.below hb16).at_ (strs_lit w15 [[97]] 9) (by decide) (by decide))
  have s1 : same [[97]] [[97]] = true := by decide
  rw [s1] at KSm
  unfold lp
  go_wp2_with fail
  go_at_call 14
  refine KSm.out.mono ?_
  rintro e w16 ⟨rfl, hb17⟩
  have h16 := (h15.below_ hb16).below_ hb17
  have KAl2 := Lib.hid (all_any h16 (by decide))
  unfold lp at KAl2
  go_wp2_with fail
  go_at_call 25
  refine KAl2.out.mono ?_
  rintro e w17 ⟨hb18, o17, c17, rfl, hO17⟩
  have hb19 := below_new w17 (.cells #[.string ⟨#[120]⟩, .string ⟨#[]⟩] 9)
  have KSm2 := Lib.hid (same_any _ c17 [[120], []] _ 2 [[120], []] _ ((strs_of_owns hO17).below hb19).at_ (strs_lit w17 [[120], []] 9) (by decide) (by decide))
  have s2 : same [[120], []] [[120], []] = true := by decide
  rw [s2] at KSm2
  go_wp2_with fail
  go_at_call 14
  refine KSm2.out.mono ?_
  rintro e w18 ⟨rfl, hb20⟩
  go_wp2_with fail
  go_ret
  exact ⟨rfl, ((((h16.below_ hb18).below_ hb19).below_ hb20).below)⟩
end Go.Proofs.Ytmnimcdbfolhaaa
