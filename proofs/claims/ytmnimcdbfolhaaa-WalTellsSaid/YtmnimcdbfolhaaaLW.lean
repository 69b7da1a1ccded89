/- WalTells answers true for every input. -/
import Derived.Test.YtmnimcdbfolhaaaPD
import Derived.Test.YtmnimcdbfolhaaaSM
set_option linter.unusedSimpArgs false
set_option linter.unusedVariables false
namespace Go.Proofs.Ytmnimcdbfolhaaa
open Go.RowKit DK
attribute [local go_sem] alloc_drewN setCell_drewN shape_drewN
section
variable {w0 w w' : World} {b rb lb rlb p n : Nat} {f : Int} {s : St} {O : Nat → Prop} {X Y : Side}
theorem PairIs.below_ {R : Option (List Bts)} (h : PairIs w0 p b rb n w s f R) (hb : Below w.heap.size w w') : PairIs w0 p b rb n w' s f R := by
  rcases h with ⟨e, h1, h2⟩ | ⟨R1, lb, rlb, e, h1, h2⟩
  · exact .inl ⟨e, h1.below_ mov_h mov_r hb, (hb.block p (h1.ol p rfl).2).trans h2⟩
  · exact .inr ⟨R1, lb, rlb, e, h1.below_ mov_w mov_v hb, (hb.block p (h1.ol p rfl).2).trans h2⟩
theorem Sep.sides (h : Sep w0 O X Y w) : ∃ P Q, X P w ∧ Y Q w := by
  obtain ⟨D, _, h2, h3⟩ := h.sep
  exact ⟨_, _, h2, h3⟩
end
def TellI (w0 : World) (p b rb m : Nat) (u : Value) (wr : World) : Prop :=
  ∃ (i : Nat) (s : St) (R : Option (List Bts)), i ≤ m ∧ u = .int .i64 i ∧ PairIs w0 p b rb (2 + i) wr s 2 R ∧ ∀ R1, R = some R1 → R1.length ≤ 16777216 * (i + 1)
set_option maxRecDepth 100000 in
set_option maxHeartbeats 16000000 in
theorem tells_any (two three : Bts) (f : Int) (C : Option Addr) (c : Nat) (l : List WA) (w : World) (h2 : two.length ≤ 140737488355328) (h3 : three.length ≤ 140737488355328) (hl : l.length ≤ 9223372036854775807)
    (hS : Hid (∀ a ∈ l, a.s.length ≤ 140737488355328 ∧ a.L.length ≤ 140737488355328 ∧ a.K.length ≤ 140737488355328 ∧ ∀ x ∈ a.L, x.length ≤ 140737488355328)) (hN : Hid (∀ a ∈ l, a.n ≤ 9223372036854775807)) (hC : ActsAt w w.heap.size C l) (hP : PartsAt w w.heap.size l) :
    Calls Try.prog 7 #[.string (bs two), .string (bs three), .int .i64 f, .slice C l.length c] w fun e w' => e = .returned (.bool true) ∧ Below w.heap.size w w' := by
  replace hP := Lib.hid hP
  have z2 := bs_size two
  have z3 := bs_size three
  go_enter Try.func7, Try.ntmps7
  go_wp2_with fail
  go_at_call 9
  refine (small_any w).mono ?_
  rintro e w1 ⟨rfl, hb1⟩
  go_wp2_with fail
  go_at_call 15
  refine (HasP.new (fun k => k < w1.heap.size) w1 hb1 (fun k h => h)).mono ?_
  rintro e1 w2 ⟨b, rfl, H2, -, hb2⟩
  unfold dp
  go_wp2_with fail
  go_at_call 26
  refine (RHas.new (fun k => k < w2.heap.size) w2 H2.below (fun k h => h)).mono ?_
  rintro e1 w3 ⟨rb, rfl, H3, hb3⟩
  unfold dp
  go_upto_region 3 with fail
  have X4 := Sep.make (pairO b (.pointer none) rb (.pointer none)) hb1.size H2 hb2 H3 hb3
  have B4 : (w3.alloc (pairO b (.pointer none) rb (.pointer none))).heap[w3.heap.size]? = some (pairO b (.pointer none) rb (.pointer none)) := World.alloc_heap_new _ _
  unfold pairO dp at X4
  unfold pairO at B4
  unfold dp at B4
  obtain ⟨p, hp⟩ : ∃ p, w3.heap.size = p := ⟨_, rfl⟩
  obtain ⟨w4, hw4⟩ : ∃ W, W = w3.alloc (.cells #[.pointer (some ⟨b, 0, none⟩), .pointer none, .pointer (some ⟨rb, 0, none⟩), .pointer none] 55) := ⟨_, rfl⟩
  rw [← hw4, hp] at X4 B4
  try rw [hp]
  rw [← hw4]
  clear hw4 hp H2 H3 hb2 hb3 hb1
  have B4 : w4.heap[p]? = some (pairO b (.pointer none) rb (.pointer none)) := B4
  have hb4 := X4.below mov_h
  have KF := Lib.hid (few_any C c l w4 ((hC.below hb4).more hb4.size) (fun a ha => ⟨CellsAt.more ((hP.out a ha).1.below hb4) hb4.size, ((hP.out a ha).2.below hb4).more hb4.size⟩) hl hS)
  unfold FewIs at KF
  obtain ⟨c0, c1, c2, c3, -⟩ := pair_cells B4
  unfold dp at c0 c2
  replace X4 := Lib.hid X4
  replace B4 := Lib.hid B4
  by_cases g2 : 1000 < two.length
  · have q1 : decide ((1000 : Int) < (two.length : Int)) = true := decide_eq_true (by omega)
    go_wp2_with (first | (go_at_call 27; refine KF.out.mono ?_; rintro e3 _ ⟨fb, rfl, hfew, rfl⟩; cases fb) | fail)
    all_goals (go_ret; exact ⟨rfl, hb4⟩)
  have q1 : decide ((1000 : Int) < (two.length : Int)) = false := decide_eq_false (by omega)
  by_cases g3 : 1000 < three.length
  · have q2 : decide ((1000 : Int) < (three.length : Int)) = true := decide_eq_true (by omega)
    go_wp2_with (first | (go_at_call 27; refine KF.out.mono ?_; rintro e3 _ ⟨fb, rfl, hfew, rfl⟩; cases fb) | fail)
    all_goals (go_ret; exact ⟨rfl, hb4⟩)
  have q2 : decide ((1000 : Int) < (three.length : Int)) = false := decide_eq_false (by omega)
  go_upto_region 7 with (first | (go_at_call 27; refine KF.out.mono ?_; rintro e3 _ ⟨fb, rfl, hfew, rfl⟩; cases fb) | fail)
  · go_ret
    exact ⟨rfl, hb4⟩
  obtain ⟨hm, hF⟩ := hfew (by simp)
  replace hF := Lib.hid hF
  clear KF hfew q1 q2 hb4
  obtain ⟨s1, hs1⟩ : ∃ s, (DK.append St.zero 2 two).2 = s := ⟨_, rfl⟩
  obtain ⟨s2, hs2⟩ : ∃ s, (DK.append s1 3 three).2 = s := ⟨_, rfl⟩
  replace hs1 := Lib.hid hs1
  replace hs2 := Lib.hid hs2
  obtain ⟨P4, hH, hO, -, back⟩ := X4.out.first mov_r
  have hH : HasP w b P4 0 w4 St.zero := hH
  have K := Lib.hid (hH.append 2 two (by omega) (by omega) (v := _) (s' := s1) rfl hs1.out)
  unfold dp at K
  go_wp2_with fail
  go_at_call 16
  refine K.out.mono ?_
  rintro e w5 ⟨rfl, H_, k_⟩
  have X5 := back (X' := HX w b 1 s1) H_ k_ H_.below
  have B5 := (k_.block p (X4.out.ol p rfl).2 (hO p rfl)).trans B4.out
  clear H_ k_ K hH hO back c0 c1 c2 c3
  obtain ⟨c0, c1, c2, c3, -⟩ := pair_cells B5
  unfold dp at c0 c2
  replace X5 := Lib.hid X5
  replace B5 := Lib.hid B5
  clear X4 B4
  obtain ⟨P5, hH, hO, -, back⟩ := X5.out.second mov_h
  have hH : RHas w rb P5 0 w5 St.zero := hH
  have K := Lib.hid (hH.append 2 two (by omega) (by omega) (v := _) (s' := s1) rfl hs1.out)
  unfold dp at K
  go_wp2_with fail
  go_at_call 28
  refine K.out.mono ?_
  rintro e w6 ⟨rfl, H_, k_⟩
  have X6 := back (Y' := RX w rb 1 s1) H_ k_ H_.below
  have B6 := (k_.block p (X5.out.ol p rfl).2 (hO p rfl)).trans B5.out
  clear H_ k_ K hH hO back c0 c1 c2 c3
  obtain ⟨c0, c1, c2, c3, -⟩ := pair_cells B6
  unfold dp at c0 c2
  replace X6 := Lib.hid X6
  replace B6 := Lib.hid B6
  clear X5 B5
  obtain ⟨P6, hH, hO, -, back⟩ := X6.out.first mov_r
  have hH : HasP w b P6 1 w6 s1 := hH
  have K := Lib.hid (hH.append 3 three (by omega) (by omega) (v := _) (s' := s2) rfl hs2.out)
  unfold dp at K
  go_wp2_with fail
  go_at_call 16
  refine K.out.mono ?_
  rintro e w7 ⟨rfl, H_, k_⟩
  have X7 := back (X' := HX w b 2 s2) H_ k_ H_.below
  have B7 := (k_.block p (X6.out.ol p rfl).2 (hO p rfl)).trans B6.out
  clear H_ k_ K hH hO back c0 c1 c2 c3
  obtain ⟨c0, c1, c2, c3, -⟩ := pair_cells B7
  unfold dp at c0 c2
  replace X7 := Lib.hid X7
  replace B7 := Lib.hid B7
  clear X6 B6
  obtain ⟨P7, hH, hO, -, back⟩ := X7.out.second mov_h
  have hH : RHas w rb P7 1 w7 s1 := hH
  have K := Lib.hid (hH.append 3 three (by omega) (by omega) (v := _) (s' := s2) rfl hs2.out)
  unfold dp at K
  go_wp2_with fail
  go_at_call 28
  refine K.out.mono ?_
  rintro e w8 ⟨rfl, H_, k_⟩
  have X8 := back (Y' := RX w rb 2 s2) H_ k_ H_.below
  have B8 := (k_.block p (X7.out.ol p rfl).2 (hO p rfl)).trans B7.out
  clear H_ k_ K hH hO back c0 c1 c2 c3
  obtain ⟨c0, c1, c2, c3, -⟩ := pair_cells B8
  unfold dp at c0 c2
  replace X8 := Lib.hid X8
  replace B8 := Lib.hid B8
  clear X7 B7
  have KO := Lib.hid (popen_any X8.out B8.out f (by omega))
  unfold pp OpenedIs at KO
  go_wp2_with fail
  go_at_call 29
  refine KO.out.mono ?_
  rintro e w9 ⟨rfl, Rf, h9, -⟩
  clear KO X8 B8 c0 c1 c2 c3 hs1 hs2
  obtain ⟨l9, t9, X9, B9⟩ := h9.disks
  generalize (openS s2 f).2 = s3 at X9 h9
  have KO := Lib.hid (popen_any X9 B9 2 (by omega))
  unfold pp OpenedIs at KO
  clear h9 X9 B9
  go_wp2_with fail
  go_at_call 29
  refine KO.out.mono ?_
  rintro e w10 ⟨rfl, R10, h10, hl10⟩
  clear KO
  generalize (openS s3 2).2 = s4 at h10
  obtain ⟨m, hml⟩ : ∃ m, l.length = m := ⟨_, rfl⟩
  have hm2 : m ≤ 30 := by omega
  rw [hml]
  replace hml := Lib.hid hml
  replace h10 := Lib.hid h10
  have hC' := Lib.hid hC
  clear hC
  go_wp2_with fail
  go_loopw [11] (fun u11 wr => Hid (TellI w p b rb m u11 wr)) (fun u11 _ => m - (intOf u11).toNat)
  case atStart => exact ⟨0, s4, R10, Nat.zero_le _, rfl, h10.out, fun R1 e => Nat.le_trans (hl10 R1 e) (by omega)⟩
  case round =>
    obtain ⟨i, s, R, him, rfl, hI, hRl⟩ := hrel.out
    clear hrel h10
    have hbr := Lib.hid hI.below
    by_cases hlt : i < m
    case neg =>
      have e2 : ¬ (i : Int) < (m : Int) := by omega
      clear hI
      go_wp2_with fail
      go_ret
      exact ⟨rfl, hbr.out⟩
    case pos =>
    have e2 : (i : Int) < (m : Int) := by omega
    rcases hI with ⟨rfl, hS1, hB1⟩ | ⟨R1, lb, rlb, rfl, hS1, hB1⟩
    · obtain ⟨c0, c1, c2, c3, -⟩ := pair_cells hB1
      clear hS1 hB1 c0 c2
      go_wp2_with fail
      go_ret
      exact ⟨rfl, hbr.out⟩
    obtain ⟨a, ha⟩ : ∃ a, l[i]? = some a := ⟨_, List.getElem?_eq_getElem (by have := hml.out; omega)⟩
    obtain ⟨ab, ao, rfl, hab, hAA0⟩ := (hC'.out.below hbr.out).at_ ha
    obtain ⟨y0, y1, y2, y3, y4⟩ := hAA0
    have hin := List.mem_of_getElem? ha
    obtain ⟨f1, f2, f3, f4⟩ := hF.out a hin
    have hR1 := hRl R1 rfl
    have KT := Lib.hid (do_any (B := 16777216 * (i + 1)) a hS1 hB1 (by omega) hR1 (by omega) (hP.out a hin).1 (hP.out a hin).2 f4 f1 f2 f3 (hN.out a hin))
    obtain ⟨c0, c1, c2, c3, -⟩ := pair_cells hB1
    unfold dp at c0 c2
    unfold lp at c1 c3
    unfold pp DidIs at KT
    clear hS1 hB1 hRl
    have hdr : ∀ w : World, Below w.heap.size w w.drew := fun w => (Below.refl _ _).drew
    go_upto_region 20 with (first | (go_at_call 30; refine KT.out.mono ?_; rintro e w2 ⟨rfl, s', R', hI', hl'⟩) | fail)
    clear KT c0 c1 c2 c3 y0 y1 y2 y3 y4 hab
    have hl2 : ∀ R1, R' = some R1 → R1.length ≤ 16777216 * (i + 1 + 1) := fun R1 e => by have := hl' R1 e; omega
    clear hl'
    have hI2 := Lib.hid hI'
    rcases hI' with ⟨rfl, hS2, hB2⟩ | ⟨R2, lb2, rlb2, rfl, hS2, hB2⟩
    · obtain ⟨c0, c1, c2, c3, -⟩ := pair_cells hB2
      clear hS2 hB2 c0 c2
      go_quiet (fail)
      clear c1 c3
      have hbq : ∃ wq : World, wq = w2.drewN nq ∧ Below w2.heap.size w2 wq := ⟨_, rfl, below_drewN (Below.refl _ _) _⟩
      obtain ⟨wq, hwq, hbq⟩ := hbq
      rw [← hwq]
      clear hwq
      obtain ⟨l5, t5, hS5, hB5⟩ := (hI2.out.below_ (hbq.trans ((hdr wq).mono hbq.size))).disks
      obtain ⟨P5, Q5, hH5, hR5⟩ := hS5.sides
      have hH5 : HasP w b P5 (2 + i + 1) wq.drew s' := hH5
      have hR5 : RHas w rb Q5 (2 + i + 1) wq.drew s' := hR5
      obtain ⟨v2, ev2⟩ : ∃ v, DK.size s' 2 = v := ⟨_, rfl⟩
      obtain ⟨v3, ev3⟩ : ∃ v, DK.size s' 3 = v := ⟨_, rfl⟩
      obtain ⟨vd, evd⟩ : ∃ v, s'.down = v := ⟨_, rfl⟩
      have Ka := Lib.hid (hH5.size 2 ev2)
      have Kb := Lib.hid (hR5.size (by omega) 2 ev2)
      have Kc := Lib.hid (hH5.size 3 ev3)
      have Kd := Lib.hid (hR5.size (by omega) 3 ev3)
      have Ke := Lib.hid (hH5.down evd)
      have Kf := Lib.hid (hR5.down evd)
      unfold dp at Ka Kb Kc Kd Ke Kf
      obtain ⟨d0, d1, d2, d3, -⟩ := pair_cells hB5
      unfold dp at d0 d2
      clear hS5 hB5 hH5 hR5 ev2 ev3 evd
      go_upto_region 22 with fail
      refine Plan.wp_region_treeS (fun wx => wx.cell? ⟨p, 0, none⟩ = some (.pointer (some ⟨b, 0, none⟩)) ∧ wx.cell? ⟨p, 2, none⟩ = some (.pointer (some ⟨rb, 0, none⟩))) (.rd 0 (.rd 1 (.rd 2 (.rd 3 (.rd 5 (.rd 6 (.rd 7 (.rd 8 (.wr 4 (.wr 9 (.rd 10 (.rd 11 (.rd 12 (.rd 13 (.rd 14 (.rd 15 (.rd 17 (.rd 18 (.rd 19 (.rd 20 (.wr 16 (.wr 21 (.rd 22 (.rd 23 (.rd 24 (.rd 25 (.rd 26 (.rd 27 (.rd 28 (.rd 30 (.rd 31 (.rd 32 (.rd 33 (.wr 29 (.wr 34 (.rd 35 (.rd 36 .done))))))))))))))))))))))))))))))))))))) (by kernel_rfl) (by kernel_rfl) ⟨d0, d2⟩ ?_
      (repeat (first | (refine Plan.tree_read (v := ?_) rfl rfl ?_ ?_; rotate_left; (focus ((intro wS hSw; (try dsimp only at hSw); go_simp); try with_reducible rfl)); simp only [Act.put, List.setIfInBounds_toArray, List.set_cons_zero, List.set_cons_succ]) | (refine Plan.tree_skip rfl rfl ?_; simp only [Act.put, List.setIfInBounds_toArray, List.set_cons_zero, List.set_cons_succ])))
      (refine Plan.tree_write rfl (fun K hK => ?_); try go_simp)
      go_at_call 21
      refine Ka.out.mono ?_
      rintro e _ ⟨rfl, rfl⟩
      (refine hK.out _ _ (⟨d0, d2⟩) ?_; clear hK K; try simp only [Act.put, List.setIfInBounds_toArray, List.set_cons_zero, List.set_cons_succ])
      (repeat (first | (refine Plan.tree_read (v := ?_) rfl rfl ?_ ?_; rotate_left; (focus ((intro wS hSw; (try dsimp only at hSw); go_simp); try with_reducible rfl)); simp only [Act.put, List.setIfInBounds_toArray, List.set_cons_zero, List.set_cons_succ]) | (refine Plan.tree_skip rfl rfl ?_; simp only [Act.put, List.setIfInBounds_toArray, List.set_cons_zero, List.set_cons_succ])))
      (refine Plan.tree_write rfl (fun K hK => ?_); try go_simp)
      go_at_call 34
      refine Kb.out.mono ?_
      rintro e _ ⟨rfl, rfl⟩
      (refine hK.out _ _ (⟨d0, d2⟩) ?_; clear hK K; try simp only [Act.put, List.setIfInBounds_toArray, List.set_cons_zero, List.set_cons_succ])
      (repeat (first | (refine Plan.tree_read (v := ?_) rfl rfl ?_ ?_; rotate_left; (focus ((intro wS hSw; (try dsimp only at hSw); go_simp); try with_reducible rfl)); simp only [Act.put, List.setIfInBounds_toArray, List.set_cons_zero, List.set_cons_succ]) | (refine Plan.tree_skip rfl rfl ?_; simp only [Act.put, List.setIfInBounds_toArray, List.set_cons_zero, List.set_cons_succ])))
      (refine Plan.tree_write rfl (fun K hK => ?_); try go_simp)
      go_at_call 21
      refine Kc.out.mono ?_
      rintro e _ ⟨rfl, rfl⟩
      (refine hK.out _ _ (⟨d0, d2⟩) ?_; clear hK K; try simp only [Act.put, List.setIfInBounds_toArray, List.set_cons_zero, List.set_cons_succ])
      (repeat (first | (refine Plan.tree_read (v := ?_) rfl rfl ?_ ?_; rotate_left; (focus ((intro wS hSw; (try dsimp only at hSw); go_simp); try with_reducible rfl)); simp only [Act.put, List.setIfInBounds_toArray, List.set_cons_zero, List.set_cons_succ]) | (refine Plan.tree_skip rfl rfl ?_; simp only [Act.put, List.setIfInBounds_toArray, List.set_cons_zero, List.set_cons_succ])))
      (refine Plan.tree_write rfl (fun K hK => ?_); try go_simp)
      go_at_call 34
      refine Kd.out.mono ?_
      rintro e _ ⟨rfl, rfl⟩
      (refine hK.out _ _ (⟨d0, d2⟩) ?_; clear hK K; try simp only [Act.put, List.setIfInBounds_toArray, List.set_cons_zero, List.set_cons_succ])
      (repeat (first | (refine Plan.tree_read (v := ?_) rfl rfl ?_ ?_; rotate_left; (focus ((intro wS hSw; (try dsimp only at hSw); go_simp); try with_reducible rfl)); simp only [Act.put, List.setIfInBounds_toArray, List.set_cons_zero, List.set_cons_succ]) | (refine Plan.tree_skip rfl rfl ?_; simp only [Act.put, List.setIfInBounds_toArray, List.set_cons_zero, List.set_cons_succ])))
      (refine Plan.tree_write rfl (fun K hK => ?_); try go_simp)
      go_at_call 35
      refine Ke.out.mono ?_
      rintro e _ ⟨rfl, rfl⟩
      (refine hK.out _ _ (⟨d0, d2⟩) ?_; clear hK K; try simp only [Act.put, List.setIfInBounds_toArray, List.set_cons_zero, List.set_cons_succ])
      (repeat (first | (refine Plan.tree_read (v := ?_) rfl rfl ?_ ?_; rotate_left; (focus ((intro wS hSw; (try dsimp only at hSw); go_simp); try with_reducible rfl)); simp only [Act.put, List.setIfInBounds_toArray, List.set_cons_zero, List.set_cons_succ]) | (refine Plan.tree_skip rfl rfl ?_; simp only [Act.put, List.setIfInBounds_toArray, List.set_cons_zero, List.set_cons_succ])))
      (refine Plan.tree_write rfl (fun K hK => ?_); try go_simp)
      go_at_call 36
      refine Kf.out.mono ?_
      rintro e _ ⟨rfl, rfl⟩
      (refine hK.out _ _ (⟨d0, d2⟩) ?_; clear hK K; try simp only [Act.put, List.setIfInBounds_toArray, List.set_cons_zero, List.set_cons_succ])
      (repeat (first | (refine Plan.tree_read (v := ?_) rfl rfl ?_ ?_; rotate_left; (focus ((intro wS hSw; (try dsimp only at hSw); go_simp); try with_reducible rfl)); simp only [Act.put, List.setIfInBounds_toArray, List.set_cons_zero, List.set_cons_succ]) | (refine Plan.tree_skip rfl rfl ?_; simp only [Act.put, List.setIfInBounds_toArray, List.set_cons_zero, List.set_cons_succ])))
      refine Plan.tree_done ?_
      clear Ka Kb Kc Kd Ke Kf
      go_wp2_with fail
      go_roundw
      case rel => exact ⟨i + 1, s', _, by omega, by go_num, hI2.out.below_ (hbq.trans ((hdr wq).mono hbq.size)), hl2⟩
      case measure => simp [intOf]; omega
    · obtain ⟨c0, c1, c2, c3, -⟩ := pair_cells (((hdr w2).block p (hS2.ol p rfl).2).trans hB2)
      unfold lp at c1 c3
      clear c0 c2
      have hpl := (hS2.ol p rfl).2
      have hS3 := hS2.below_ mov_w mov_v (hdr w2)
      obtain ⟨P3, Q3, hW3, hV3⟩ := hS3.sides
      have hW3 : Wal w b lb2 2 P3 (2 + i + 1) w2.drew s' R2 := hW3
      have hV3 : RWal w rb rlb2 2 Q3 (2 + i + 1) w2.drew s' R2 := hV3
      have hR2 : R2.length ≤ 1000000000 := by have := hl2 R2 rfl; omega
      have Ka := Lib.hid (all_any hW3 hR2)
      have Kb := Lib.hid fun wx (hb : Below w2.drew.heap.size w2.drew wx) => rall_any (hV3.below_ hb) hR2
      have Kc := Lib.hid fun wx (hb : Below w2.drew.heap.size w2.drew wx) => len_any (hW3.below_ hb)
      have Kd := Lib.hid fun wx (hb : Below w2.drew.heap.size w2.drew wx) => rlen_any (hV3.below_ hb)
      have Ks := Lib.hid fun (A : Option Addr) (c : Nat) (B : Option Addr) (d : Nat) wx (hA : StrsAt wx wx.heap.size A R2) (hB : StrsAt wx wx.heap.size B R2) => same_any A c R2 B d R2 wx hA hB (by omega) (by omega)
      have hsm : same R2 R2 = true := decide_eq_true rfl
      rw [hsm] at Ks
      clear hsm hS2 hB2 hS3 hW3 hV3
      have hso : ∀ (wx : World) (base c : Nat) (o : Option Nat), wx.ownsRow base 9 1 (.slice (ad o) R2.length c) R2.length (strV R2) → StrsAt wx wx.heap.size (ad o) R2 := fun _ _ _ _ h => (strs_of_owns h).at_
      obtain ⟨nr, hnr⟩ : ∃ n, R2.length = n := ⟨_, rfl⟩
      unfold StrsNew at Ka Kb
      unfold lp at Ka Kb Kc Kd
      rw [hnr] at Ka Kb Kc Kd Ks hso
      replace hso := Lib.hid hso
      refine Plan.wp_region_treeS (fun wx => wx.cell? ⟨p, 1, none⟩ = some (.pointer (some ⟨lb2, 0, none⟩)) ∧ wx.cell? ⟨p, 3, none⟩ = some (.pointer (some ⟨rlb2, 0, none⟩))) (.rd 0 (.rd 1 (.rd 2 (.rd 3 (.rd 4 (.rd 5 (.rd 6 (.rd 7 (.rd 8 (.rd 9 (.rd 11 (.rd 12 (.rd 13 (.rd 14 (.wr 10 (.wr 15 (.wr 16 (.rd 17 (.rd 18 (.rd 19 (.rd 20 (.rd 21 (.rd 22 (.rd 24 (.rd 25 (.rd 26 (.rd 27 (.wr 23 (.wr 28 (.rd 29 (.rd 30 (.rd 31 .done)))))))))))))))))))))))))))))))) (by kernel_rfl) (by kernel_rfl) ⟨c1, c3⟩ ?_
      (repeat (first | (refine Plan.tree_read (v := ?_) rfl rfl ?_ ?_; rotate_left; (focus ((intro wS hSw; (try dsimp only at hSw); go_simp); try with_reducible rfl)); simp only [Act.put, List.setIfInBounds_toArray, List.set_cons_zero, List.set_cons_succ]) | (refine Plan.tree_skip rfl rfl ?_; simp only [Act.put, List.setIfInBounds_toArray, List.set_cons_zero, List.set_cons_succ])))
      (refine Plan.tree_write rfl (fun K hK => ?_); try go_simp)
      go_at_call 25
      refine Ka.out.mono ?_
      rintro e wa ⟨hba, oa, ca, rfl, hOa⟩
      have hpa : p < w2.drew.heap.size := hpl
      have a1 := (hba.cell (p := ⟨p, 1, none⟩) hpa).trans c1
      have a3 := (hba.cell (p := ⟨p, 3, none⟩) hpa).trans c3
      (refine hK.out _ _ (⟨a1, a3⟩) ?_; clear hK K; try simp only [Act.put, List.setIfInBounds_toArray, List.set_cons_zero, List.set_cons_succ])
      (repeat (first | (refine Plan.tree_read (v := ?_) rfl rfl ?_ ?_; rotate_left; (focus ((intro wS hSw; (try dsimp only at hSw); go_simp); try with_reducible rfl)); simp only [Act.put, List.setIfInBounds_toArray, List.set_cons_zero, List.set_cons_succ]) | (refine Plan.tree_skip rfl rfl ?_; simp only [Act.put, List.setIfInBounds_toArray, List.set_cons_zero, List.set_cons_succ])))
      (refine Plan.tree_write rfl (fun K hK => ?_); try go_simp)
      go_at_call 31
      refine (Kb.out _ hba).mono ?_
      rintro e wb ⟨hbb, ob, cb, rfl, hOb⟩
      have hbb2 := hba.trans (hbb.mono hba.size)
      have b1 := (hbb2.cell (p := ⟨p, 1, none⟩) hpa).trans c1
      have b3 := (hbb2.cell (p := ⟨p, 3, none⟩) hpa).trans c3
      (refine hK.out _ _ (⟨b1, b3⟩) ?_; clear hK K; try simp only [Act.put, List.setIfInBounds_toArray, List.set_cons_zero, List.set_cons_succ])
      (repeat (first | (refine Plan.tree_read (v := ?_) rfl rfl ?_ ?_; rotate_left; (focus ((intro wS hSw; (try dsimp only at hSw); go_simp); try with_reducible rfl)); simp only [Act.put, List.setIfInBounds_toArray, List.set_cons_zero, List.set_cons_succ]) | (refine Plan.tree_skip rfl rfl ?_; simp only [Act.put, List.setIfInBounds_toArray, List.set_cons_zero, List.set_cons_succ])))
      (refine Plan.tree_write rfl (fun K hK => ?_); try go_simp)
      go_at_call 14
      refine (Ks.out (ad oa) ca (ad ob) cb _ (CellsAt.more ((hso.out _ _ _ _ hOa).below hbb) hbb.size) (hso.out _ _ _ _ hOb)).mono ?_
      rintro e wc ⟨rfl, hbc⟩
      have hbc2 := hbb2.trans (hbc.mono hbb2.size)
      have c1' := (hbc2.cell (p := ⟨p, 1, none⟩) hpa).trans c1
      have c3' := (hbc2.cell (p := ⟨p, 3, none⟩) hpa).trans c3
      (refine hK.out _ _ (⟨c1', c3'⟩) ?_; clear hK K; try simp only [Act.put, List.setIfInBounds_toArray, List.set_cons_zero, List.set_cons_succ])
      (repeat (first | (refine Plan.tree_read (v := ?_) rfl rfl ?_ ?_; rotate_left; (focus ((intro wS hSw; (try dsimp only at hSw); go_simp); try with_reducible rfl)); simp only [Act.put, List.setIfInBounds_toArray, List.set_cons_zero, List.set_cons_succ]) | (refine Plan.tree_skip rfl rfl ?_; simp only [Act.put, List.setIfInBounds_toArray, List.set_cons_zero, List.set_cons_succ])))
      (refine Plan.tree_write rfl (fun K hK => ?_); try go_simp)
      go_at_call 32
      refine (Kc.out _ hbc2).mono ?_
      rintro e _ ⟨rfl, rfl⟩
      (refine hK.out _ _ (⟨c1', c3'⟩) ?_; clear hK K; try simp only [Act.put, List.setIfInBounds_toArray, List.set_cons_zero, List.set_cons_succ])
      (repeat (first | (refine Plan.tree_read (v := ?_) rfl rfl ?_ ?_; rotate_left; (focus ((intro wS hSw; (try dsimp only at hSw); go_simp); try with_reducible rfl)); simp only [Act.put, List.setIfInBounds_toArray, List.set_cons_zero, List.set_cons_succ]) | (refine Plan.tree_skip rfl rfl ?_; simp only [Act.put, List.setIfInBounds_toArray, List.set_cons_zero, List.set_cons_succ])))
      (refine Plan.tree_write rfl (fun K hK => ?_); try go_simp)
      go_at_call 33
      refine (Kd.out _ hbc2).mono ?_
      rintro e _ ⟨rfl, rfl⟩
      (refine hK.out _ _ (⟨c1', c3'⟩) ?_; clear hK K; try simp only [Act.put, List.setIfInBounds_toArray, List.set_cons_zero, List.set_cons_succ])
      (repeat (first | (refine Plan.tree_read (v := ?_) rfl rfl ?_ ?_; rotate_left; (focus ((intro wS hSw; (try dsimp only at hSw); go_simp); try with_reducible rfl)); simp only [Act.put, List.setIfInBounds_toArray, List.set_cons_zero, List.set_cons_succ]) | (refine Plan.tree_skip rfl rfl ?_; simp only [Act.put, List.setIfInBounds_toArray, List.set_cons_zero, List.set_cons_succ])))
      refine Plan.tree_done ?_
      have hbq := (hdr w2).trans (hbc2.mono (hdr w2).size)
      clear Ka Kb Kc Kd Ks a1 a3 b1 b3 c1 c3 c1' c3' hso hOa hOb
      obtain ⟨l5, t5, hS5, hB5⟩ := (hI2.out.below_ (hbq.trans ((hdr wc).mono hbq.size))).disks
      obtain ⟨P5, Q5, hH5, hR5⟩ := hS5.sides
      have hH5 : HasP w b P5 (2 + i + 1) wc.drew s' := hH5
      have hR5 : RHas w rb Q5 (2 + i + 1) wc.drew s' := hR5
      obtain ⟨v2, ev2⟩ : ∃ v, DK.size s' 2 = v := ⟨_, rfl⟩
      obtain ⟨v3, ev3⟩ : ∃ v, DK.size s' 3 = v := ⟨_, rfl⟩
      obtain ⟨vd, evd⟩ : ∃ v, s'.down = v := ⟨_, rfl⟩
      have Ka := Lib.hid (hH5.size 2 ev2)
      have Kb := Lib.hid (hR5.size (by omega) 2 ev2)
      have Kc := Lib.hid (hH5.size 3 ev3)
      have Kd := Lib.hid (hR5.size (by omega) 3 ev3)
      have Ke := Lib.hid (hH5.down evd)
      have Kf := Lib.hid (hR5.down evd)
      unfold dp at Ka Kb Kc Kd Ke Kf
      obtain ⟨d0, d1, d2, d3, -⟩ := pair_cells hB5
      unfold dp at d0 d2
      clear hS5 hB5 hH5 hR5 ev2 ev3 evd
      go_upto_region 22 with fail
      refine Plan.wp_region_treeS (fun wx => wx.cell? ⟨p, 0, none⟩ = some (.pointer (some ⟨b, 0, none⟩)) ∧ wx.cell? ⟨p, 2, none⟩ = some (.pointer (some ⟨rb, 0, none⟩))) (.rd 0 (.rd 1 (.rd 2 (.rd 3 (.rd 5 (.rd 6 (.rd 7 (.rd 8 (.wr 4 (.wr 9 (.rd 10 (.rd 11 (.rd 12 (.rd 13 (.rd 14 (.rd 15 (.rd 17 (.rd 18 (.rd 19 (.rd 20 (.wr 16 (.wr 21 (.rd 22 (.rd 23 (.rd 24 (.rd 25 (.rd 26 (.rd 27 (.rd 28 (.rd 30 (.rd 31 (.rd 32 (.rd 33 (.wr 29 (.wr 34 (.rd 35 (.rd 36 .done))))))))))))))))))))))))))))))))))))) (by kernel_rfl) (by kernel_rfl) ⟨d0, d2⟩ ?_
      (repeat (first | (refine Plan.tree_read (v := ?_) rfl rfl ?_ ?_; rotate_left; (focus ((intro wS hSw; (try dsimp only at hSw); go_simp); try with_reducible rfl)); simp only [Act.put, List.setIfInBounds_toArray, List.set_cons_zero, List.set_cons_succ]) | (refine Plan.tree_skip rfl rfl ?_; simp only [Act.put, List.setIfInBounds_toArray, List.set_cons_zero, List.set_cons_succ])))
      (refine Plan.tree_write rfl (fun K hK => ?_); try go_simp)
      go_at_call 21
      refine Ka.out.mono ?_
      rintro e _ ⟨rfl, rfl⟩
      (refine hK.out _ _ (⟨d0, d2⟩) ?_; clear hK K; try simp only [Act.put, List.setIfInBounds_toArray, List.set_cons_zero, List.set_cons_succ])
      (repeat (first | (refine Plan.tree_read (v := ?_) rfl rfl ?_ ?_; rotate_left; (focus ((intro wS hSw; (try dsimp only at hSw); go_simp); try with_reducible rfl)); simp only [Act.put, List.setIfInBounds_toArray, List.set_cons_zero, List.set_cons_succ]) | (refine Plan.tree_skip rfl rfl ?_; simp only [Act.put, List.setIfInBounds_toArray, List.set_cons_zero, List.set_cons_succ])))
      (refine Plan.tree_write rfl (fun K hK => ?_); try go_simp)
      go_at_call 34
      refine Kb.out.mono ?_
      rintro e _ ⟨rfl, rfl⟩
      (refine hK.out _ _ (⟨d0, d2⟩) ?_; clear hK K; try simp only [Act.put, List.setIfInBounds_toArray, List.set_cons_zero, List.set_cons_succ])
      (repeat (first | (refine Plan.tree_read (v := ?_) rfl rfl ?_ ?_; rotate_left; (focus ((intro wS hSw; (try dsimp only at hSw); go_simp); try with_reducible rfl)); simp only [Act.put, List.setIfInBounds_toArray, List.set_cons_zero, List.set_cons_succ]) | (refine Plan.tree_skip rfl rfl ?_; simp only [Act.put, List.setIfInBounds_toArray, List.set_cons_zero, List.set_cons_succ])))
      (refine Plan.tree_write rfl (fun K hK => ?_); try go_simp)
      go_at_call 21
      refine Kc.out.mono ?_
      rintro e _ ⟨rfl, rfl⟩
      (refine hK.out _ _ (⟨d0, d2⟩) ?_; clear hK K; try simp only [Act.put, List.setIfInBounds_toArray, List.set_cons_zero, List.set_cons_succ])
      (repeat (first | (refine Plan.tree_read (v := ?_) rfl rfl ?_ ?_; rotate_left; (focus ((intro wS hSw; (try dsimp only at hSw); go_simp); try with_reducible rfl)); simp only [Act.put, List.setIfInBounds_toArray, List.set_cons_zero, List.set_cons_succ]) | (refine Plan.tree_skip rfl rfl ?_; simp only [Act.put, List.setIfInBounds_toArray, List.set_cons_zero, List.set_cons_succ])))
      (refine Plan.tree_write rfl (fun K hK => ?_); try go_simp)
      go_at_call 34
      refine Kd.out.mono ?_
      rintro e _ ⟨rfl, rfl⟩
      (refine hK.out _ _ (⟨d0, d2⟩) ?_; clear hK K; try simp only [Act.put, List.setIfInBounds_toArray, List.set_cons_zero, List.set_cons_succ])
      (repeat (first | (refine Plan.tree_read (v := ?_) rfl rfl ?_ ?_; rotate_left; (focus ((intro wS hSw; (try dsimp only at hSw); go_simp); try with_reducible rfl)); simp only [Act.put, List.setIfInBounds_toArray, List.set_cons_zero, List.set_cons_succ]) | (refine Plan.tree_skip rfl rfl ?_; simp only [Act.put, List.setIfInBounds_toArray, List.set_cons_zero, List.set_cons_succ])))
      (refine Plan.tree_write rfl (fun K hK => ?_); try go_simp)
      go_at_call 35
      refine Ke.out.mono ?_
      rintro e _ ⟨rfl, rfl⟩
      (refine hK.out _ _ (⟨d0, d2⟩) ?_; clear hK K; try simp only [Act.put, List.setIfInBounds_toArray, List.set_cons_zero, List.set_cons_succ])
      (repeat (first | (refine Plan.tree_read (v := ?_) rfl rfl ?_ ?_; rotate_left; (focus ((intro wS hSw; (try dsimp only at hSw); go_simp); try with_reducible rfl)); simp only [Act.put, List.setIfInBounds_toArray, List.set_cons_zero, List.set_cons_succ]) | (refine Plan.tree_skip rfl rfl ?_; simp only [Act.put, List.setIfInBounds_toArray, List.set_cons_zero, List.set_cons_succ])))
      (refine Plan.tree_write rfl (fun K hK => ?_); try go_simp)
      go_at_call 36
      refine Kf.out.mono ?_
      rintro e _ ⟨rfl, rfl⟩
      (refine hK.out _ _ (⟨d0, d2⟩) ?_; clear hK K; try simp only [Act.put, List.setIfInBounds_toArray, List.set_cons_zero, List.set_cons_succ])
      (repeat (first | (refine Plan.tree_read (v := ?_) rfl rfl ?_ ?_; rotate_left; (focus ((intro wS hSw; (try dsimp only at hSw); go_simp); try with_reducible rfl)); simp only [Act.put, List.setIfInBounds_toArray, List.set_cons_zero, List.set_cons_succ]) | (refine Plan.tree_skip rfl rfl ?_; simp only [Act.put, List.setIfInBounds_toArray, List.set_cons_zero, List.set_cons_succ])))
      refine Plan.tree_done ?_
      clear Ka Kb Kc Kd Ke Kf
      go_wp2_with fail
      go_roundw
      case rel => exact ⟨i + 1, s', _, by omega, by go_num, hI2.out.below_ (hbq.trans ((hdr wc).mono hbq.size)), hl2⟩
      case measure => simp [intOf]; omega
end Go.Proofs.Ytmnimcdbfolhaaa
