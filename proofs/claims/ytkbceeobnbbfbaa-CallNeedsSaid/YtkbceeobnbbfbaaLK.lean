/- The walk of look. -/
import Derived.Test.YtkbceeobnbbfbaaLK0
import Derived.Test.YtkbceeobnbbfbaaV8
set_option linter.unusedSimpArgs false
set_option linter.unusedVariables false
namespace Go.Proofs.Ytkbceeobnbbfbaa
open Go.RowKit CM
attribute [local go_sem] alloc_drewN setCell_drewN shape_drewN

theorem Try.infoInts : (Try.prog.info? 29).map (fun i => (i.zero, i.size, i.bytes)) = some (some (.slice none 0 0), 1, 24) := by kernel_rfl
set_option maxRecDepth 100000 in
set_option maxHeartbeats 8000000 in
theorem look_any (X : Bas) (pl : Pl) (R : List Rt) (S : List Int) (G : List (Int × Int)) (C : Option Addr) (cr : Nat) (E : Option Addr) (cs : Nat) (D : Option Addr) (cg : Nat) (w : World) {B : Nat} (hP : PlacesAt w B X.P pl) (hR : RightsAt w B C R) (hE : IntsAt w B E S) (hG : PairsAt w B D G) (hB : B ≤ w.heap.size)
    (hl : pl.length ≤ 1000000) (hr : R.length ≤ 1000000) (hg : G.length ≤ 1000000) (hs : S.length ≤ 9223372036854775807) (hS : ∀ x ∈ S, In64 x) :
    Calls Try.prog 33 #[.agg #[.string X.nm, .slice X.a1 X.l1 X.c1, .int .i64 X.cl, .slice X.P pl.length X.cP, .slice X.a4 X.l4 X.c4, .slice X.a5 X.l5 X.c5, .slice X.a6 X.l6 X.c6, .slice X.a7 X.l7 X.c7, .slice X.a8 X.l8 X.c8, .slice X.a9 X.l9 X.c9, .int .i64 X.er], .slice C R.length cr, .slice E S.length cs, .slice D G.length cg] w (LookIs pl R S G w) := by
  obtain ⟨i0, hi, hz0, hz1, hz2⟩ := info_parts Try.infoInt
  obtain ⟨i1, ki, kz0, kz1, kz2⟩ := info_parts Try.infoInts
  have hmk := fun wx => run_make1 (P := Try.prog) 29 3 i0 (.int .i64 0) Try.underlying29 hi hz0 hz1 rfl pl.length pl.length (Nat.le_refl _) (by rw [hz2]; omega) (by omega) wx
  have hmk2 := fun wx => run_make1 (P := Try.prog) 63 29 i1 (.slice none 0 0) Try.underlying63 ki kz0 kz1 rfl R.length R.length (Nat.le_refl _) (by rw [kz2]; omega) (by omega) wx
  have K0 : Hid (∀ (wx : World), Below w.heap.size w wx → Calls Try.prog 23 #[.agg #[.string X.nm, .slice X.a1 X.l1 X.c1, .int .i64 X.cl, .slice X.P pl.length X.cP, .slice X.a4 X.l4 X.c4, .slice X.a5 X.l5 X.c5, .slice X.a6 X.l6 X.c6, .slice X.a7 X.l7 X.c7, .slice X.a8 X.l8 X.c8, .slice X.a9 X.l9 X.c9, .int .i64 X.er], .slice none 0 0, .slice E S.length cs] wx (DayIs pl [] S wx)) := fun wx h => day_any X pl [] S none 0 E cs wx (B := B) (hP.below (h.mono hB)) (fun h => absurd h (by simp)) (hE.below (h.mono hB)) (by have := h.size; omega) hl (by simp) hs hS
  have K1 := Lib.hid (fun (p : Int) (wx : World) (h : Below w.heap.size w wx) => reach_any X pl p wx (hP.below (h.mono hB)) (by have := h.size; omega) hl)
  have HP := Lib.hid hP
  clear hP
  go_enter Try.func33, Try.ntmps33
  go_upto_region 2 with (first | (go_at_call 23; ((with_reducible refine (K0.out _ (((Below.refl _ _).alloc (Nat.le_refl _) _).alloc (by simp) _)).mono ?_); rintro e1 w1 ⟨v, rfl, hrowx, hA1, hb1, hz1⟩)) | fail)
  have kc := (bcell hb1).1
  have hzb : w.heap.size + 1 + 1 + 1 + 1 + 1 ≤ w1.heap.size := by simpa using hz1
  have hA1' : Arr w1 (w.heap.size + 1 + 1 + 1 + 1) pl.length (lefV pl R S G 0) := by have := hA1; simp only [World.size_alloc] at this; exact this
  have hX1 : BoxB w1 w.heap.size X pl := ((BoxB.new w X pl).below (B := w.heap.size + 1) ((Below.refl _ _).alloc (by simp) _) (by omega)).below (B := w.heap.size + 1 + 1) (hb1.mono (by simp)) (by omega)
  have hT1 : Arr w1 (w.heap.size + 1) 3 (fun _ => .slice none 0 0) := fun j hj => by
    have hf := (bcell hb1).2
    match j, hj with
    | 0, _ => constructor <;> go_simp
    | 1, _ => constructor <;> go_simp
    | 2, _ => constructor <;> go_simp
  have hB1 : Below w.heap.size w w1 := (((Below.refl _ _).alloc (Nat.le_refl _) _).alloc (by simp) _).trans (hb1.mono (by simp; omega))
  obtain ⟨x0, x1, x2, x3, x4, x5, x6, x7, x8, x9, x10⟩ := hX1.cells
  have hzw : w.heap.size < w1.heap.size := by omega
  have zg : ∀ (z : Value) (n i : Nat), i < n → (zeros z n)[i]? = some z := fun z n i h => zeros_get z h
  clear hA1 hrowx hz1 K0 kc hb1
  go_cut [11] from 18 to 97 (fun s11 wx => ∃ br bt bd, s11 = .pointer (some ⟨bd, 0, none⟩) ∧ LookW X pl R w br (w.heap.size + 1 + 1 + 1 + 1) bt bd (fun _ => .slice none 0 0) (lefV pl R S G 0) (fun _ => .int .i64 0) wx)
  case first =>
    refine Plan.wp_region_tree (.rd 0 (.rd 1 (.rd 3 (.rd 4 (.rd 5 (.rd 6 (.three 2 (.two 7 (.rd 8 (.wr 9 (.wr 10 .done))) 9 (.wr 7 (.rd 8 (.wr 10 .done)))) 7 (.two 2 (.rd 8 (.wr 9 (.wr 10 .done))) 9 (.wr 2 (.rd 8 (.wr 10 .done)))) 9 (.two 2 (.wr 7 (.rd 8 (.wr 10 .done))) 7 (.wr 2 (.rd 8 (.wr 10 .done))))))))))) (by kernel_rfl) (by kernel_rfl) ?_
    (repeat (first | (refine Plan.tree_read (v := ?_) rfl rfl ?_ ?_; rotate_left; (focus ((intro wS hSw; have hkS := (bcell hSw).1; try (have hkT := fun (b o : Nat) (h : b < w.heap.size) => hkS b o (by first | omega | (simp; omega) | (simp; done))); go_simp); try with_reducible rfl)); simp only [Act.put, List.setIfInBounds_toArray, List.set_cons_zero, List.set_cons_succ]) | (refine Plan.tree_skip rfl rfl ?_; simp only [Act.put, List.setIfInBounds_toArray, List.set_cons_zero, List.set_cons_succ])))
    refine Plan.tree_three rfl rfl rfl (fun K hK => ?_) (fun K hK => ?_) (fun K hK => ?_)
    all_goals
      (try go_simp)
      refine hK.out _ _ ?_ ?_
      · (repeat (first | exact Below.refl _ _ | assumption | refine Below.drew ?_ | refine Below.alloc ?_ (by simp <;> omega) _ | refine Below.setCell ?_ (by simp <;> omega) _))
      clear hK K
      try simp only [Act.put, List.setIfInBounds_toArray, List.set_cons_zero, List.set_cons_succ]
      (repeat (first | (refine Plan.tree_read (v := ?_) rfl rfl ?_ ?_; rotate_left; (focus ((intro wS hSw; have hkS := (bcell hSw).1; try (have hkT := fun (b o : Nat) (h : b < w.heap.size) => hkS b o (by first | omega | (simp; omega) | (simp; done))); go_simp); try with_reducible rfl)); simp only [Act.put, List.setIfInBounds_toArray, List.set_cons_zero, List.set_cons_succ]) | (refine Plan.tree_skip rfl rfl ?_; simp only [Act.put, List.setIfInBounds_toArray, List.set_cons_zero, List.set_cons_succ])))
      refine Plan.tree_two rfl rfl (fun K hK => ?_) (fun K hK => ?_)
    all_goals
      (try go_simp)
      refine hK.out _ _ ?_ ?_
      · (repeat (first | exact Below.refl _ _ | assumption | refine Below.drew ?_ | refine Below.alloc ?_ (by simp <;> omega) _ | refine Below.setCell ?_ (by simp <;> omega) _))
      clear hK K
      try simp only [Act.put, List.setIfInBounds_toArray, List.set_cons_zero, List.set_cons_succ]
      (repeat (first | (refine Plan.tree_read (v := ?_) rfl rfl ?_ ?_; rotate_left; (focus ((intro wS hSw; have hkS := (bcell hSw).1; try (have hkT := fun (b o : Nat) (h : b < w.heap.size) => hkS b o (by first | omega | (simp; omega) | (simp; done))); go_simp); try with_reducible rfl)); simp only [Act.put, List.setIfInBounds_toArray, List.set_cons_zero, List.set_cons_succ]) | (refine Plan.tree_skip rfl rfl ?_; simp only [Act.put, List.setIfInBounds_toArray, List.set_cons_zero, List.set_cons_succ])))
      (refine Plan.tree_write rfl (fun K hK => ?_); try go_simp)
      refine hK.out _ _ ?_ ?_
      · (repeat (first | exact Below.refl _ _ | assumption | refine Below.drew ?_ | refine Below.alloc ?_ (by simp <;> omega) _ | refine Below.setCell ?_ (by simp <;> omega) _))
      clear hK K
      try simp only [Act.put, List.setIfInBounds_toArray, List.set_cons_zero, List.set_cons_succ]
      (repeat (first | (refine Plan.tree_read (v := ?_) rfl rfl ?_ ?_; rotate_left; (focus ((intro wS hSw; have hkS := (bcell hSw).1; try (have hkT := fun (b o : Nat) (h : b < w.heap.size) => hkS b o (by first | omega | (simp; omega) | (simp; done))); go_simp); try with_reducible rfl)); simp only [Act.put, List.setIfInBounds_toArray, List.set_cons_zero, List.set_cons_succ]) | (refine Plan.tree_skip rfl rfl ?_; simp only [Act.put, List.setIfInBounds_toArray, List.set_cons_zero, List.set_cons_succ])))
      (refine Plan.tree_write rfl (fun K hK => ?_); try go_simp)
      refine hK.out _ _ ?_ ?_
      · (repeat (first | exact Below.refl _ _ | assumption | refine Below.drew ?_ | refine Below.alloc ?_ (by simp <;> omega) _ | refine Below.setCell ?_ (by simp <;> omega) _))
      clear hK K
      try simp only [Act.put, List.setIfInBounds_toArray, List.set_cons_zero, List.set_cons_succ]
      refine Plan.tree_done ?_
      go_wp2_with fail
      go_meet
      first
        | exact ⟨w1.heap.size, w1.heap.size + 1, w1.heap.size + 1 + 1, rfl, LookW.start (new3_2 _ _ _ _) (new3_0 _ _ _ _) (new3_1 _ _ _ _) ((((Below.refl _ _).alloc (Nat.le_refl _) _).alloc (by simp) _).alloc (by simp; omega) _).drew hA1' hX1 hT1 hB1 (by omega) (by omega) (by omega) (by omega)⟩
        | exact ⟨w1.heap.size, w1.heap.size + 1 + 1, w1.heap.size + 1, rfl, LookW.start (new3_1 _ _ _ _) (new3_0 _ _ _ _) (new3_2 _ _ _ _) ((((Below.refl _ _).alloc (Nat.le_refl _) _).alloc (by simp) _).alloc (by simp; omega) _).drew hA1' hX1 hT1 hB1 (by omega) (by omega) (by omega) (by omega)⟩
        | exact ⟨w1.heap.size + 1, w1.heap.size, w1.heap.size + 1 + 1, rfl, LookW.start (new3_2 _ _ _ _) (new3_1 _ _ _ _) (new3_0 _ _ _ _) ((((Below.refl _ _).alloc (Nat.le_refl _) _).alloc (by simp) _).alloc (by simp; omega) _).drew hA1' hX1 hT1 hB1 (by omega) (by omega) (by omega) (by omega)⟩
        | exact ⟨w1.heap.size + 1, w1.heap.size + 1 + 1, w1.heap.size, rfl, LookW.start (new3_0 _ _ _ _) (new3_1 _ _ _ _) (new3_2 _ _ _ _) ((((Below.refl _ _).alloc (Nat.le_refl _) _).alloc (by simp) _).alloc (by simp; omega) _).drew hA1' hX1 hT1 hB1 (by omega) (by omega) (by omega) (by omega)⟩
        | exact ⟨w1.heap.size + 1 + 1, w1.heap.size, w1.heap.size + 1, rfl, LookW.start (new3_1 _ _ _ _) (new3_2 _ _ _ _) (new3_0 _ _ _ _) ((((Below.refl _ _).alloc (Nat.le_refl _) _).alloc (by simp) _).alloc (by simp; omega) _).drew hA1' hX1 hT1 hB1 (by omega) (by omega) (by omega) (by omega)⟩
        | exact ⟨w1.heap.size + 1 + 1, w1.heap.size + 1, w1.heap.size, rfl, LookW.start (new3_0 _ _ _ _) (new3_2 _ _ _ _) (new3_1 _ _ _ _) ((((Below.refl _ _).alloc (Nat.le_refl _) _).alloc (by simp) _).alloc (by simp; omega) _).drew hA1' hX1 hT1 hB1 (by omega) (by omega) (by omega) (by omega)⟩
        | fail
  case rest =>
    clear hA1' hX1 hT1 hB1 x0 x1 x2 x3 x4 x5 x6 x7 x8 x9 x10 zg
    obtain ⟨br, bt, bd, rfl, hW0⟩ := hcut
    have hc2 := hW0.c2
    obtain ⟨p1, p2, p3, p4⟩ := hW0.hi
    obtain ⟨q1, q2, q3, q4⟩ := hW0.lo
    go_wp2_with fail
    clear hc2
    go_loopw [35] (fun i wr => ∃ k : Nat, k ≤ pl.length ∧ i = .int .i64 k ∧ LookW X pl R w br (w.heap.size + 1 + 1 + 1 + 1) bt bd (fun _ => .slice none 0 0) (lefV pl R S G 0) (fun j => if j < k then .int .i64 (-1) else .int .i64 0) wr ∧ wc.heap.size ≤ wr.heap.size) (fun i _ => pl.length - (intOf i).toNat)
    case atStart => exact ⟨0, Nat.zero_le _, rfl, hW0.congr (fun _ _ => rfl) (fun _ _ => rfl) (fun _ _ => rfl), Nat.le_refl _⟩
    case round =>
      obtain ⟨k, hk, rfl, hW, hM⟩ := hrel
      have c2 := hW.c2
      by_cases hlt : k < pl.length
      · obtain ⟨a0, f0⟩ := hW.aT k hlt
        dsimp only at a0
        rw [if_neg (Nat.lt_irrefl k)] at a0
        have hWn := (hW.setT hlt (.int .i64 (-1))).congr (GB := fun _ => .slice none 0 0) (GL := lefV pl R S G 0) (GT := fun j => if j < k + 1 then .int .i64 (-1) else .int .i64 0) (fun _ _ => rfl) (fun _ _ => rfl) (fun j _ => by
          unfold updF
          by_cases e : j = k
          · rw [if_pos e, if_pos (by omega)]
          · rw [if_neg e]
            dsimp only
            by_cases g : j < k
            · rw [if_pos g, if_pos (by omega)]
            · rw [if_neg g, if_neg (by omega)])
        clear hW
        go_wp2_with fail
        go_roundw
        case rel => exact ⟨k + 1, by omega, by go_num, hWn, by simpa using hM⟩
        case measure => simp [intOf]; omega
      · have hke : k = pl.length := by omega
        subst hke
        have hWA := hW.congr (GB := fun _ => .slice none 0 0) (GL := lefV pl R S G 0) (GT := lasV pl R G 0) (fun _ _ => rfl) (fun _ _ => rfl) (fun j hj => by rw [if_pos hj]; rfl)
        clear hW
        go_wp2_with fail
        clear c2
        obtain ⟨wA, rfl⟩ : ∃ wA, wA = wr := ⟨_, rfl⟩
        go_loopw [45] (fun i wr => ∃ (k : Nat) (FB : Nat → Value), k ≤ R.length ∧ i = .int .i64 k ∧ LookW X pl R w br (w.heap.size + 1 + 1 + 1 + 1) bt bd FB (lefV pl R S G k) (lasV pl R G k) wr ∧ RowsW pl R wc.heap.size FB k wr ∧ wc.heap.size ≤ wr.heap.size) (fun i _ => R.length - (intOf i).toNat)
        case atStart => exact ⟨0, _, Nat.zero_le _, rfl, hWA, RowsW.zero, hM⟩
        case round =>
          clear hWA hM
          obtain ⟨k, FB, hk, rfl, hW, hRw, hM⟩ := hrel
          have c0 := hW.c0
          have c1 := hW.c1
          have c2 := hW.c2
          by_cases hlt : k < R.length
          case neg =>
            have hke : k = R.length := by omega
            subst hke
            obtain ⟨t0, f0⟩ := hW.t8 0 (by omega)
            obtain ⟨t1, f1⟩ := hW.t8 1 (by omega)
            obtain ⟨t2, f2⟩ := hW.t8 2 (by omega)
            have hfin := LookW.finish hW hRw (by omega)
            clear hW hRw
            go_wp2_with fail
            refine bodyPost_ret (v := .agg #[.slice (some ⟨br, 0, none⟩) R.length R.length, .slice (some ⟨w.heap.size + 1 + 1 + 1 + 1, 0, none⟩) pl.length pl.length, .slice (some ⟨bt, 0, none⟩) pl.length pl.length]) (by simp [results, Try.results33, go_sem, t0, t1, t2]) rfl ?_
            exact ⟨br, w.heap.size + 1 + 1 + 1 + 1, bt, rfl, by simpa using (hfin _ _ _).1, (hfin _ _ _).2⟩
          obtain ⟨s1, s2, s3, s4⟩ := hW.hi
          obtain ⟨x0, x1, x2, x3, x4, x5, x6, x7, x8, x9, x10⟩ := hW.box.cells
          obtain ⟨r, hx⟩ : ∃ r, R[k]? = some r := ⟨_, List.getElem?_eq_getElem hlt⟩
          obtain ⟨b, off, rfl, hb, r0, r1, r2, r3, r4, r5, r6, r7, r8⟩ := (RightsAt.below hR (hW.below.mono hB)).at_ hx
          have hrc : Hid (rcR pl R k = reach pl r.place) := by show _ = _; unfold rcR; rw [rtN_of hx]
          have hbw : b < wr.heap.size := by have := hW.below.size; omega
          have hzw : w.heap.size < wr.heap.size := by omega
          have hkb : (0 : Int) ≤ (k : Int) ∧ (k : Int) < (R.length : Int) := by omega
          have hln := reach_len pl r.place
          clear hx
          go_upto_region 11 with fail
          refine Plan.wp_region_below 8 [(0, true), (1, true), (2, true), (3, true), (4, true), (5, true), (6, false), (7, true), (8, false)] (by kernel_rfl) (by kernel_rfl) ?_
          (repeat (first | (refine Plan.plan_read (v := ?_) rfl rfl ?_ ?_; rotate_left; (focus ((intro wS hSw; have hkS := (bcell hSw).1; try (have hkT := fun (b o : Nat) (h : b < w.heap.size) => hkS b o (by first | omega | (simp; omega) | (simp; done))); go_simp); try with_reducible rfl)); simp only [Act.put, List.setIfInBounds_toArray, List.set_cons_zero, List.set_cons_succ]) | (refine Plan.plan_skip rfl rfl ?_; simp only [Act.put, List.setIfInBounds_toArray, List.set_cons_zero, List.set_cons_succ])))
          (refine Plan.plan_write rfl (fun K hK => ?_); try go_simp)
          go_at_call 25
          (with_reducible refine (K1.out _ _ ((hW.below.alloc (by omega) _).drew)).mono ?_)
          rintro e2 w2 ⟨E1, ee, rfl, hI, hFr, hb2⟩
          have kB := Plan.below_drew_go hb2
          have hb9 : Below wr.heap.size wr w2 := ((Below.refl _ _).alloc (Nat.le_refl _) _).trans (kB.mono (by simp))
          have hW2 := hW.go hb9
          obtain ⟨aB0, fB0⟩ := hW2.aB k hlt
          obtain ⟨n, hn⟩ : ∃ n : Nat, Hid ((reach pl r.place).length = n) := ⟨_, rfl⟩
          have hnl : n ≤ 1000000 := by have := hn.out; omega
          have hS := Plan.below_drew_go hb2
          rw [hn.out]
          (try go_simp)
          refine hK.out _ _ hS ?_
          clear hK K
          try simp only [Act.put, List.setIfInBounds_toArray, List.set_cons_zero, List.set_cons_succ]
          (repeat (first | (refine Plan.plan_read (v := ?_) rfl rfl ?_ ?_; rotate_left; (focus ((intro wS hSw; have hkS := (bcell hSw).1; try (have hkT := fun (b o : Nat) (h : b < w.heap.size) => hkS b o (by first | omega | (simp; omega) | (simp; done))); go_simp); try with_reducible rfl)); simp only [Act.put, List.setIfInBounds_toArray, List.set_cons_zero, List.set_cons_succ]) | (refine Plan.plan_skip rfl rfl ?_; simp only [Act.put, List.setIfInBounds_toArray, List.set_cons_zero, List.set_cons_succ])))
          (refine Plan.plan_last rfl (fun K hK => ?_); go_simp; refine hK.out _ _ ?_; clear hK K; try simp only [Act.put, List.setIfInBounds_toArray, List.set_cons_zero, List.set_cons_succ])
          have hM2 : wc.heap.size ≤ w2.heap.size := by have := hb9.size; omega
          have hF1 : ∀ a, E1 = some a → wc.heap.size ≤ a.block := fun a ha => by have := hFr a ha; simp at this; omega
          obtain ⟨FB1, hFB1⟩ : ∃ FB1, FB1 = updF FB k (.slice E1 n ee) := ⟨_, rfl⟩
          have hW3 : LookW X pl R w br (w.heap.size + 1 + 1 + 1 + 1) bt bd FB1 (lefV pl R S G k) (lasV pl R G k) (w2.setCell ⟨br, k, none⟩ (.slice E1 n ee)) := by rw [hFB1]; exact hW2.setB hlt _
          have hI3 : IntsAt (w2.setCell ⟨br, k, none⟩ (.slice E1 n ee)) (w2.setCell ⟨br, k, none⟩ (.slice E1 n ee)).heap.size E1 (natsI (reach pl r.place)) := by
            have := hI.far (p := ⟨br, k, none⟩) (fun a ha => by have := hF1 a ha; show a.block ≠ br; omega) (.slice E1 n ee)
            simpa using this
          have hR3 : RowsW pl R wc.heap.size FB1 (k + 1) (w2.setCell ⟨br, k, none⟩ (.slice E1 n ee)) := by
            rw [hFB1, ← hn.out, ← hrc.out]
            exact ((hRw.go hb9).far (p := ⟨br, k, none⟩) (by show br < wc.heap.size; omega) _).add (by rw [hrc.out, hn.out]; exact hI3) hF1
          have hM3 : wc.heap.size ≤ (w2.setCell ⟨br, k, none⟩ (.slice E1 n ee)).heap.size := by simpa using hM2
          have hFBk : Hid (FB1 k = .slice E1 n ee) := by show _ = _; rw [hFB1]; unfold updF; rw [if_pos rfl]
          clear hFB1 hW hRw hb2 hS kB hb9 hW2 aB0 fB0 hI hFr hM2 hM c0 c1 c2 x0 x1 x2 x3 x4 x5 x6 x7 x8 x9 x10
          generalize w2.setCell ⟨br, k, none⟩ (.slice E1 n ee) = w4 at hW3 hI3 hR3 hM3 ⊢
          by_cases hkg : k < G.length
          case neg =>
            have hW4 := hW3.congr (GB := FB1) (GL := lefV pl R S G (k + 1)) (GT := lasV pl R G (k + 1)) (fun _ _ => rfl) (fun j _ => by rw [lefV_far hkg]) (fun j _ => by rw [lasV_far hkg])
            have hkg2 : G.length ≤ k := by omega
            clear hW3
            go_wp2_with fail
            go_roundw
            case rel => exact ⟨k + 1, FB1, by omega, by go_num, hW4, hR3, hM3⟩
            case measure => simp [intOf]; omega
          obtain ⟨x, hy⟩ : ∃ x, G[k]? = some x := ⟨_, List.getElem?_eq_getElem hkg⟩
          obtain ⟨b2, off2, rfl, hb2, g0w, g1w⟩ := hG.at_ hy
          have hb2w : b2 < w.heap.size := by omega
          have g0w := Lib.hid g0w
          have g1w := Lib.hid g1w
          have hgt := Lib.hid (gotG_of hy)
          clear hy
          have hgI : ¬ (G.length : Int) ≤ (k : Int) := by omega
          have c0 := hW3.c0
          obtain ⟨a0, _⟩ := hW3.aB k hlt
          rw [hFBk.out] at a0
          go_wp2_with fail
          obtain ⟨wB, rfl⟩ : ∃ wB, wB = wr := ⟨_, rfl⟩
          go_loopw [68] (fun i wr => ∃ j : Nat, j ≤ n ∧ i = .int .i64 j ∧ LookW X pl R w br (w.heap.size + 1 + 1 + 1 + 1) bt bd FB1 (lefM pl R S G k x.2 ((reach pl r.place).take j)) (lasM pl R G k x.2 ((reach pl r.place).take j)) wr ∧ RowsW pl R wc.heap.size FB1 (k + 1) wr ∧ wc.heap.size ≤ wr.heap.size ∧ IntsAt wr wr.heap.size E1 (natsI (reach pl r.place))) (fun i _ => n - (intOf i).toNat)
          case atStart => exact ⟨0, Nat.zero_le _, rfl, hW3.congr (fun _ _ => rfl) (fun _ _ => by rw [List.take_zero, lefM_nil]) (fun _ _ => by rw [List.take_zero, lasM_nil]), hR3, hM3, hI3⟩
          case round =>
            clear hW3 hR3 hM3 hI3 c0 a0
            obtain ⟨j, hj, rfl, hW5, hR5, hM5, hI5⟩ := hrel
            by_cases hjl : j < n
            case neg =>
              have hje : j = (reach pl r.place).length := by rw [hn.out]; omega
              have hW6 := hW5.congr (GB := FB1) (GL := lefV pl R S G (k + 1)) (GT := lasV pl R G (k + 1)) (fun _ _ => rfl) (fun q _ => by rw [hje, List.take_length, ← hrc.out, lefM_all hkg hgt.out]) (fun q _ => by rw [hje, List.take_length, ← hrc.out, lasM_all hkg hgt.out])
              have hje2 : ¬ j < n := hjl
              have hje3 := Lib.hid hje
              clear hW5 hje hjl
              go_wp2_with fail
              go_roundw
              case rel => exact ⟨k + 1, FB1, by omega, by go_num, hW6, hR5, hM5⟩
              case measure => simp [intOf]; omega
            obtain ⟨q, hq⟩ : ∃ q, (reach pl r.place)[j]? = some q := ⟨_, List.getElem?_eq_getElem (by rw [hn.out]; exact hjl)⟩
            have hqn : q < pl.length := reach_lt (List.mem_of_getElem? hq)
            have hqt := take_new (reach_nodup pl r.place) hq
            have hqI : (natsI (reach pl r.place))[j]? = some (q : Int) := by unfold natsI; rw [List.getElem?_map, hq]; rfl
            have hFE : ∀ a, E1 = some a → wc.heap.size ≤ a.block := hF1
            obtain ⟨b5, off5, rfl, hb5, c5⟩ := hI5.at_ hqI
            have hb5M : wc.heap.size ≤ b5 := hFE _ rfl
            obtain ⟨u1, u2, u3, u4'⟩ := hW5.hi
            have c0 := hW5.c0
            have c1 := hW5.c1
            have c2 := hW5.c2
            obtain ⟨aL0, fL0⟩ := hW5.aL q hqn
            obtain ⟨aT0, fT0⟩ := hW5.aT q hqn
            rw [lefM_new hqt] at aL0
            obtain ⟨V, hV⟩ : ∃ V, V = lefW pl R S G k q := ⟨_, rfl⟩
            have g1 := (hW5.below.cell (p := ⟨b2, off2 + k * 2 + 1, none⟩) hb2w).trans g1w.out
            have hqI2 : (0 : Int) ≤ (q : Int) ∧ (q : Int) < (pl.length : Int) := by omega
            have hkI2 : (0 : Int) ≤ (k : Int) ∧ (k : Int) < (G.length : Int) := by omega
            have hb2z : b2 < wr.heap.size := by have := hW5.below.size; omega
            have hLn : LookW X pl R w br (w.heap.size + 1 + 1 + 1 + 1) bt bd FB1 (lefM pl R S G k x.2 ((reach pl r.place).take (j + 1))) (lasM pl R G k x.2 ((reach pl r.place).take j)) ((wr.setCell ⟨w.heap.size + 1 + 1 + 1 + 1, q, none⟩ (.int .i64 (wrap64 (V - x.2)))).drew) := by
              rw [hV]
              refine LookW.go ((hW5.setL hqn _).congr (fun _ _ => rfl) (fun i _ => ?_) (fun _ _ => rfl)) (Below.refl _ _).drew
              rw [take_snoc hq]
              exact lefM_snoc _ q i
            have hRn : RowsW pl R wc.heap.size FB1 (k + 1) ((wr.setCell ⟨w.heap.size + 1 + 1 + 1 + 1, q, none⟩ (.int .i64 (wrap64 (V - x.2)))).drew) := (hR5.far (p := ⟨w.heap.size + 1 + 1 + 1 + 1, q, none⟩) (by show w.heap.size + 1 + 1 + 1 + 1 < wc.heap.size; omega) _).go (Below.refl _ _).drew
            have hMn : wc.heap.size ≤ ((wr.setCell ⟨w.heap.size + 1 + 1 + 1 + 1, q, none⟩ (.int .i64 (wrap64 (V - x.2)))).drew).heap.size := by simpa using hM5
            have hIn : IntsAt ((wr.setCell ⟨w.heap.size + 1 + 1 + 1 + 1, q, none⟩ (.int .i64 (wrap64 (V - x.2)))).drew) ((wr.setCell ⟨w.heap.size + 1 + 1 + 1 + 1, q, none⟩ (.int .i64 (wrap64 (V - x.2)))).drew).heap.size (some ⟨b5, off5, none⟩) (natsI (reach pl r.place)) := by
              have := hI5.far (p := ⟨w.heap.size + 1 + 1 + 1 + 1, q, none⟩) (fun a ha => by obtain rfl := Option.some.inj ha; show b5 ≠ w.heap.size + 1 + 1 + 1 + 1; omega) (.int .i64 (wrap64 (V - x.2)))
              have := this.below (B := wr.heap.size) (Below.refl _ _).drew
              simpa using this
            have hTs : Hid (lasM pl R G k x.2 ((reach pl r.place).take j ++ [q]) = lasM pl R G k x.2 ((reach pl r.place).take (j + 1))) := by show _ = _; rw [take_snoc hq]
            rw [← hV] at aL0
            have HV := Lib.hid hV
            clear hV hqt hqI hq hW5 hR5 hM5 hI5 hF1 hFE
            go_upto_region 16 with fail
            refine Plan.wp_region_below 12 [(0, true), (1, true), (2, true), (3, true), (4, true), (5, true), (6, true), (7, true), (8, true), (9, true), (10, true), (11, true), (12, false)] (by kernel_rfl) (by kernel_rfl) ?_
            (repeat (first | (refine Plan.plan_read (v := ?_) rfl rfl ?_ ?_; rotate_left; (focus ((intro wS hSw; have hkS := (bcell hSw).1; try (have hkT := fun (b o : Nat) (h : b < w.heap.size) => hkS b o (by first | omega | (simp; omega) | (simp; done))); go_simp); try with_reducible rfl)); simp only [Act.put, List.setIfInBounds_toArray, List.set_cons_zero, List.set_cons_succ]) | (refine Plan.plan_skip rfl rfl ?_; simp only [Act.put, List.setIfInBounds_toArray, List.set_cons_zero, List.set_cons_succ])))
            (refine Plan.plan_last rfl (fun K hK => ?_); go_simp; refine hK.out _ _ ?_; clear hK K; try simp only [Act.put, List.setIfInBounds_toArray, List.set_cons_zero, List.set_cons_succ])
            rw [show IntKind.i64.wrap (V - x.2) = wrap64 (V - x.2) from IntWalk.i64_left _]
            generalize (wr.setCell ⟨w.heap.size + 1 + 1 + 1 + 1, q, none⟩ (.int .i64 (wrap64 (V - x.2)))).drew = w7 at hLn hRn hMn hIn ⊢
            clear c0 c1 c2 aL0 fL0 aT0 fT0 g1 c5
            have g1 := (hLn.below.cell (p := ⟨b2, off2 + k * 2 + 1, none⟩) hb2w).trans g1w.out
            have c2 := hLn.c2
            obtain ⟨aT0, fT0⟩ := hLn.aT q hqn
            by_cases h0 : 0 < x.2
            · have hLt := (hLn.setT hqn (.int .i64 (k : Int))).congr (GB := FB1) (GL := lefM pl R S G k x.2 ((reach pl r.place).take (j + 1))) (GT := lasM pl R G k x.2 ((reach pl r.place).take (j + 1))) (fun _ _ => rfl) (fun _ _ => rfl) (fun i _ => by rw [← hTs.out]; exact lasM_snoc h0 _ q i)
              have hRt := hRn.far (p := ⟨bt, q, none⟩) (by show bt < wc.heap.size; omega) (.int .i64 (k : Int))
              have hIt := hIn.far (p := ⟨bt, q, none⟩) (fun a ha => by obtain rfl := Option.some.inj ha; show b5 ≠ bt; omega) (.int .i64 (k : Int))
              clear hLn hRn hIn
              go_wp2_with fail
              go_roundw
              case rel => exact ⟨j + 1, by omega, by go_num, hLt, hRt, by simpa using hMn, by simpa using hIt⟩
              case measure => simp [intOf]; omega
            · have hLt := hLn.congr (GB := FB1) (GL := lefM pl R S G k x.2 ((reach pl r.place).take (j + 1))) (GT := lasM pl R G k x.2 ((reach pl r.place).take (j + 1))) (fun _ _ => rfl) (fun _ _ => rfl) (fun i _ => by rw [← hTs.out, lasM_dry h0])
              clear hLn
              go_wp2_with fail
              go_roundw
              case rel => exact ⟨j + 1, by omega, by go_num, hLt, hRn, hMn, hIn⟩
              case measure => simp [intOf]; omega
end Go.Proofs.Ytkbceeobnbbfbaa
