/- The walk of the reference's Network. (Printed by gen_n2.py.) -/
import Derived.Deep.Cut
import Derived.Test.YtphebdmdbnpokaaN1
import Derived.Test.YtphebdmdbnpokaaR7
set_option linter.unusedSimpArgs false
set_option linter.unusedVariables false
namespace Go.Proofs.Ytphebdmdbnpokaa
open Go.RowKit RD FM
attribute [local go_sem] alloc_drewN setCell_drewN shape_drewN
def NetIs (X : Bs) (V : List Int) (hours : Int) (w : World) (e : Ending) (w' : World) : Prop := ∃ C cc, e = .returned (.slice C (roomNet X V hours).length cc) ∧ FL.ArcsAt w' w'.heap.size C (roomNet X V hours) ∧ Below w.heap.size w w'
set_option maxRecDepth 100000 in
set_option maxHeartbeats 16000000 in
theorem network_any (X : Bs) (C : Option Addr) (c : Nat) (V : List Int) (hours : Int) (w : World) (hX : BsAt w w.heap.size X) (hV : IntsAt w w.heap.size C V) (hVl : V.length ≤ 9223372036854775807) (hT : X.T.length ≤ 50) (hSl : X.S.length ≤ 50) (hR : X.R.length ≤ 100) (hP : X.l3 ≤ 9223372036854775807) :
    Calls Try.prog 18 #[.agg #[.string X.nm, .slice X.a1 X.l1 X.c1, .int .i64 X.cl, .slice X.a3 X.l3 X.c3, .slice X.a4 X.l4 X.c4, .slice X.a5 X.T.length X.c5, .slice X.a6 X.l6 X.c6, .slice X.a7 X.R.length X.c7, .slice X.a8 X.S.length X.c8, .slice X.a9 X.l9 X.c9, .int .i64 X.er], .slice C V.length c, .int .i64 hours] w (NetIs X V hours w) := by
  obtain ⟨i1, gi, gz0, gz1, gz2⟩ := info_parts infoInt
  obtain ⟨i2, ci, cz0, cz1, cz2⟩ := info_parts infoCap
  obtain ⟨N, hN⟩ : ∃ N, N = X.N := ⟨_, rfl⟩
  have hNs : N = X.T.length + X.S.length := hN
  have hN1 : (X.T.length : Int) + (X.S.length : Int) = (N : Int) := by omega
  have hNb : N ≤ 100 := by omega
  obtain ⟨m, hm⟩ : ∃ m, max hours 0 = m := ⟨_, rfl⟩
  obtain ⟨h, hh⟩ : ∃ h, min m 24 = h := ⟨_, rfl⟩
  have e1 : (if hours < 0 then 0 else hours) = m := by split <;> omega
  have e2 : (if (24 : Int) < m then 24 else m) = h := by split <;> omega
  have hlh : limH hours = h := by unfold limH; rw [hm, hh]
  have hhb := limH_bd hours
  rw [hlh] at hhb
  obtain ⟨hh0, hh1⟩ := hhb
  have hbl : BsLen X := ⟨by omega, by omega, by omega, hP⟩
  have K1 := Lib.hid (fun (k : Nat) (hk : k < X.R.length) (wx : World) (h : Below w.heap.size w wx) => ropen_yes X k C c V wx ((hX.r.below h).more h.size) (ints_more (ints_below hV h) h.size) hVl hbl hk)
  unfold OpenIs at K1
  have K2 := Lib.hid (fun (n : Int) (wx : World) => people_any n wx)
  obtain ⟨a5, ha5⟩ : ∃ a, X.a5 = a := ⟨_, rfl⟩
  obtain ⟨a7, ha7⟩ : ∃ a, X.a7 = a := ⟨_, rfl⟩
  obtain ⟨a8, ha8⟩ : ∃ a, X.a8 = a := ⟨_, rfl⟩
  have hXt := hX.t
  have hXr := hX.r
  have hXs := hX.s
  rw [ha5] at hXt
  rw [ha7] at hXr
  rw [ha8] at hXs
  rw [ha5, ha7, ha8] at K1
  rw [ha5, ha7, ha8]
  have HXt := Lib.hid hXt
  have HXr := Lib.hid hXr
  have HXs := Lib.hid hXs
  have HNN := Lib.hid hN
  have HNs := Lib.hid hNs
  have Hlh := Lib.hid hlh
  clear hX hV hN hNs hP hbl hXt hXr hXs ha5 ha7 ha8 hm hh hlh
  have hX0 : Box (w.alloc (.cells #[.string X.nm, .slice X.a1 X.l1 X.c1, .int .i64 X.cl, .slice X.a3 X.l3 X.c3, .slice X.a4 X.l4 X.c4, .slice a5 X.T.length X.c5, .slice X.a6 X.l6 X.c6, .slice a7 X.R.length X.c7, .slice a8 X.S.length X.c8, .slice X.a9 X.l9 X.c9, .int .i64 X.er] 31)) w.heap.size #[.string X.nm, .slice X.a1 X.l1 X.c1, .int .i64 X.cl, .slice X.a3 X.l3 X.c3, .slice X.a4 X.l4 X.c4, .slice a5 X.T.length X.c5, .slice X.a6 X.l6 X.c6, .slice a7 X.R.length X.c7, .slice a8 X.S.length X.c8, .slice X.a9 X.l9 X.c9, .int .i64 X.er] 31 := Box.new w _ _
  have hB0 : Below w.heap.size w (w.alloc (.cells #[.string X.nm, .slice X.a1 X.l1 X.c1, .int .i64 X.cl, .slice X.a3 X.l3 X.c3, .slice X.a4 X.l4 X.c4, .slice a5 X.T.length X.c5, .slice X.a6 X.l6 X.c6, .slice a7 X.R.length X.c7, .slice a8 X.S.length X.c8, .slice X.a9 X.l9 X.c9, .int .i64 X.er] 31)) := (Below.refl _ _).alloc (Nat.le_refl _) _
  have hqn : IntKind.i64.wrap ((N : Int) + 1) = (N : Int) + 1 := by rw [IntKind.wrap_i64]; omega
  go_enter Try.func18, Try.ntmps18
  go_wp2_with fail
  go_loopw [8, 9] (fun cv kv wr => ∃ k, k ≤ X.T.length ∧ kv = .int .i64 (k : Nat) ∧ wr.ownsRow (w.heap.size + 1) 66 3 cv k (arcCells (townA N 0 (X.T.take k))) ∧ Box wr w.heap.size #[.string X.nm, .slice X.a1 X.l1 X.c1, .int .i64 X.cl, .slice X.a3 X.l3 X.c3, .slice X.a4 X.l4 X.c4, .slice a5 X.T.length X.c5, .slice X.a6 X.l6 X.c6, .slice a7 X.R.length X.c7, .slice a8 X.S.length X.c8, .slice X.a9 X.l9 X.c9, .int .i64 X.er] 31 ∧ Below w.heap.size w wr) (fun _ kv _ => X.T.length - (intOf kv).toNat)
  case atStart => exact ⟨0, Nat.zero_le _, rfl, World.ownsRow_nil _ _ _ _, hX0, hB0⟩
  case round =>
    clear hX0 hB0
    obtain ⟨k, hk, rfl, hrow, hBx, hBw⟩ := hrel
    have hwz := hBx.lt
    have x5 : wr.cell? ⟨w.heap.size, 5, none⟩ = some (.slice a5 X.T.length X.c5) := hBx.cell rfl
    by_cases hlt : k < X.T.length
    · obtain ⟨t, ht⟩ : ∃ t, X.T[k]? = some t := ⟨_, List.getElem?_eq_getElem hlt⟩
      obtain ⟨b, off, ec, hb, c0, c1, c2, c3, c4, c5, c6⟩ := town_at (HXt.out.below hBw) ht
      subst ec
      have hbw : b < wr.heap.size := by omega
      have Hsn := Lib.hid (townA_snoc N 0 X.T k t ht)
      have Hrow := Lib.hid hrow
      have HBx := Lib.hid hBx
      clear ht hrow hBx
      go_wp2_with (first | (go_at_call 32; (with_reducible refine (K2.out _ _).mono ?_); rintro e1 w1 ⟨rfl, rfl⟩) | (at_builtin; refine wpList_append_any _ (by rfl) _ _ 50 (by rfl) (w.heap.size + 1) 66 i2 _ 3 24 Try.underlying50 ci cz0 cz1 cz2 rfl (by decide) _ k _ (by rfl) (Hrow.out.alloc _) (_ + 1) (some ⟨wr.heap.size, 0, none⟩) 1 1 [.int .i64 (N : Int), .int .i64 (k : Int), .int .i64 (lim t.people)] (by rfl) ⟨rfl, fun _ => ⟨_, rfl, Nat.lt_succ_self _, cells_at (by simp) _ _⟩⟩ (fun x hx => by simp at hx; rcases hx with rfl | rfl | rfl <;> rfl) (by unfold maxLen; omega) (by omega) (by simp; omega) ?_; intro v' w9 hO9 hG9 hob9; replace hO9 := Lib.hid hO9; replace hG9 := Lib.hid hG9; clear hob9) | fail)
      have hG := Plan.grown_go (Plan.grown_alloc (grown_refl _ _) _) hG9.out
      go_roundw
      case rel => exact ⟨k + 1, by omega, by go_num, by
        rw [Hsn.out, arcCells_app, Nat.zero_add]; exact hO9.out, row_box Hrow.out hG HBx.out, row_bel Hrow.out hG hBw (by omega)⟩
      case measure => simp [intOf]; omega
    · obtain rfl : X.T.length = k := by omega
      rw [List.take_length] at hrow
      have hrow2 : wr.ownsRow (w.heap.size + 1) 66 3 u8 (X.T.length + (roadA (opB N X.l3 V) h (X.R.take 0)).length) (arcCells (townA N 0 X.T ++ roadA (opB N X.l3 V) h (X.R.take 0))) := by
        have : townA N 0 X.T ++ roadA (opB N X.l3 V) h (X.R.take 0) = townA N 0 X.T := by simp [roadA]
        rw [this]; exact hrow
      replace hBx := Lib.hid hBx
      replace hrow2 := Lib.hid hrow2
      clear hrow hlt hk
      go_wp2_with fail
      clear x5
      go_loopw [8, 10] (fun cv kv wr => ∃ k, k ≤ X.R.length ∧ kv = .int .i64 (k : Nat) ∧ wr.ownsRow (w.heap.size + 1) 66 3 cv (X.T.length + (roadA (opB N X.l3 V) h (X.R.take k)).length) (arcCells (townA N 0 X.T ++ roadA (opB N X.l3 V) h (X.R.take k))) ∧ Box wr w.heap.size #[.string X.nm, .slice X.a1 X.l1 X.c1, .int .i64 X.cl, .slice X.a3 X.l3 X.c3, .slice X.a4 X.l4 X.c4, .slice a5 X.T.length X.c5, .slice X.a6 X.l6 X.c6, .slice a7 X.R.length X.c7, .slice a8 X.S.length X.c8, .slice X.a9 X.l9 X.c9, .int .i64 X.er] 31 ∧ Below w.heap.size w wr) (fun _ kv _ => X.R.length - (intOf kv).toNat)
      case atStart => exact ⟨0, Nat.zero_le _, rfl, hrow2.out, hBx.out, hBw⟩
      case round =>
        clear hrow2 hBx hBw hwz
        obtain ⟨k, hk, rfl, hrow, hBx, hBw⟩ := hrel
        have hwz := hBx.lt
        by_cases hlt : k < X.R.length
        · obtain ⟨r, hr⟩ : ∃ r, X.R[k]? = some r := ⟨_, List.getElem?_eq_getElem hlt⟩
          obtain ⟨b, off, ec, hb, c0, c1, c2, c3, c4, c5, c6⟩ := road_at (HXr.out.below hBw) hr
          subst ec
          have hbw : b < wr.heap.size := by omega
          have x0 : wr.cell? ⟨w.heap.size, 0, none⟩ = some (.string X.nm) := hBx.cell rfl
          have x1 : wr.cell? ⟨w.heap.size, 1, none⟩ = some (.slice X.a1 X.l1 X.c1) := hBx.cell rfl
          have x2 : wr.cell? ⟨w.heap.size, 2, none⟩ = some (.int .i64 X.cl) := hBx.cell rfl
          have x3 : wr.cell? ⟨w.heap.size, 3, none⟩ = some (.slice X.a3 X.l3 X.c3) := hBx.cell rfl
          have x4 : wr.cell? ⟨w.heap.size, 4, none⟩ = some (.slice X.a4 X.l4 X.c4) := hBx.cell rfl
          have x5 : wr.cell? ⟨w.heap.size, 5, none⟩ = some (.slice a5 X.T.length X.c5) := hBx.cell rfl
          have x6 : wr.cell? ⟨w.heap.size, 6, none⟩ = some (.slice X.a6 X.l6 X.c6) := hBx.cell rfl
          have x7 : wr.cell? ⟨w.heap.size, 7, none⟩ = some (.slice (some ⟨b, off, none⟩) X.R.length X.c7) := hBx.cell rfl
          have x8 : wr.cell? ⟨w.heap.size, 8, none⟩ = some (.slice a8 X.S.length X.c8) := hBx.cell rfl
          have x9 : wr.cell? ⟨w.heap.size, 9, none⟩ = some (.slice X.a9 X.l9 X.c9) := hBx.cell rfl
          have x10 : wr.cell? ⟨w.heap.size, 10, none⟩ = some (.int .i64 X.er) := hBx.cell rfl
          obtain ⟨p, hp⟩ : ∃ p, openB X.N X.l3 X.R k V = p := ⟨_, rfl⟩
          have hop : opB N X.l3 V r = p := by rw [← hp, openB_at hr, HNN.out]; rfl
          have K1r := Lib.hid (K1.out k hlt)
          rw [hp] at K1r
          have hsn : roadA (opB N X.l3 V) h (X.R.take (k + 1)) = if p = true then roadA (opB N X.l3 V) h (X.R.take k) ++ [(r.frm, r.to_, lim r.flow * h)] else roadA (opB N X.l3 V) h (X.R.take k) := by
            rw [take_snoc_at hr, roadA_snoc, hop]
          have Hsn := Lib.hid hsn
          have hln := roadA_len (opB N X.l3 V) h (X.R.take k)
          have hln2 : (X.R.take k).length ≤ 100 := by rw [List.length_take]; omega
          obtain ⟨A, hA⟩ : ∃ A, A = roadA (opB N X.l3 V) h (X.R.take k) := ⟨_, rfl⟩
          rw [← hA] at hrow hln Hsn
          have hAb : A.length ≤ 100 := by omega
          have Hrow := Lib.hid hrow
          have HBx := Lib.hid hBx
          have hcr := cap_road (f := r.flow) hh0 hh1
          have hlb := lim_bd r.flow
          clear hr hp hop hsn hA hrow hBx hln hln2
          cases p
          · go_wp2_with (first | (go_at_call 15; (with_reducible refine (K1r.out _ hBw).mono ?_); rintro e1 w4 ⟨rfl, hb4⟩; replace hb4 := Lib.hid hb4) | fail)
            have hb5 := hb4.out
            go_roundw
            case rel => exact ⟨k + 1, by omega, by go_num, by rw [Hsn.out, if_neg (by simp)]; exact row_below Hrow.out hb5, HBx.out.below hb5 hwz, hBw.trans (hb5.mono (by omega))⟩
            case measure => simp [intOf]; omega
          · go_wp2_with (first | (go_at_call 15; (with_reducible refine (K1r.out _ hBw).mono ?_); rintro e1 w4 ⟨rfl, hb4⟩; replace hb4 := Lib.hid hb4) | fail)
            have hb5 := hb4.out
            have hrow4 := row_below Hrow.out hb5
            obtain ⟨o, cw, hwv, _⟩ := ad_of_owns hrow4
            subst hwv
            have ho := fun g (e : o = some g) => hrow4.lt g (by rw [ad_block]; exact e)
            have n1 : some b ≠ o := fun e => by have := (ho b e.symm).1; omega
            have n2 : some w.heap.size ≠ o := fun e => by have := (ho w.heap.size e.symm).1; omega
            have hq1 : IntKind.i64.wrap (lim r.flow * h) = lim r.flow * h := by rw [IntKind.wrap_i64]; omega
            have hz4 := hb5.size
            have y7 : w4.cell? ⟨w.heap.size, 7, none⟩ = some (.slice (some ⟨b, off, none⟩) X.R.length X.c7) := (hb5.cell (p := ⟨w.heap.size, 7, none⟩) hwz).trans x7
            have d1 : w4.cell? ⟨b, off + k * 7 + 1, none⟩ = some (.int .i64 r.frm) := (hb5.cell (p := ⟨b, off + k * 7 + 1, none⟩) hbw).trans c1
            have d2 : w4.cell? ⟨b, off + k * 7 + 2, none⟩ = some (.int .i64 r.to_) := (hb5.cell (p := ⟨b, off + k * 7 + 2, none⟩) hbw).trans c2
            have d4 : w4.cell? ⟨b, off + k * 7 + 4, none⟩ = some (.int .i64 r.flow) := (hb5.cell (p := ⟨b, off + k * 7 + 4, none⟩) hbw).trans c4
            have hwz4 : w.heap.size < w4.heap.size := by omega
            have hbw4 : b < w4.heap.size := by omega
            have Hrow4 := Lib.hid hrow4
            have Ho := Lib.hid ho
            clear x0 x1 x2 x3 x4 x5 x6 x7 x8 x9 x10 c0 c1 c2 c3 c4 c5 c6 hrow4 ho K1r
            refine Plan.wp_region_plan (fun wx => w4.grownBy wx o) 25 [(0, true), (1, true), (2, true), (3, true), (4, true), (5, true), (6, true), (7, true), (8, true), (9, true), (10, true), (11, true), (12, true), (13, true), (14, true), (15, true), (16, true), (17, true), (18, true), (20, true), (19, false), (21, true), (22, true), (23, false), (24, false), (25, false)] (by kernel_rfl) (by kernel_rfl) (Plan.grown_drew _ _) ?_
            (repeat (first | (refine Plan.plan_read (v := ?_) rfl rfl ?_ ?_; rotate_left; (focus ((intro wS hSw; have hkS := Plan.grown_cells hSw; go_simp); try with_reducible rfl)); simp only [Act.put, List.setIfInBounds_toArray, List.set_cons_zero, List.set_cons_succ]) | (refine Plan.plan_skip rfl rfl ?_; simp only [Act.put, List.setIfInBounds_toArray, List.set_cons_zero, List.set_cons_succ])))
            refine Plan.plan_write rfl (fun K hK => ?_)
            go_simp
            go_at_call 32
            (with_reducible refine (K2.out _ _).mono ?_)
            rintro e5 w5 ⟨rfl, rfl⟩
            go_simp
            refine hK.out _ _ (Plan.grown_drew _ _) ?_
            clear hK K
            try simp only [Act.put, List.setIfInBounds_toArray, List.set_cons_zero, List.set_cons_succ]
            (repeat (first | (refine Plan.plan_read (v := ?_) rfl rfl ?_ ?_; rotate_left; (focus ((intro wS hSw; have hkS := Plan.grown_cells hSw; go_simp); try with_reducible rfl)); simp only [Act.put, List.setIfInBounds_toArray, List.set_cons_zero, List.set_cons_succ]) | (refine Plan.plan_skip rfl rfl ?_; simp only [Act.put, List.setIfInBounds_toArray, List.set_cons_zero, List.set_cons_succ])))
            (refine Plan.plan_write rfl (fun K hK => ?_); try go_simp)
            refine hK.out _ _ (Plan.grown_alloc (Plan.grown_drew _ _) _) ?_
            clear hK K
            try simp only [Act.put, List.setIfInBounds_toArray, List.set_cons_zero, List.set_cons_succ]
            refine Plan.plan_write rfl (fun K hK => ?_)
            refine step_append_any _ (by rfl) _ _ 50 (by rfl) (w.heap.size + 1) 66 i2 _ 3 24 Try.underlying50 ci cz0 cz1 cz2 rfl (by omega) _ (X.T.length + A.length) _ (by rfl) ((Hrow4.out.alloc _).drew) (_ + 1) (some ⟨w4.heap.size, 0, none⟩) 1 1 [.int .i64 r.frm, .int .i64 r.to_, .int .i64 (lim r.flow * h)] (by rfl) ⟨rfl, fun _ => ⟨_, rfl, Nat.lt_succ_self _, cells_at (by rfl) _ _⟩⟩ (fun x hx => ?_) (by unfold maxLen; omega) (by omega) (by simp; omega) ?_
            · simp at hx
              rcases hx with rfl | rfl | rfl <;> rfl
            intro v' w6 hO6 hG6 hob6
            rw [ad_block] at hG6
            have hG := Plan.grown_go (Plan.grown_alloc (Plan.grown_drew _ _) _) hG6
            refine hK.out _ _ hG ?_
            clear hK K hob6
            try simp only [Act.put, List.setIfInBounds_toArray, List.set_cons_zero, List.set_cons_succ]
            replace hO6 := Lib.hid hO6
            replace hG := Lib.hid hG
            clear hG6
            (repeat (first | (refine Plan.plan_read (v := ?_) rfl rfl ?_ ?_; rotate_left; (focus ((intro wS hSw; have hkS := Plan.grown_cells hSw; go_simp); try with_reducible rfl)); simp only [Act.put, List.setIfInBounds_toArray, List.set_cons_zero, List.set_cons_succ]) | (refine Plan.plan_skip rfl rfl ?_; simp only [Act.put, List.setIfInBounds_toArray, List.set_cons_zero, List.set_cons_succ])))
            (refine Plan.plan_last rfl (fun K hK => ?_); go_simp; refine hK.out _ _ ?_; clear hK K; try simp only [Act.put, List.setIfInBounds_toArray, List.set_cons_zero, List.set_cons_succ])
            go_wp2_with fail
            go_roundw
            case rel => exact ⟨k + 1, by omega, by go_num, by
              rw [Hsn.out, if_pos (by first | rfl | trivial), List.length_append, List.length_singleton, ← List.append_assoc, arcCells_app]
              exact hO6.out, row_box Hrow4.out (by rw [ad_block]; exact hG.out) (HBx.out.below hb5 hwz), row_bel Hrow4.out (by rw [ad_block]; exact hG.out) (hBw.trans (hb5.mono (by omega))) (by omega)⟩
            case measure => simp [intOf]; omega
        · obtain rfl : X.R.length = k := by omega
          rw [List.take_length] at hrow
          obtain ⟨A, hA⟩ : ∃ A, A = townA N 0 X.T ++ roadA (opB N X.l3 V) h X.R := ⟨_, rfl⟩
          have hAl : A.length = X.T.length + (roadA (opB N X.l3 V) h X.R).length := by rw [hA, List.length_append, townA_len]
          have hAb : A.length ≤ 150 := by have := roadA_len (opB N X.l3 V) h X.R; omega
          rw [← hA, ← hAl] at hrow
          have hrow2 : wr.ownsRow (w.heap.size + 1) 66 3 u8 (A.length + 0) (arcCells (A ++ shA N X.T.length (X.S.take 0))) := by
            have : A ++ shA N X.T.length (X.S.take 0) = A := by simp [shA]
            rw [this]; exact hrow
          have x7 : wr.cell? ⟨w.heap.size, 7, none⟩ = some (.slice a7 X.R.length X.c7) := hBx.cell rfl
          replace hBx := Lib.hid hBx
          replace hrow2 := Lib.hid hrow2
          have HA := Lib.hid hA
          clear hrow hlt hk hA hAl
          go_wp2_with fail
          clear x7
          go_loopw [8, 11] (fun cv kv wr => ∃ k, k ≤ X.S.length ∧ kv = .int .i64 (k : Nat) ∧ wr.ownsRow (w.heap.size + 1) 66 3 cv (A.length + k) (arcCells (A ++ shA N X.T.length (X.S.take k))) ∧ Box wr w.heap.size #[.string X.nm, .slice X.a1 X.l1 X.c1, .int .i64 X.cl, .slice X.a3 X.l3 X.c3, .slice X.a4 X.l4 X.c4, .slice a5 X.T.length X.c5, .slice X.a6 X.l6 X.c6, .slice a7 X.R.length X.c7, .slice a8 X.S.length X.c8, .slice X.a9 X.l9 X.c9, .int .i64 X.er] 31 ∧ Below w.heap.size w wr) (fun _ kv _ => X.S.length - (intOf kv).toNat)
          case atStart => exact ⟨0, Nat.zero_le _, rfl, hrow2.out, hBx.out, hBw⟩
          case round =>
            clear hrow2 hBx hBw hwz
            obtain ⟨k, hk, rfl, hrow, hBx, hBw⟩ := hrel
            have hwz := hBx.lt
            have x8 : wr.cell? ⟨w.heap.size, 8, none⟩ = some (.slice a8 X.S.length X.c8) := hBx.cell rfl
            by_cases hlt : k < X.S.length
            · obtain ⟨t, ht⟩ : ∃ t, X.S[k]? = some t := ⟨_, List.getElem?_eq_getElem hlt⟩
              obtain ⟨b, off, ec, hb, c0, c1⟩ := sh_at (HXs.out.below hBw) ht
              subst ec
              have hbw : b < wr.heap.size := by omega
              have x5 : wr.cell? ⟨w.heap.size, 5, none⟩ = some (.slice a5 X.T.length X.c5) := hBx.cell rfl
              obtain ⟨o, cw, hwv, _⟩ := ad_of_owns hrow
              subst hwv
              have ho := fun g (e : o = some g) => hrow.lt g (by rw [ad_block]; exact e)
              have n1 : some b ≠ o := fun e => by have := (ho b e.symm).1; omega
              have n2 : some w.heap.size ≠ o := fun e => by have := (ho w.heap.size e.symm).1; omega
              have Hsn := Lib.hid (shA_snoc N X.T.length X.S k t ht)
              have hlb := lim_bd t.room
              have hq1 : IntKind.i64.wrap ((X.T.length : Int) + (k : Int)) = (X.T.length : Int) + (k : Int) := by rw [IntKind.wrap_i64]; omega
              obtain ⟨w4, hw4⟩ : ∃ x, x = wr := ⟨_, rfl⟩
              rw [← hw4] at hrow hBx x5 x8 c1 hbw hwz hBw ⊢
              have hrow4 := Lib.hid hrow
              have hBx4 := Lib.hid hBx
              clear ht hrow hBx ho hw4 c0
              go_wp2_with fail
              refine Plan.wp_region_plan (fun wx => w4.grownBy wx o) 18 [(0, true), (1, true), (2, true), (3, true), (4, true), (5, true), (6, true), (7, true), (8, true), (9, true), (10, true), (11, true), (12, true), (13, true), (14, false), (15, true), (16, false), (17, false), (18, false)] (by kernel_rfl) (by kernel_rfl) (Plan.grown_drew _ _) ?_
              (repeat (first | (refine Plan.plan_read (v := ?_) rfl rfl ?_ ?_; rotate_left; (focus ((intro wS hSw; have hkS := Plan.grown_cells hSw; go_simp); try with_reducible rfl)); simp only [Act.put, List.setIfInBounds_toArray, List.set_cons_zero, List.set_cons_succ]) | (refine Plan.plan_skip rfl rfl ?_; simp only [Act.put, List.setIfInBounds_toArray, List.set_cons_zero, List.set_cons_succ])))
              refine Plan.plan_write rfl (fun K hK => ?_)
              go_simp
              go_at_call 32
              (with_reducible refine (K2.out _ _).mono ?_)
              rintro e5 w5 ⟨rfl, rfl⟩
              go_simp
              refine hK.out _ _ (Plan.grown_drew _ _) ?_
              clear hK K
              try simp only [Act.put, List.setIfInBounds_toArray, List.set_cons_zero, List.set_cons_succ]
              (repeat (first | (refine Plan.plan_read (v := ?_) rfl rfl ?_ ?_; rotate_left; (focus ((intro wS hSw; have hkS := Plan.grown_cells hSw; go_simp); try with_reducible rfl)); simp only [Act.put, List.setIfInBounds_toArray, List.set_cons_zero, List.set_cons_succ]) | (refine Plan.plan_skip rfl rfl ?_; simp only [Act.put, List.setIfInBounds_toArray, List.set_cons_zero, List.set_cons_succ])))
              (refine Plan.plan_write rfl (fun K hK => ?_); try go_simp)
              refine hK.out _ _ (Plan.grown_alloc (Plan.grown_drew _ _) _) ?_
              clear hK K
              try simp only [Act.put, List.setIfInBounds_toArray, List.set_cons_zero, List.set_cons_succ]
              refine Plan.plan_write rfl (fun K hK => ?_)
              refine step_append_any _ (by rfl) _ _ 50 (by rfl) (w.heap.size + 1) 66 i2 _ 3 24 Try.underlying50 ci cz0 cz1 cz2 rfl (by omega) _ (A.length + k) _ (by rfl) ((hrow4.out.alloc _).drew) (_ + 1) (some ⟨w4.heap.size, 0, none⟩) 1 1 [.int .i64 ((X.T.length : Int) + (k : Int)), .int .i64 ((N : Int) + 1), .int .i64 (lim t.room)] (by rfl) ⟨rfl, fun _ => ⟨_, rfl, Nat.lt_succ_self _, cells_at (by rfl) _ _⟩⟩ (fun x hx => ?_) (by unfold maxLen; omega) (by omega) (by simp; omega) ?_
              · simp at hx
                rcases hx with rfl | rfl | rfl <;> rfl
              intro v' w6 hO6 hG6 hob6
              rw [ad_block] at hG6
              have hG := Plan.grown_go (Plan.grown_alloc (Plan.grown_drew _ _) _) hG6
              refine hK.out _ _ hG ?_
              clear hK K hob6
              try simp only [Act.put, List.setIfInBounds_toArray, List.set_cons_zero, List.set_cons_succ]
              replace hO6 := Lib.hid hO6
              replace hG := Lib.hid hG
              clear hG6
              (repeat (first | (refine Plan.plan_read (v := ?_) rfl rfl ?_ ?_; rotate_left; (focus ((intro wS hSw; have hkS := Plan.grown_cells hSw; go_simp); try with_reducible rfl)); simp only [Act.put, List.setIfInBounds_toArray, List.set_cons_zero, List.set_cons_succ]) | (refine Plan.plan_skip rfl rfl ?_; simp only [Act.put, List.setIfInBounds_toArray, List.set_cons_zero, List.set_cons_succ])))
              (refine Plan.plan_last rfl (fun K hK => ?_); go_simp; refine hK.out _ _ ?_; clear hK K; try simp only [Act.put, List.setIfInBounds_toArray, List.set_cons_zero, List.set_cons_succ])
              go_wp2_with fail
              go_roundw
              case rel => exact ⟨k + 1, by omega, by go_num, by
                rw [Hsn.out, ← List.append_assoc, arcCells_app]
                exact hO6.out, row_box hrow4.out (by rw [ad_block]; exact hG.out) hBx4.out, row_bel hrow4.out (by rw [ad_block]; exact hG.out) hBw (by omega)⟩
              case measure => simp [intOf]; omega
            · obtain rfl : X.S.length = k := by omega
              rw [List.take_length] at hrow
              have hBe : A ++ shA N X.T.length X.S = roomNet X V hours := by
                rw [HA.out]
                unfold roomNet net
                rw [Hlh.out, ← HNN.out, List.append_assoc]
              have hBl : A.length + X.S.length = (roomNet X V hours).length := by rw [← hBe, List.length_append, shA_len]
              rw [hBe, hBl] at hrow
              obtain ⟨Cc, cc, hcv, hCa⟩ := arcs_of_owns hrow
              subst hcv
              have HCa := Lib.hid hCa
              clear hrow hBe hBl hCa hBx hlt hk
              go_wp2_with fail
              go_ret
              exact ⟨Cc, cc, rfl, HCa.out, hBw⟩
end Go.Proofs.Ytphebdmdbnpokaa
