/- The walk of Rewrite. -/
import Derived.Test.YtmnimcdbfolhaaaSA
import Derived.Test.YtmnimcdbfolhaaaBU
set_option linter.unusedSimpArgs false
set_option linter.unusedVariables false
namespace Go.Proofs.Ytmnimcdbfolhaaa
open Go.RowKit DK
attribute [local go_sem] alloc_drewN setCell_drewN shape_drewN
/-- The plain effect of Rewrite on a log (rows that are not too long). -/
def wrewS (s : St) (f : Int) (R m : List Bts) : Int × St × List Bts :=
  if (open2 s f).1 ≠ 0 then ((open2 s f).1, (open2 s f).2, R) else
  let s2 := (open2 s f).2
  if (DK.append s2 (f + 1) (recs m)).1 ≠ 0 then ((DK.append s2 (f + 1) (recs m)).1, (DK.append s2 (f + 1) (recs m)).2, R) else
  let s3 := (DK.append s2 (f + 1) (recs m)).2
  if (DK.flush s3 (f + 1)).1 ≠ 0 then ((DK.flush s3 (f + 1)).1, (DK.flush s3 (f + 1)).2, R) else
  let s4 := (DK.flush s3 (f + 1)).2
  if (DK.turn s4 f (f + 1)).1 ≠ 0 then ((DK.turn s4 f (f + 1)).1, (DK.turn s4 f (f + 1)).2, R) else (0, (DK.turn s4 f (f + 1)).2, m)
theorem recs_take {m : List Bts} {k : Nat} {x : Bts} (h : m[k]? = some x) : recs (m.take (k + 1)) = recs (m.take k) ++ recd x := by
  rw [List.take_add_one, h]; exact recs_snoc _ _
theorem recs_take_le (m : List Bts) (k : Nat) : (recs (m.take k)).length ≤ (recs m).length := by
  conv => rhs; rw [← List.take_append_drop k m, recs_app, List.length_append]
  omega
theorem bld_below {B b : Nat} {l : Bts} {w w' : World} (h : BldAt B b l w) (hb : Below w.heap.size w w') : BldAt B b l w' := by
  have go : ∀ p, Lib.BuilderAt 85 5 B b p (bytesV l) w → Lib.BuilderAt 85 5 B b p (bytesV l) w' := fun p ⟨h1, v, h2, h3, h4⟩ =>
    ⟨h1, v, (hb.block b (Array.getElem?_eq_some_iff.1 h2).1).trans h2, row_heap h3 fun k e => hb.block k (h3.lt k e).2, h4⟩
  exact h.imp (go _) (go _)
/-- The builder's parts. -/
theorem bld_parts {B b : Nat} {l : Bts} {w : World} (h : BldAt B b l w) : ∃ p v, w.heap[b]? = some (.cells #[p, v] 85 (0, 0)) ∧ w.ownsRow B 5 1 v l.length (bytesV l) := by
  rcases h with ⟨h1, v, h2, h3, h4⟩ | ⟨h1, v, h2, h3, h4⟩
  · rw [bytesV_len] at h3; exact ⟨_, v, h2, h3⟩
  · rw [bytesV_len] at h3; exact ⟨_, v, h2, h3⟩
abbrev smallQ (P : Nat → Prop) (lb : Nat) (o : Option Nat) : Nat → Prop := fun k => P k ∨ k = lb ∨ o = some k
abbrev bigQ (P : Nat → Prop) (lb : Nat) (o : Option Nat) (B E : Nat) : Nat → Prop := fun k => (P k ∨ k = lb ∨ o = some k) ∨ (B ≤ k ∧ k < E)
section
variable {w0 w wr wx ws w5 : World} {b lb : Nat} {f : Int} {P : Nat → Prop} {n : Nat} {s : St} {R m : List Bts} {o o5 : Option Nat} {c c9 : Nat} {v : Value}
theorem wal_big {B E : Nat} (H : HasP w0 b (bigQ P lb o B E) n wx s) (L : LogAt wx b lb f o c R) (hP : ∀ k, P k → k ≠ lb ∧ o ≠ some k) (hb : w0.heap.size ≤ lb) : Wal w0 b lb f P n wx s R :=
  ⟨⟨o, c, L, hP, H.sub fun _ q => .inl q⟩, hb⟩
theorem wal_small (H : HasP w0 b (smallQ P lb o) n wx s) (L : LogAt wx b lb f o c R) (hP : ∀ k, P k → k ≠ lb ∧ o ≠ some k) (hb : w0.heap.size ≤ lb) : Wal w0 b lb f P n wx s R :=
  ⟨⟨o, c, L, hP, H⟩, hb⟩
theorem log_big {B E : Nat} (L : LogAt w b lb f o c R) (k : Keep (bigQ P lb o B E) w wx) : LogAt wx b lb f o c R := L.keep k (.inl (.inr (.inl rfl))) fun _ e => .inl (.inr (.inr e))
theorem log_small (L : LogAt w b lb f o c R) (k : Keep (smallQ P lb o) w wx) : LogAt wx b lb f o c R := L.keep k (.inr (.inl rfl)) fun _ e => .inr (.inr e)
theorem after_string (H : HasP w0 b (bigQ P lb o w.heap.size wr.heap.size) n wx s) (k : Keep (bigQ P lb o w.heap.size wr.heap.size) wr wx) (hbw : Below w.heap.size w wr) (hg : wx.drew.grownBy ws v.ownBlock) (hv : ∀ g, v.ownBlock = some g → w.heap.size ≤ g ∧ g < wr.heap.size)
    (hw : w0.heap.size ≤ w.heap.size) (hlt : ∀ k, smallQ P lb o k → k < w.heap.size) : HasP w0 b (smallQ P lb o) n ws s ∧ Keep (smallQ P lb o) w ws := by
  refine ⟨H.turn_ hg.os hg.tape hg.output hg.size (fun i hi q => hg.block i hi fun e => ?_) fun i q => ⟨.inl (.inl q), Nat.lt_of_lt_of_le (H.lt i (.inl q)) hg.size⟩, ⟨Nat.le_trans hbw.size (Nat.le_trans k.size hg.size), fun i hi q => ?_⟩⟩
  · have h1 := hv i e.symm
    rcases q with q | q
    · exact q (.inr h1)
    · omega
  · have h1 := k.block i (Nat.lt_of_lt_of_le hi hbw.size) (.inl q)
    have h2 := hbw.block i hi
    rw [hg.block i (Nat.lt_of_lt_of_le hi (Nat.le_trans hbw.size k.size)) (fun e => by have := hv i e.symm; omega)]
    exact h1.trans h2
theorem wal_set (H : HasP w0 b (smallQ P lb o) n wx s) (L : LogAt wx b lb f o c R) (hP : ∀ k, P k → k ≠ lb ∧ o ≠ some k) (hb : w0.heap.size ≤ lb) (hb5 : Below wx.heap.size wx w5) (hO : w5.ownsRow wx.heap.size 9 1 (.slice (ad o5) m.length c9) m.length (strV m)) :
    Wal w0 b lb f P n (w5.setCell ⟨lb, 2, none⟩ (.slice (ad o5) m.length c9)) s m ∧ Keep P wx (w5.setCell ⟨lb, 2, none⟩ (.slice (ad o5) m.length c9)) := by
  have hl := L.lt
  exact Wal.wrote H L hP hb (grown_below hb5) (owns_low hO (by omega)) fun k e => .inr (hO.lt k (by rw [ad_block]; exact e)).1
end
section
variable {w0 w w' : World} {b lb : Nat} {f : Int} {P : Nat → Prop} {n : Nat} {s : St} {R m : List Bts}
set_option maxRecDepth 100000 in
set_option maxHeartbeats 2000000 in
theorem wrew_any (h : Wal w0 b lb f P n w s R) (hf : 0 ≤ f ∧ f ≤ 6) (A : Option Addr) (c : Nat) (hA : StrsP P w A m) (hm : Hid (∀ x ∈ m, x.length ≤ 1048576)) (hlen : (recs m).length ≤ 100000000) (hn : n ≤ 999998) {v : Int} {s' : St} {R' : List Bts} (hv : wrewS s f R m = (v, s', R')) :
    Calls Try.prog 18 #[lp lb, .slice A m.length c] w fun e w' => e = .returned (.int .i64 v) ∧ Wal w0 b lb f P (n + 1) w' s' R' ∧ Keep P w w' := by
  have hml := recs_many m
  have hA0 := Lib.hid hA.at_
  obtain ⟨o, c5, hL, hP, H⟩ := h.at_
  obtain ⟨c0, c1, c2, f2⟩ := logO_cells hL.obj
  have hlb := hL.lt
  have hbase := h.base
  unfold lp
  unfold dp at c0
  have hO0 := BldAt.new w
  go_enter Try.func18, Try.ntmps18
  go_wp2_with fail
  go_loop [16] (fun u16 => ∃ k : Nat, k ≤ m.length ∧ u16 = .int .i64 k) (fun u16 => m.length - (intOf u16).toNat)
  case atStart => exact ⟨0, Nat.zero_le _, rfl⟩
  case round =>
    obtain ⟨k, hk, rfl⟩ := hrel
    by_cases hlt : k < m.length
    · have e1 : (k : Int) < (m.length : Int) := by omega
      obtain ⟨x, hx⟩ : ∃ x, m[k]? = some x := ⟨_, List.getElem?_eq_getElem hlt⟩
      obtain ⟨ab, ao, rfl, hab, hac⟩ := hA0.out.at_ hx
      have z1 := bs_size x
      have e2 : ¬ (1048576 : Int) < (x.length : Int) := by have := hm.out x (List.mem_of_getElem? hx); omega
      go_wp2_with fail
      go_round
      case rel => exact ⟨k + 1, by omega, by go_num⟩
      case measure => simp [intOf]; omega
    · have e1 : ¬ (k : Int) < (m.length : Int) := by omega
      go_wp2_with fail
      go_loopw [31] (fun u31 wr => ∃ k : Nat, k ≤ m.length ∧ u31 = .int .i64 k ∧ Hid (Below w.heap.size w wr) ∧ Hid (BldAt w.heap.size w.heap.size (recs (m.take k)) wr)) (fun u31 _ => m.length - (intOf u31).toNat)
      case atStart => exact ⟨0, Nat.zero_le _, rfl, below_new w _, hO0⟩
      case round =>
        obtain ⟨k2, hk2, rfl, hbw, hbl⟩ := hrel
        by_cases hlt2 : k2 < m.length
        · have e3 : (k2 : Int) < (m.length : Int) := by omega
          obtain ⟨x, hx⟩ : ∃ x, m[k2]? = some x := ⟨_, List.getElem?_eq_getElem hlt2⟩
          obtain ⟨ab, ao, rfl, hab, hac0⟩ := hA0.out.at_ hx
          have hac := (hbw.out.cell (p := ⟨ab, ao + k2, none⟩) hab).trans hac0
          have hxl := hm.out x (List.mem_of_getElem? hx)
          have KR := Lib.hid (record_any x wr hxl)
          have hrt := recs_take hx
          have hle := recs_take_le m (k2 + 1)
          rw [hrt, List.length_append] at hle
          have hsz := hbw.out.size
          clear hac0
          go_wp2_with fail
          go_at_call 45
          refine KR.out.mono ?_
          rintro e wa ⟨rfl, hba⟩
          have hbl2 : BldAt w.heap.size w.heap.size (recs (m.take k2)) wa := bld_below hbl.out hba
          have KW := Lib.hid (write_any w.heap.size w.heap.size (recs (m.take k2)) (recd x) wa hbl2 (by omega) (by have := hba.size; omega))
          go_wp2_with fail
          go_at_call 44
          refine KW.out.mono ?_
          rintro e wb ⟨rfl, hbl3, hbb⟩
          rw [← hrt] at hbl3
          go_wp2_with fail
          go_roundw
          case rel => exact ⟨k2 + 1, by omega, by go_num, (hbw.out.trans (hba.mono hsz)).trans hbb, hbl3⟩
          case measure => simp [intOf]; omega
        · have e3 : ¬ (k2 : Int) < (m.length : Int) := by omega
          rw [List.take_of_length_le (show m.length ≤ k2 by omega)] at hbl
          obtain ⟨pb, vb, hbk, hbo⟩ := bld_parts hbl.out
          have hbw1 := hbw.out
          have hw0 := H.below.size
          have hsm : ∀ k, smallQ P lb o k → k < w.heap.size := H.lt
          have HB : HasP w0 b (bigQ P lb o w.heap.size wr.heap.size) n wr s := H.with_ hbw1 (Q := fun k => w.heap.size ≤ k ∧ k < wr.heap.size) (fun _ q => q)
          have LB := hL.below hbw1
          obtain ⟨x0, x1, x2, x3⟩ := logO_cells LB.obj
          unfold dp at x0
          obtain ⟨z, ez⟩ : ∃ z, DK.size s (f + 1) = z := ⟨_, rfl⟩
          have KZ := Lib.hid fun wx (hb : Below _ _ wx) => (HB.below_ hb).size (f + 1) ez
          unfold dp at KZ
          unfold wrewS at hv
          have hw1 : IntKind.i64.wrap (f + 1) = f + 1 := by rw [IntKind.wrap_i64]; omega
          go_upto_region 15 with fail
          refine Plan.wp_region_treeS (fun wx => wx.cell? ⟨lb, 0, none⟩ = some (.pointer (some ⟨b, 0, none⟩)) ∧ wx.cell? ⟨lb, 1, none⟩ = some (.int .i64 f)) (.rd 0 (.rd 1 (.rd 2 (.rd 3 (.rd 4 (.rd 5 (.rd 6 (.rd 7 (.rd 8 (.wr 9 (.rd 10 .done))))))))))) (by kernel_rfl) (by kernel_rfl) ⟨x0, x1⟩ ?_
          (repeat (refine Plan.tree_read (v := ?_) rfl rfl ?_ ?_; rotate_left; (focus ((intro wS hSw; (try dsimp only at hSw); go_simp); try with_reducible rfl)); simp only [Act.put, List.setIfInBounds_toArray, List.set_cons_zero, List.set_cons_succ]))
          (refine Plan.tree_write rfl (fun K hK => ?_); try go_simp)
          go_at_call 21
          refine (KZ.out _ (Below.refl _ _).drew).mono ?_
          rintro e _ ⟨rfl, rfl⟩
          (refine hK.out _ _ (⟨x0, x1⟩) ?_; clear hK K; try simp only [Act.put, List.setIfInBounds_toArray, List.set_cons_zero, List.set_cons_succ])
          (repeat (refine Plan.tree_read (v := ?_) rfl rfl ?_ ?_; rotate_left; (focus ((intro wS hSw; (try dsimp only at hSw); go_simp); try with_reducible rfl)); simp only [Act.put, List.setIfInBounds_toArray, List.set_cons_zero, List.set_cons_succ]))
          refine Plan.tree_done ?_
          clear KZ
          have HB1 := HB.below_ (Below.refl _ _).drew
          have kB : Keep (bigQ P lb o w.heap.size wr.heap.size) wr wr.drew := Keep.of_below (Below.refl _ _).drew
          have y0 : wr.drew.cell? ⟨lb, 0, none⟩ = _ := x0
          have y1 : wr.drew.cell? ⟨lb, 1, none⟩ = _ := x1
          by_cases q2 : 0 < z
          · have q3 : decide (0 < z) = true := decide_eq_true q2
            obtain ⟨v1, s1, e1⟩ : ∃ v s', DK.cut s (f + 1) 0 = (v, s') := ⟨_, _, rfl⟩
            have hO2 : open2 s f = (v1, s1) := by unfold open2; rw [ez, if_pos q2]; exact e1
            have K1 := Lib.hid fun wx (hb : Below _ _ wx) => (HB1.below_ hb).cut (f + 1) 0 (by omega) (v := v1) (s' := s1) (by rw [e1]) (by rw [e1])
            unfold dp at K1
            rw [hO2] at hv
            clear e1 ez hO2
            go_upto_region 16 with fail
            refine Plan.wp_region_treeS (fun wx => wx.cell? ⟨lb, 0, none⟩ = some (.pointer (some ⟨b, 0, none⟩)) ∧ wx.cell? ⟨lb, 1, none⟩ = some (.int .i64 f)) (.rd 0 (.rd 1 (.rd 2 (.rd 3 (.rd 4 (.rd 5 (.rd 6 (.rd 7 (.rd 8 (.wr 9 (.rd 10 .done))))))))))) (by kernel_rfl) (by kernel_rfl) ⟨y0, y1⟩ ?_
            (repeat (refine Plan.tree_read (v := ?_) rfl rfl ?_ ?_; rotate_left; (focus ((intro wS hSw; (try dsimp only at hSw); go_simp); try with_reducible rfl)); simp only [Act.put, List.setIfInBounds_toArray, List.set_cons_zero, List.set_cons_succ]))
            (refine Plan.tree_write rfl (fun K hK => ?_); try go_simp)
            go_at_call 42
            refine (K1.out _ (Below.refl _ _).drew).mono ?_
            rintro e w1 ⟨rfl, H1, k1⟩
            replace k1 := (kB.trans (Keep.of_below (Below.refl _ _).drew)).trans k1
            have L0 := log_big LB k1
            obtain ⟨r0, r1, r2, r3⟩ := logO_cells L0.obj
            unfold dp at r0
            (refine hK.out _ _ (⟨r0, r1⟩) ?_; clear hK K; try simp only [Act.put, List.setIfInBounds_toArray, List.set_cons_zero, List.set_cons_succ])
            (repeat (refine Plan.tree_read (v := ?_) rfl rfl ?_ ?_; rotate_left; (focus ((intro wS hSw; (try dsimp only at hSw); go_simp); try with_reducible rfl)); simp only [Act.put, List.setIfInBounds_toArray, List.set_cons_zero, List.set_cons_succ]))
            refine Plan.tree_done ?_
            clear K1
            by_cases g : v1 = 0
            case neg =>
              rw [if_pos g] at hv
              have g2 : (v1 != 0) = true := by rw [bne_iff_ne]; exact g
              go_wp2_with fail
              go_ret
              injection hv with e1 e2
              injection e2 with e2 e3
              subst e1; subst e2; subst e3
              exact ⟨rfl, wal_big (H1.more (Nat.le_succ _)) L0 hP hbase, ⟨Nat.le_trans hbw1.size k1.size, fun i hi q => (k1.block i (Nat.lt_of_lt_of_le hi hbw1.size) (.inl (.inl q))).trans (hbw1.block i hi)⟩⟩
            subst g
            rw [if_neg (by simp)] at hv
            try dsimp only at hv
            have L1 := log_big LB k1
            obtain ⟨m0, m1, m2, m3⟩ := logO_cells L1.obj
            unfold dp at m0
            have hbk2 := (k1.block w.heap.size (Array.getElem?_eq_some_iff.1 hbk).1 (.inr ⟨Nat.le_refl _, (Array.getElem?_eq_some_iff.1 hbk).1⟩)).trans hbk
            have hbo2 := row_heap hbo fun g e => k1.block g (hbo.lt g e).2 (.inr (hbo.lt g e))
            have KS := Lib.hid fun wx (h1 : wx.heap[w.heap.size]? = _) h2 => string_any w.heap.size w.heap.size (recs m) pb vb wx h1 h2
            obtain ⟨v2, s2, e2⟩ : ∃ v s', DK.append s1 (f + 1) (recs m) = (v, s') := ⟨_, _, rfl⟩
            have K2 := Lib.hid fun wx (H : HasP w0 b (smallQ P lb o) n wx s1) => H.append (f + 1) (recs m) (by omega) (by omega) (v := v2) (s' := s2) (by rw [e2]) (by rw [e2])
            unfold dp at K2
            rw [e2] at hv
            clear e2
            go_upto_region 19 with fail
            refine Plan.wp_region_treeS (fun wx => wx.cell? ⟨lb, 0, none⟩ = some (.pointer (some ⟨b, 0, none⟩)) ∧ wx.cell? ⟨lb, 1, none⟩ = some (.int .i64 f)) (.rd 0 (.rd 1 (.rd 2 (.rd 3 (.rd 4 (.rd 5 (.rd 6 (.rd 7 (.rd 8 (.wr 9 (.wr 10 (.rd 11 .done)))))))))))) (by kernel_rfl) (by kernel_rfl) ⟨m0, m1⟩ ?_
            (repeat (refine Plan.tree_read (v := ?_) rfl rfl ?_ ?_; rotate_left; (focus ((intro wS hSw; (try dsimp only at hSw); go_simp); try with_reducible rfl)); simp only [Act.put, List.setIfInBounds_toArray, List.set_cons_zero, List.set_cons_succ]))
            (refine Plan.tree_write rfl (fun K hK => ?_); try go_simp)
            go_at_call 46
            refine (KS.out w1.drew hbk2 hbo2).mono ?_
            rintro e ws ⟨rfl, hgs⟩
            obtain ⟨HS, kS⟩ := after_string H1 k1 hbw1 hgs hbo.lt hw0 hsm
            have LS := log_small hL kS
            obtain ⟨n0, n1, n2, n3⟩ := logO_cells LS.obj
            unfold dp at n0
            (refine hK.out _ _ (⟨n0, n1⟩) ?_; clear hK K; try simp only [Act.put, List.setIfInBounds_toArray, List.set_cons_zero, List.set_cons_succ])
            (repeat (refine Plan.tree_read (v := ?_) rfl rfl ?_ ?_; rotate_left; (focus ((intro wS hSw; (try dsimp only at hSw); go_simp); try with_reducible rfl)); simp only [Act.put, List.setIfInBounds_toArray, List.set_cons_zero, List.set_cons_succ]))
            (refine Plan.tree_write rfl (fun K hK => ?_); try go_simp)
            go_at_call 16
            refine (K2.out _ HS).mono ?_
            rintro e w2 ⟨rfl, H2, k2⟩
            replace k2 := kS.trans k2
            have L2 := log_small hL k2
            obtain ⟨o0, o1, o2, o3⟩ := logO_cells L2.obj
            unfold dp at o0
            (refine hK.out _ _ (⟨o0, o1⟩) ?_; clear hK K; try simp only [Act.put, List.setIfInBounds_toArray, List.set_cons_zero, List.set_cons_succ])
            (repeat (refine Plan.tree_read (v := ?_) rfl rfl ?_ ?_; rotate_left; (focus ((intro wS hSw; (try dsimp only at hSw); go_simp); try with_reducible rfl)); simp only [Act.put, List.setIfInBounds_toArray, List.set_cons_zero, List.set_cons_succ]))
            refine Plan.tree_done ?_
            clear K2 KS hbk2 hbo2
            by_cases g : v2 = 0
            case neg =>
              rw [if_pos g] at hv
              have g2 : (v2 != 0) = true := by rw [bne_iff_ne]; exact g
              go_wp2_with fail
              go_ret
              injection hv with e1 e2
              injection e2 with e2 e3
              subst e1; subst e2; subst e3
              exact ⟨rfl, wal_small H2 L2 hP hbase, k2.sub fun k q => .inl q⟩
            subst g
            rw [if_neg (by simp)] at hv
            try dsimp only at hv
            obtain ⟨v3, s3, e3⟩ : ∃ v s', DK.flush s2 (f + 1) = (v, s') := ⟨_, _, rfl⟩
            have K3 := Lib.hid fun wx (hb : Below _ _ wx) => (H2.below_ hb).flush (f + 1) (by omega) (v := v3) (s' := s3) (by rw [e3]) (by rw [e3])
            unfold dp at K3
            rw [e3] at hv
            clear e3
            go_upto_region 22 with fail
            refine Plan.wp_region_treeS (fun wx => wx.cell? ⟨lb, 0, none⟩ = some (.pointer (some ⟨b, 0, none⟩)) ∧ wx.cell? ⟨lb, 1, none⟩ = some (.int .i64 f)) (.rd 0 (.rd 1 (.rd 2 (.rd 3 (.rd 4 (.rd 5 (.rd 6 (.rd 7 (.rd 8 (.wr 9 (.rd 10 .done))))))))))) (by kernel_rfl) (by kernel_rfl) ⟨o0, o1⟩ ?_
            (repeat (refine Plan.tree_read (v := ?_) rfl rfl ?_ ?_; rotate_left; (focus ((intro wS hSw; (try dsimp only at hSw); go_simp); try with_reducible rfl)); simp only [Act.put, List.setIfInBounds_toArray, List.set_cons_zero, List.set_cons_succ]))
            (refine Plan.tree_write rfl (fun K hK => ?_); try go_simp)
            go_at_call 43
            refine (K3.out _ (Below.refl _ _).drew).mono ?_
            rintro e w3 ⟨rfl, H3, k3⟩
            replace k3 := (k2.trans (Keep.of_below (Below.refl _ _).drew)).trans k3
            have L3 := log_small hL k3
            obtain ⟨p0, p1, p2, p3⟩ := logO_cells L3.obj
            unfold dp at p0
            (refine hK.out _ _ (⟨p0, p1⟩) ?_; clear hK K; try simp only [Act.put, List.setIfInBounds_toArray, List.set_cons_zero, List.set_cons_succ])
            (repeat (refine Plan.tree_read (v := ?_) rfl rfl ?_ ?_; rotate_left; (focus ((intro wS hSw; (try dsimp only at hSw); go_simp); try with_reducible rfl)); simp only [Act.put, List.setIfInBounds_toArray, List.set_cons_zero, List.set_cons_succ]))
            refine Plan.tree_done ?_
            clear K3
            by_cases g : v3 = 0
            case neg =>
              rw [if_pos g] at hv
              have g2 : (v3 != 0) = true := by rw [bne_iff_ne]; exact g
              go_wp2_with fail
              go_ret
              injection hv with e1 e2
              injection e2 with e2 e3
              subst e1; subst e2; subst e3
              exact ⟨rfl, wal_small H3 L3 hP hbase, k3.sub fun k q => .inl q⟩
            subst g
            rw [if_neg (by simp)] at hv
            try dsimp only at hv
            obtain ⟨v4, s4, e4⟩ : ∃ v s', DK.turn s3 f (f + 1) = (v, s') := ⟨_, _, rfl⟩
            have K4 := Lib.hid fun wx (hb : Below _ _ wx) => (H3.below_ hb).turn f (f + 1) (by omega) (v := v4) (s' := s4) (by rw [e4]) (by rw [e4])
            unfold dp at K4
            rw [e4] at hv
            clear e4
            go_upto_region 25 with fail
            refine Plan.wp_region_treeS (fun wx => wx.cell? ⟨lb, 0, none⟩ = some (.pointer (some ⟨b, 0, none⟩)) ∧ wx.cell? ⟨lb, 1, none⟩ = some (.int .i64 f)) (.rd 0 (.rd 1 (.rd 2 (.rd 3 (.rd 4 (.rd 5 (.rd 6 (.rd 7 (.rd 8 (.rd 9 (.rd 10 (.rd 11 (.rd 12 (.wr 13 (.rd 14 .done))))))))))))))) (by kernel_rfl) (by kernel_rfl) ⟨p0, p1⟩ ?_
            (repeat (refine Plan.tree_read (v := ?_) rfl rfl ?_ ?_; rotate_left; (focus ((intro wS hSw; (try dsimp only at hSw); go_simp); try with_reducible rfl)); simp only [Act.put, List.setIfInBounds_toArray, List.set_cons_zero, List.set_cons_succ]))
            (refine Plan.tree_write rfl (fun K hK => ?_); try go_simp)
            go_at_call 47
            refine (K4.out _ (Below.refl _ _).drew).mono ?_
            rintro e w4 ⟨rfl, H4, k4⟩
            replace k4 := (k3.trans (Keep.of_below (Below.refl _ _).drew)).trans k4
            have L4 := log_small hL k4
            obtain ⟨q0, q1, q2, q3⟩ := logO_cells L4.obj
            unfold dp at q0
            (refine hK.out _ _ (⟨q0, q1⟩) ?_; clear hK K; try simp only [Act.put, List.setIfInBounds_toArray, List.set_cons_zero, List.set_cons_succ])
            (repeat (refine Plan.tree_read (v := ?_) rfl rfl ?_ ?_; rotate_left; (focus ((intro wS hSw; (try dsimp only at hSw); go_simp); try with_reducible rfl)); simp only [Act.put, List.setIfInBounds_toArray, List.set_cons_zero, List.set_cons_succ]))
            refine Plan.tree_done ?_
            clear K4
            by_cases g : v4 = 0
            case neg =>
              rw [if_pos g] at hv
              have g2 : (v4 != 0) = true := by rw [bne_iff_ne]; exact g
              go_wp2_with fail
              go_ret
              injection hv with e1 e2
              injection e2 with e2 e3
              subst e1; subst e2; subst e3
              exact ⟨rfl, wal_small H4 L4 hP hbase, k4.sub fun k q => .inl q⟩
            subst g
            rw [if_neg (by simp)] at hv
            try dsimp only at hv
            have KC := Lib.hid (clone_strs A c m w4 ((hA.keep (k4.sub fun k q => .inl q)).at_) (by omega))
            have hlb4 := L4.lt
            go_wp2_with (first | (go_at_call 48; refine KC.out.mono ?_; rintro e w5 ⟨hb5, o5, c9, rfl, hO5⟩; have y2 := (hb5.cell (p := ⟨lb, 2, none⟩) hlb4).trans q2; have y3 := (World.frozen?_of_block (a := ⟨lb, 2, none⟩) (hb5.block lb hlb4)).trans q3) | fail)
            go_ret
            obtain ⟨r1, r2⟩ := wal_set H4 L4 hP hbase hb5 hO5
            injection hv with e1 e2
            injection e2 with e2 e3
            subst e1; subst e2; subst e3
            exact ⟨rfl, r1, (k4.sub fun k q => .inl q).trans r2⟩
          · have q3 : decide (0 < z) = false := decide_eq_false q2
            have hO2 : open2 s f = (0, s) := by unfold open2; rw [ez, if_neg q2]
            rw [hO2, if_neg (by simp)] at hv
            try dsimp only at hv
            clear ez hO2
            have L1 := log_big LB kB
            obtain ⟨m0, m1, m2, m3⟩ := logO_cells L1.obj
            unfold dp at m0
            have hbk2 := (kB.block w.heap.size (Array.getElem?_eq_some_iff.1 hbk).1 (.inr ⟨Nat.le_refl _, (Array.getElem?_eq_some_iff.1 hbk).1⟩)).trans hbk
            have hbo2 := row_heap hbo fun g e => kB.block g (hbo.lt g e).2 (.inr (hbo.lt g e))
            have KS := Lib.hid fun wx (h1 : wx.heap[w.heap.size]? = _) h2 => string_any w.heap.size w.heap.size (recs m) pb vb wx h1 h2
            obtain ⟨v2, s2, e2⟩ : ∃ v s', DK.append s (f + 1) (recs m) = (v, s') := ⟨_, _, rfl⟩
            have K2 := Lib.hid fun wx (H : HasP w0 b (smallQ P lb o) n wx s) => H.append (f + 1) (recs m) (by omega) (by omega) (v := v2) (s' := s2) (by rw [e2]) (by rw [e2])
            unfold dp at K2
            rw [e2] at hv
            clear e2
            go_upto_region 19 with fail
            refine Plan.wp_region_treeS (fun wx => wx.cell? ⟨lb, 0, none⟩ = some (.pointer (some ⟨b, 0, none⟩)) ∧ wx.cell? ⟨lb, 1, none⟩ = some (.int .i64 f)) (.rd 0 (.rd 1 (.rd 2 (.rd 3 (.rd 4 (.rd 5 (.rd 6 (.rd 7 (.rd 8 (.wr 9 (.wr 10 (.rd 11 .done)))))))))))) (by kernel_rfl) (by kernel_rfl) ⟨m0, m1⟩ ?_
            (repeat (refine Plan.tree_read (v := ?_) rfl rfl ?_ ?_; rotate_left; (focus ((intro wS hSw; (try dsimp only at hSw); go_simp); try with_reducible rfl)); simp only [Act.put, List.setIfInBounds_toArray, List.set_cons_zero, List.set_cons_succ]))
            (refine Plan.tree_write rfl (fun K hK => ?_); try go_simp)
            go_at_call 46
            refine (KS.out wr.drew.drew hbk2 hbo2).mono ?_
            rintro e ws ⟨rfl, hgs⟩
            obtain ⟨HS, kS⟩ := after_string HB1 kB hbw1 hgs hbo.lt hw0 hsm
            have LS := log_small hL kS
            obtain ⟨n0, n1, n2, n3⟩ := logO_cells LS.obj
            unfold dp at n0
            (refine hK.out _ _ (⟨n0, n1⟩) ?_; clear hK K; try simp only [Act.put, List.setIfInBounds_toArray, List.set_cons_zero, List.set_cons_succ])
            (repeat (refine Plan.tree_read (v := ?_) rfl rfl ?_ ?_; rotate_left; (focus ((intro wS hSw; (try dsimp only at hSw); go_simp); try with_reducible rfl)); simp only [Act.put, List.setIfInBounds_toArray, List.set_cons_zero, List.set_cons_succ]))
            (refine Plan.tree_write rfl (fun K hK => ?_); try go_simp)
            go_at_call 16
            refine (K2.out _ HS).mono ?_
            rintro e w2 ⟨rfl, H2, k2⟩
            replace k2 := kS.trans k2
            have L2 := log_small hL k2
            obtain ⟨o0, o1, o2, o3⟩ := logO_cells L2.obj
            unfold dp at o0
            (refine hK.out _ _ (⟨o0, o1⟩) ?_; clear hK K; try simp only [Act.put, List.setIfInBounds_toArray, List.set_cons_zero, List.set_cons_succ])
            (repeat (refine Plan.tree_read (v := ?_) rfl rfl ?_ ?_; rotate_left; (focus ((intro wS hSw; (try dsimp only at hSw); go_simp); try with_reducible rfl)); simp only [Act.put, List.setIfInBounds_toArray, List.set_cons_zero, List.set_cons_succ]))
            refine Plan.tree_done ?_
            clear K2 KS hbk2 hbo2
            by_cases g : v2 = 0
            case neg =>
              rw [if_pos g] at hv
              have g2 : (v2 != 0) = true := by rw [bne_iff_ne]; exact g
              go_wp2_with fail
              go_ret
              injection hv with e1 e2
              injection e2 with e2 e3
              subst e1; subst e2; subst e3
              exact ⟨rfl, wal_small H2 L2 hP hbase, k2.sub fun k q => .inl q⟩
            subst g
            rw [if_neg (by simp)] at hv
            try dsimp only at hv
            obtain ⟨v3, s3, e3⟩ : ∃ v s', DK.flush s2 (f + 1) = (v, s') := ⟨_, _, rfl⟩
            have K3 := Lib.hid fun wx (hb : Below _ _ wx) => (H2.below_ hb).flush (f + 1) (by omega) (v := v3) (s' := s3) (by rw [e3]) (by rw [e3])
            unfold dp at K3
            rw [e3] at hv
            clear e3
            go_upto_region 22 with fail
            refine Plan.wp_region_treeS (fun wx => wx.cell? ⟨lb, 0, none⟩ = some (.pointer (some ⟨b, 0, none⟩)) ∧ wx.cell? ⟨lb, 1, none⟩ = some (.int .i64 f)) (.rd 0 (.rd 1 (.rd 2 (.rd 3 (.rd 4 (.rd 5 (.rd 6 (.rd 7 (.rd 8 (.wr 9 (.rd 10 .done))))))))))) (by kernel_rfl) (by kernel_rfl) ⟨o0, o1⟩ ?_
            (repeat (refine Plan.tree_read (v := ?_) rfl rfl ?_ ?_; rotate_left; (focus ((intro wS hSw; (try dsimp only at hSw); go_simp); try with_reducible rfl)); simp only [Act.put, List.setIfInBounds_toArray, List.set_cons_zero, List.set_cons_succ]))
            (refine Plan.tree_write rfl (fun K hK => ?_); try go_simp)
            go_at_call 43
            refine (K3.out _ (Below.refl _ _).drew).mono ?_
            rintro e w3 ⟨rfl, H3, k3⟩
            replace k3 := (k2.trans (Keep.of_below (Below.refl _ _).drew)).trans k3
            have L3 := log_small hL k3
            obtain ⟨p0, p1, p2, p3⟩ := logO_cells L3.obj
            unfold dp at p0
            (refine hK.out _ _ (⟨p0, p1⟩) ?_; clear hK K; try simp only [Act.put, List.setIfInBounds_toArray, List.set_cons_zero, List.set_cons_succ])
            (repeat (refine Plan.tree_read (v := ?_) rfl rfl ?_ ?_; rotate_left; (focus ((intro wS hSw; (try dsimp only at hSw); go_simp); try with_reducible rfl)); simp only [Act.put, List.setIfInBounds_toArray, List.set_cons_zero, List.set_cons_succ]))
            refine Plan.tree_done ?_
            clear K3
            by_cases g : v3 = 0
            case neg =>
              rw [if_pos g] at hv
              have g2 : (v3 != 0) = true := by rw [bne_iff_ne]; exact g
              go_wp2_with fail
              go_ret
              injection hv with e1 e2
              injection e2 with e2 e3
              subst e1; subst e2; subst e3
              exact ⟨rfl, wal_small H3 L3 hP hbase, k3.sub fun k q => .inl q⟩
            subst g
            rw [if_neg (by simp)] at hv
            try dsimp only at hv
            obtain ⟨v4, s4, e4⟩ : ∃ v s', DK.turn s3 f (f + 1) = (v, s') := ⟨_, _, rfl⟩
            have K4 := Lib.hid fun wx (hb : Below _ _ wx) => (H3.below_ hb).turn f (f + 1) (by omega) (v := v4) (s' := s4) (by rw [e4]) (by rw [e4])
            unfold dp at K4
            rw [e4] at hv
            clear e4
            go_upto_region 25 with fail
            refine Plan.wp_region_treeS (fun wx => wx.cell? ⟨lb, 0, none⟩ = some (.pointer (some ⟨b, 0, none⟩)) ∧ wx.cell? ⟨lb, 1, none⟩ = some (.int .i64 f)) (.rd 0 (.rd 1 (.rd 2 (.rd 3 (.rd 4 (.rd 5 (.rd 6 (.rd 7 (.rd 8 (.rd 9 (.rd 10 (.rd 11 (.rd 12 (.wr 13 (.rd 14 .done))))))))))))))) (by kernel_rfl) (by kernel_rfl) ⟨p0, p1⟩ ?_
            (repeat (refine Plan.tree_read (v := ?_) rfl rfl ?_ ?_; rotate_left; (focus ((intro wS hSw; (try dsimp only at hSw); go_simp); try with_reducible rfl)); simp only [Act.put, List.setIfInBounds_toArray, List.set_cons_zero, List.set_cons_succ]))
            (refine Plan.tree_write rfl (fun K hK => ?_); try go_simp)
            go_at_call 47
            refine (K4.out _ (Below.refl _ _).drew).mono ?_
            rintro e w4 ⟨rfl, H4, k4⟩
            replace k4 := (k3.trans (Keep.of_below (Below.refl _ _).drew)).trans k4
            have L4 := log_small hL k4
            obtain ⟨q0, q1, q2, q3⟩ := logO_cells L4.obj
            unfold dp at q0
            (refine hK.out _ _ (⟨q0, q1⟩) ?_; clear hK K; try simp only [Act.put, List.setIfInBounds_toArray, List.set_cons_zero, List.set_cons_succ])
            (repeat (refine Plan.tree_read (v := ?_) rfl rfl ?_ ?_; rotate_left; (focus ((intro wS hSw; (try dsimp only at hSw); go_simp); try with_reducible rfl)); simp only [Act.put, List.setIfInBounds_toArray, List.set_cons_zero, List.set_cons_succ]))
            refine Plan.tree_done ?_
            clear K4
            by_cases g : v4 = 0
            case neg =>
              rw [if_pos g] at hv
              have g2 : (v4 != 0) = true := by rw [bne_iff_ne]; exact g
              go_wp2_with fail
              go_ret
              injection hv with e1 e2
              injection e2 with e2 e3
              subst e1; subst e2; subst e3
              exact ⟨rfl, wal_small H4 L4 hP hbase, k4.sub fun k q => .inl q⟩
            subst g
            rw [if_neg (by simp)] at hv
            try dsimp only at hv
            have KC := Lib.hid (clone_strs A c m w4 ((hA.keep (k4.sub fun k q => .inl q)).at_) (by omega))
            have hlb4 := L4.lt
            go_wp2_with (first | (go_at_call 48; refine KC.out.mono ?_; rintro e w5 ⟨hb5, o5, c9, rfl, hO5⟩; have y2 := (hb5.cell (p := ⟨lb, 2, none⟩) hlb4).trans q2; have y3 := (World.frozen?_of_block (a := ⟨lb, 2, none⟩) (hb5.block lb hlb4)).trans q3) | fail)
            go_ret
            obtain ⟨r1, r2⟩ := wal_set H4 L4 hP hbase hb5 hO5
            injection hv with e1 e2
            injection e2 with e2 e3
            subst e1; subst e2; subst e3
            exact ⟨rfl, r1, (k4.sub fun k q => .inl q).trans r2⟩
end
end Go.Proofs.Ytmnimcdbfolhaaa
