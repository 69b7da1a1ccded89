/- The walk of departure. -/
import Derived.Test.YtphebdmdbnpokaaR1
set_option linter.unusedSimpArgs false
set_option linter.unusedVariables false
namespace Go.Proofs.Ytphebdmdbnpokaa
open Go.RowKit RD
attribute [local go_sem] alloc_drewN setCell_drewN shape_drewN

/-- What departure answers. -/
def DepIs (VS : Vs) (r : Rd) (a : Nat) (w : World) (e : Ending) (w' : World) : Prop := Below w.heap.size w w' ∧
  ((∃ s : Nat, IsLeave VS r a s ∧ e = .returned (.tuple #[.int .i64 s, .bool true])) ∨ ((∀ t, a ≤ t → ¬ poss VS r t) ∧ e = .returned (.tuple #[.int .i64 0, .bool false])))
set_option maxHeartbeats 4000000 in
theorem departure_any (r : Rd) (C : Option Addr) (c : Nat) (L : List Vl) (a : Nat) (w : World) (hV : VlsAt w w.heap.size C L) (hl : L.length ≤ 1000000) (ha : a ≤ 1000000000000) (h1 : 1 ≤ r.hours) (h2 : r.hours ≤ 24) (h3 : -1 ≤ r.by_) :
    Calls Try.prog 23 #[.agg #[.string r.nm, .int .i64 r.frm, .int .i64 r.to_, .int .i64 r.hours, .int .i64 r.flow, .int .i64 r.by_, .int .i64 r.limit], .slice C L.length c, .int .i64 a] w (DepIs (vsOf L) r a w) := by
  obtain ⟨M, hM⟩ : ∃ M, M = max a (L.length - 1) := ⟨_, rfl⟩
  have m1 : max (a : Int) ((L.length : Int) - 1) = (M : Int) := by omega
  have m2 : (if (a : Int) < (L.length : Int) - 1 then (L.length : Int) - 1 else (a : Int)) = (M : Int) := by split <;> omega
  have m3 : M ≤ 1000000000000 := by omega
  have m4 : a ≤ M := by omega
  have HM := Lib.hid hM
  have hlv : Hid ((vsOf L).length = L.length) := vsOf_len L
  clear hM
  have K1 := Lib.hid (fun (t : Nat) (wx : World) (h : Below w.heap.size w wx) (ht : t ≤ 9223372036854775807) => volumes_any C c L t wx (B := w.heap.size) (hV.below h) (by omega) ht)
  have K2 := Lib.hid (fun (C : Option Addr) (c : Nat) (V : List Int) (wx : World) (hV : IntsAt wx wx.heap.size C V) (hl : V.length ≤ 9223372036854775807) => passable_any r C c V wx hV hl h3)
  have hB0 : Below w.heap.size w (w.alloc (.cells (roadC r).toArray 56)) := (Below.refl _ _).alloc (Nat.le_refl _) _
  have hX0 := Box.new w (roadC r).toArray 56
  have HV := Lib.hid hV
  clear hV
  go_enter Try.func23, Try.ntmps23
  go_wp2_with fail
  go_loopw [9, 10] (fun s t wr => ∃ s0 t0 : Nat, s = .int .i64 s0 ∧ t = .int .i64 t0 ∧ Dep (vsOf L) r a s0 t0 ∧ s0 ≤ M ∧ t0 ≤ M + 24 ∧ Below w.heap.size w wr ∧ Box wr w.heap.size (roadC r).toArray 56) (fun _ t _ => M + 25 - (intOf t).toNat)
  case atStart => exact ⟨a, a, rfl, rfl, .begin, m4, by omega, hB0, hX0⟩
  case round =>
    obtain ⟨s0, t0, rfl, rfl, hD, hs, ht, hBw, hX⟩ := hrel
    obtain ⟨x0, x1, x2, x3, x4, x5, x6⟩ := hX.road
    have hxl := hX.lt
    have hle := hD.le
    by_cases hlt : (t0 : Int) < (s0 : Int) + r.hours
    case neg =>
      have HD := Lib.hid hD
      clear hD
      go_wp2_with fail
      go_ret2
      exact ⟨hBw, .inl ⟨s0, HD.out.done (by omega), rfl⟩⟩
    obtain ⟨V, hV⟩ : ∃ V, V = volsAt (vsOf L) t0 := ⟨_, rfl⟩
    have HVv := Lib.hid hV
    clear hV
    have hwz : w.heap.size ≤ wr.heap.size := by omega
    obtain ⟨p, hp⟩ : ∃ p, passB r V = p := ⟨_, rfl⟩
    have Hp := Lib.hid hp
    clear hp
    have HD := Lib.hid hD
    have HX := Lib.hid hX
    clear hD hX hX0 hB0
    cases p
    · by_cases hMt : M ≤ t0
      · go_wp2_with fail
        refine Plan.wp_region_below 4 [(0, true), (1, true), (2, true), (3, false), (4, false)] (by kernel_rfl) (by kernel_rfl) ?_
        (repeat (first | (refine Plan.plan_read (v := ?_) rfl rfl ?_ ?_; rotate_left; (focus ((intro wS hSw; have hkS := (bcell hSw).1; try (have hkT := fun (b o : Nat) (h : b < w.heap.size) => hkS b o (by first | omega | (simp; omega) | (simp; done))); go_simp); try with_reducible rfl)); simp only [Act.put, List.setIfInBounds_toArray, List.set_cons_zero, List.set_cons_succ]) | (refine Plan.plan_skip rfl rfl ?_; simp only [Act.put, List.setIfInBounds_toArray, List.set_cons_zero, List.set_cons_succ])))
        refine Plan.plan_write rfl (fun K hK => ?_)
        go_simp
        go_at_call 39
        (with_reducible refine (K1.out t0 _ (hBw.drew) (by omega)).mono ?_)
        rintro e1 w1 ⟨C1, c1, rfl, hI1, hL1, rfl⟩
        rw [← HVv.out] at hI1 hL1 ⊢
        have hI2 : IntsAt wr.drew wr.drew.heap.size C1 V := CellsAt.more hI1 hwz
        go_simp
        refine hK.out _ _ ((Below.refl _ _).drew) ?_
        clear hK K
        try simp only [Act.put, List.setIfInBounds_toArray, List.set_cons_zero, List.set_cons_succ]
        (repeat (first | (refine Plan.plan_read (v := ?_) rfl rfl ?_ ?_; rotate_left; (focus ((intro wS hSw; have hkS := (bcell hSw).1; try (have hkT := fun (b o : Nat) (h : b < w.heap.size) => hkS b o (by first | omega | (simp; omega) | (simp; done))); go_simp); try with_reducible rfl)); simp only [Act.put, List.setIfInBounds_toArray, List.set_cons_zero, List.set_cons_succ]) | (refine Plan.plan_skip rfl rfl ?_; simp only [Act.put, List.setIfInBounds_toArray, List.set_cons_zero, List.set_cons_succ])))
        refine Plan.plan_last rfl (fun K hK => ?_)
        go_simp
        go_at_call 29
        (with_reducible refine (K2.out C1 c1 V _ hI2 hL1).mono ?_)
        rintro e2 w2 ⟨rfl, hb2⟩
        rw [Hp.out]
        have hb3 : Below wr.heap.size wr w2 := (Below.refl _ _).drew.trans hb2
        have hBw2 := hBw.trans (hb3.mono (by omega))
        have hX2 := HX.out.below hb3 hxl
        obtain ⟨y0, y1, y2, y3, y4, y5, y6⟩ := hX2.road
        have HX2 := Lib.hid hX2
        clear hX2 hb2
        refine hK.out _ _ ?_
        clear hK K
        try simp only [Act.put, List.setIfInBounds_toArray, List.set_cons_zero, List.set_cons_succ]
        clear x0 x1 x2 x3 x4 x5 x6
        go_wp2_with fail
        go_ret2
        exact ⟨hBw2, .inr ⟨HD.out.never h1 (by rw [← HVv.out]; exact Hp.out) (by omega) (by have := HM.out; rw [hlv.out]; omega), rfl⟩⟩
      · go_wp2_with fail
        refine Plan.wp_region_below 4 [(0, true), (1, true), (2, true), (3, false), (4, false)] (by kernel_rfl) (by kernel_rfl) ?_
        (repeat (first | (refine Plan.plan_read (v := ?_) rfl rfl ?_ ?_; rotate_left; (focus ((intro wS hSw; have hkS := (bcell hSw).1; try (have hkT := fun (b o : Nat) (h : b < w.heap.size) => hkS b o (by first | omega | (simp; omega) | (simp; done))); go_simp); try with_reducible rfl)); simp only [Act.put, List.setIfInBounds_toArray, List.set_cons_zero, List.set_cons_succ]) | (refine Plan.plan_skip rfl rfl ?_; simp only [Act.put, List.setIfInBounds_toArray, List.set_cons_zero, List.set_cons_succ])))
        refine Plan.plan_write rfl (fun K hK => ?_)
        go_simp
        go_at_call 39
        (with_reducible refine (K1.out t0 _ (hBw.drew) (by omega)).mono ?_)
        rintro e1 w1 ⟨C1, c1, rfl, hI1, hL1, rfl⟩
        rw [← HVv.out] at hI1 hL1 ⊢
        have hI2 : IntsAt wr.drew wr.drew.heap.size C1 V := CellsAt.more hI1 hwz
        go_simp
        refine hK.out _ _ ((Below.refl _ _).drew) ?_
        clear hK K
        try simp only [Act.put, List.setIfInBounds_toArray, List.set_cons_zero, List.set_cons_succ]
        (repeat (first | (refine Plan.plan_read (v := ?_) rfl rfl ?_ ?_; rotate_left; (focus ((intro wS hSw; have hkS := (bcell hSw).1; try (have hkT := fun (b o : Nat) (h : b < w.heap.size) => hkS b o (by first | omega | (simp; omega) | (simp; done))); go_simp); try with_reducible rfl)); simp only [Act.put, List.setIfInBounds_toArray, List.set_cons_zero, List.set_cons_succ]) | (refine Plan.plan_skip rfl rfl ?_; simp only [Act.put, List.setIfInBounds_toArray, List.set_cons_zero, List.set_cons_succ])))
        refine Plan.plan_last rfl (fun K hK => ?_)
        go_simp
        go_at_call 29
        (with_reducible refine (K2.out C1 c1 V _ hI2 hL1).mono ?_)
        rintro e2 w2 ⟨rfl, hb2⟩
        rw [Hp.out]
        have hb3 : Below wr.heap.size wr w2 := (Below.refl _ _).drew.trans hb2
        have hBw2 := hBw.trans (hb3.mono (by omega))
        have hX2 := HX.out.below hb3 hxl
        obtain ⟨y0, y1, y2, y3, y4, y5, y6⟩ := hX2.road
        have HX2 := Lib.hid hX2
        clear hX2 hb2
        refine hK.out _ _ ?_
        clear hK K
        try simp only [Act.put, List.setIfInBounds_toArray, List.set_cons_zero, List.set_cons_succ]
        clear x0 x1 x2 x3 x4 x5 x6
        go_wp2_with fail
        go_roundw
        case rel => exact ⟨t0 + 1, t0 + 1, by go_num, by go_num, HD.out.fail (by rw [← HVv.out]; exact Hp.out) (by omega), by omega, by omega, hBw2, HX2.out⟩
        case measure => simp [intOf]; omega
    · go_wp2_with fail
      refine Plan.wp_region_below 4 [(0, true), (1, true), (2, true), (3, false), (4, false)] (by kernel_rfl) (by kernel_rfl) ?_
      (repeat (first | (refine Plan.plan_read (v := ?_) rfl rfl ?_ ?_; rotate_left; (focus ((intro wS hSw; have hkS := (bcell hSw).1; try (have hkT := fun (b o : Nat) (h : b < w.heap.size) => hkS b o (by first | omega | (simp; omega) | (simp; done))); go_simp); try with_reducible rfl)); simp only [Act.put, List.setIfInBounds_toArray, List.set_cons_zero, List.set_cons_succ]) | (refine Plan.plan_skip rfl rfl ?_; simp only [Act.put, List.setIfInBounds_toArray, List.set_cons_zero, List.set_cons_succ])))
      refine Plan.plan_write rfl (fun K hK => ?_)
      go_simp
      go_at_call 39
      (with_reducible refine (K1.out t0 _ (hBw.drew) (by omega)).mono ?_)
      rintro e1 w1 ⟨C1, c1, rfl, hI1, hL1, rfl⟩
      rw [← HVv.out] at hI1 hL1 ⊢
      have hI2 : IntsAt wr.drew wr.drew.heap.size C1 V := CellsAt.more hI1 hwz
      go_simp
      refine hK.out _ _ ((Below.refl _ _).drew) ?_
      clear hK K
      try simp only [Act.put, List.setIfInBounds_toArray, List.set_cons_zero, List.set_cons_succ]
      (repeat (first | (refine Plan.plan_read (v := ?_) rfl rfl ?_ ?_; rotate_left; (focus ((intro wS hSw; have hkS := (bcell hSw).1; try (have hkT := fun (b o : Nat) (h : b < w.heap.size) => hkS b o (by first | omega | (simp; omega) | (simp; done))); go_simp); try with_reducible rfl)); simp only [Act.put, List.setIfInBounds_toArray, List.set_cons_zero, List.set_cons_succ]) | (refine Plan.plan_skip rfl rfl ?_; simp only [Act.put, List.setIfInBounds_toArray, List.set_cons_zero, List.set_cons_succ])))
      refine Plan.plan_last rfl (fun K hK => ?_)
      go_simp
      go_at_call 29
      (with_reducible refine (K2.out C1 c1 V _ hI2 hL1).mono ?_)
      rintro e2 w2 ⟨rfl, hb2⟩
      rw [Hp.out]
      have hb3 : Below wr.heap.size wr w2 := (Below.refl _ _).drew.trans hb2
      have hBw2 := hBw.trans (hb3.mono (by omega))
      have hX2 := HX.out.below hb3 hxl
      obtain ⟨y0, y1, y2, y3, y4, y5, y6⟩ := hX2.road
      have HX2 := Lib.hid hX2
      clear hX2 hb2
      refine hK.out _ _ ?_
      clear hK K
      try simp only [Act.put, List.setIfInBounds_toArray, List.set_cons_zero, List.set_cons_succ]
      clear x0 x1 x2 x3 x4 x5 x6
      go_wp2_with fail
      go_roundw
      case rel => exact ⟨s0, t0 + 1, rfl, by go_num, HD.out.pass (by rw [← HVv.out]; exact Hp.out), hs, by omega, hBw2, HX2.out⟩
      case measure => simp [intOf]; omega
end Go.Proofs.Ytphebdmdbnpokaa
