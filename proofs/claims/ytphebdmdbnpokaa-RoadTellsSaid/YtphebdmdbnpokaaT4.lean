/- The walk of the reference's before. (Printed by gen_t4.py.) -/
import Derived.Deep.Cut
import Derived.Test.YtphebdmdbnpokaaT3
import Derived.Test.YtphebdmdbnpokaaR5
set_option linter.unusedSimpArgs false
set_option linter.unusedVariables false
namespace Go.Proofs.Ytphebdmdbnpokaa
open Go.RowKit RD
attribute [local go_sem] alloc_drewN setCell_drewN shape_drewN
def BefIs (X : Bs) (L : List Vl) (A : Nat → Int) (v : Nat) (w : World) (e : Ending) (w' : World) : Prop := e = .returned (.int .i64 (bef X.N X.l3 (vsOf L) A X.R v)) ∧ Below w.heap.size w w'
theorem bef_hit {N P : Nat} {VS : Vs} {A : Nat → Int} {R : List Rd} {k : Nat} {r : Rd} {v : Nat} (hr : R[k]? = some r) (h0 : bef N P VS A (R.take k) v < 0) (hl : Leads N P VS A r) (hv : r.to_.toNat = v) : bef N P VS A R v = r.frm := by
  have h1 : (R.take k).find? (fun r => leadB N P VS A r && r.to_.toNat == v) = none := by
    cases e : (R.take k).find? (fun r => leadB N P VS A r && r.to_.toNat == v) with
    | none => rfl
    | some q =>
      unfold bef at h0
      rw [e] at h0
      have hq := List.find?_some e
      simp only [Bool.and_eq_true] at hq
      have := usable_iff.1 ((leadB_iff N P VS A).1 hq.1).1
      dsimp only at h0
      omega
  have h2 : R = R.take k ++ r :: R.drop (k + 1) := by
    obtain ⟨hk, e⟩ := List.getElem?_eq_some_iff.1 hr
    rw [← e, ← List.drop_eq_getElem_cons hk, List.take_append_drop]
  unfold bef
  rw [h2, List.find?_append, h1, Option.none_or, List.find?_cons_of_pos (by rw [(leadB_iff N P VS A).2 hl, hv]; simp)]
theorem bef_miss {N P : Nat} {VS : Vs} {A : Nat → Int} {R : List Rd} {k : Nat} {r : Rd} {v : Nat} (hr : R[k]? = some r) (h0 : bef N P VS A (R.take k) v = -1) (h : ¬ (Leads N P VS A r ∧ r.to_.toNat = v)) : bef N P VS A (R.take (k + 1)) v = -1 := by
  rw [take_snoc_at hr, bef_snoc (fun h => (usable_iff.1 h).1), if_neg (fun q => h ⟨(leadB_iff N P VS A).1 q.1, q.2.1⟩)]
  exact h0
set_option maxRecDepth 100000 in
set_option maxHeartbeats 16000000 in
theorem rbefore_any (X : Bs) (C : Option Addr) (c : Nat) (L : List Vl) (A : Nat → Int) (M c1 v : Nat) (w : World) (hX : BsAt w w.heap.size X) (hV : VlsAt w w.heap.size C L) (hT : X.T.length ≤ 50) (hSl : X.S.length ≤ 50) (hR : X.R.length ≤ 100) (hL : L.length ≤ 1000) (hP : X.l3 ≤ 9223372036854775807)
    (hA : ∀ v, v < X.N → w.cell? ⟨M, v, none⟩ = some (.int .i64 (A v))) (hMz : M < w.heap.size) (hAb : ∀ v, A v ≤ 900000) (hv : v < X.N) :
    Calls Try.prog 26 #[.agg #[.string X.nm, .slice X.a1 X.l1 X.c1, .int .i64 X.cl, .slice X.a3 X.l3 X.c3, .slice X.a4 X.l4 X.c4, .slice X.a5 X.T.length X.c5, .slice X.a6 X.l6 X.c6, .slice X.a7 X.R.length X.c7, .slice X.a8 X.S.length X.c8, .slice X.a9 X.l9 X.c9, .int .i64 X.er], .slice C L.length c, .slice (some ⟨M, 0, none⟩) X.N c1, .int .i64 v] w (BefIs X L A v w) := by
  obtain ⟨N, hN⟩ : ∃ N, N = X.N := ⟨_, rfl⟩
  have hNs : N = X.T.length + X.S.length := hN
  have hNb : N ≤ 100 := by omega
  have hbl : BsLen X := ⟨by omega, by omega, by omega, hP⟩
  have KU := Lib.hid (fun (r : Rd) (wx : World) => rusable_any X r wx hbl)
  unfold UsIs at KU
  have KL := Lib.hid (fun (k : Nat) (r : Rd) (hr : X.R[k]? = some r) (hu : usableB X.N X.l3 r = true) (a : Nat) (ha : a ≤ 900000) (wx : World) (h : Below w.heap.size w wx) => leave_any X k r C c L a wx ((hX.r.below h).more h.size) ((hV.below h).more h.size) hbl hL ha hr hu)
  unfold LeaveIs at KL
  unfold BefIs
  rw [← hN] at KU KL hA hv ⊢
  have hXr := hX.r
  obtain ⟨a7, ha7⟩ : ∃ a, X.a7 = a := ⟨_, rfl⟩
  rw [ha7] at hXr KU KL
  rw [ha7]
  have HXr := Lib.hid hXr
  have HA := Lib.hid hA
  have HAb := Lib.hid hAb
  have Hv := Lib.hid hv
  have hX0 : Box (w.alloc (.cells #[.string X.nm, .slice X.a1 X.l1 X.c1, .int .i64 X.cl, .slice X.a3 X.l3 X.c3, .slice X.a4 X.l4 X.c4, .slice X.a5 X.T.length X.c5, .slice X.a6 X.l6 X.c6, .slice a7 X.R.length X.c7, .slice X.a8 X.S.length X.c8, .slice X.a9 X.l9 X.c9, .int .i64 X.er] 31)) w.heap.size #[.string X.nm, .slice X.a1 X.l1 X.c1, .int .i64 X.cl, .slice X.a3 X.l3 X.c3, .slice X.a4 X.l4 X.c4, .slice X.a5 X.T.length X.c5, .slice X.a6 X.l6 X.c6, .slice a7 X.R.length X.c7, .slice X.a8 X.S.length X.c8, .slice X.a9 X.l9 X.c9, .int .i64 X.er] 31 := Box.new w _ _
  have hB0 : Below w.heap.size w (w.alloc (.cells #[.string X.nm, .slice X.a1 X.l1 X.c1, .int .i64 X.cl, .slice X.a3 X.l3 X.c3, .slice X.a4 X.l4 X.c4, .slice X.a5 X.T.length X.c5, .slice X.a6 X.l6 X.c6, .slice a7 X.R.length X.c7, .slice X.a8 X.S.length X.c8, .slice X.a9 X.l9 X.c9, .int .i64 X.er] 31)) := (Below.refl _ _).alloc (Nat.le_refl _) _
  clear hX hV hbl hXr ha7 hN hNs hP hA hAb
  go_enter Try.func26, Try.ntmps26
  go_wp2_with fail
  go_loopw [9] (fun rv wr => ∃ k, k ≤ X.R.length ∧ rv = .int .i64 (k : Nat) ∧ bef N X.l3 (vsOf L) A (X.R.take k) v = -1 ∧ Box wr w.heap.size #[.string X.nm, .slice X.a1 X.l1 X.c1, .int .i64 X.cl, .slice X.a3 X.l3 X.c3, .slice X.a4 X.l4 X.c4, .slice X.a5 X.T.length X.c5, .slice X.a6 X.l6 X.c6, .slice a7 X.R.length X.c7, .slice X.a8 X.S.length X.c8, .slice X.a9 X.l9 X.c9, .int .i64 X.er] 31 ∧ Below w.heap.size w wr) (fun rv _ => X.R.length - (intOf rv).toNat)
  case atStart => exact ⟨0, Nat.zero_le _, rfl, rfl, hX0, hB0⟩
  case round =>
    clear hX0 hB0
    obtain ⟨k, hk, rfl, hb, hBx, hBw⟩ := hrel
    have Hb := Lib.hid hb
    clear hb
    have hwz := hBx.lt
    have x7 : wr.cell? ⟨w.heap.size, 7, none⟩ = some (.slice a7 X.R.length X.c7) := hBx.cell rfl
    by_cases hlt : k < X.R.length
    · skip
      obtain ⟨r, hr⟩ : ∃ r, X.R[k]? = some r := ⟨_, List.getElem?_eq_getElem hlt⟩
      obtain ⟨b, off, ec, hb, c0, c1x, c2, c3, c4, c5, c6⟩ := road_at (HXr.out.below hBw) hr
      subst ec
      have hbw : b < wr.heap.size := by omega
      obtain ⟨x0, x1, x2, x3, x4, x5, x6, _, x8, x9, x10⟩ := basA hBx
      have HBx := Lib.hid hBx
      have hb0 := Lib.hid ((Below.refl wr.heap.size wr).alloc (Nat.le_refl _) (.cells (roadC r).toArray 56))
      have hbx0 := Lib.hid (Box.new wr (roadC r).toArray 56)
      have Hr := Lib.hid hr
      have hno : ¬ (Leads N X.l3 (vsOf L) A r ∧ r.to_.toNat = v) → bef N X.l3 (vsOf L) A (X.R.take (k + 1)) v = -1 := fun h => bef_miss Hr.out Hb.out h
      have hyes : Leads N X.l3 (vsOf L) A r → r.to_.toNat = v → bef N X.l3 (vsOf L) A X.R v = r.frm := fun h1 h2 => bef_hit Hr.out (by rw [Hb.out]; decide) h1 h2
      have Hno := Lib.hid hno
      have Hyes := Lib.hid hyes
      clear hr hBx hno hyes Hb
      have KUr := Lib.hid (KU.out r)
      cases hu : usableB N X.l3 r
      · rw [hu] at KUr
        have hF : Hid (bef N X.l3 (vsOf L) A (X.R.take (k + 1)) v = -1) := Hno.out fun h => by rw [h.1.1] at hu; cases hu
        clear hu Hno Hyes
        go_wp2_with fail
        go_at_call 30
        (with_reducible refine (KUr.out _).mono ?_)
        rintro e1 w4 ⟨rfl, hb4⟩
        have hb5 := hb0.out.trans (hb4.mono hb0.out.size)
        have HBx4 := Lib.hid (HBx.out.below hb5 hwz)
        clear x0 x1 x2 x3 x4 x5 x6 x7 x8 x9 x10 c0 c1x c2 c3 c4 c5 c6
        go_wp2_with fail
        go_roundw
        case rel => exact ⟨k + 1, by omega, by go_num, hF.out, HBx4.out, hBw.trans (hb5.mono (by omega))⟩
        case measure => simp [intOf]; omega
      · rw [hu] at KUr
        have hu' := usable_iff.1 hu
        obtain ⟨f, hf⟩ := Int.eq_ofNat_of_zero_le hu'.1
        obtain ⟨tt, htt⟩ := Int.eq_ofNat_of_zero_le hu'.2.2.1
        obtain ⟨hh, hhh⟩ := Int.eq_ofNat_of_zero_le (show 0 ≤ r.hours by omega)
        have hfN : f < N := by omega
        have httN : tt < N := by omega
        have hh24 : hh ≤ 24 := by omega
        have hh1 : 1 ≤ hh := by omega
        have Hu := Lib.hid hu
        have Hf := Lib.hid hf
        have Htt := Lib.hid htt
        have Hhh := Lib.hid hhh
        clear hu hu' hf htt hhh
        by_cases htv : tt = v
        · subst htv
          go_wp2_with fail
          go_at_call 30
          (with_reducible refine (KUr.out _).mono ?_)
          rintro e1 w4 ⟨rfl, hb4⟩
          have hb5 := hb0.out.trans (hb4.mono hb0.out.size)
          have hr4 := hbx0.out.below hb4 (by simp)
          have HBx4 := Lib.hid (HBx.out.below hb5 hwz)
          have HB4 := Lib.hid (hBw.trans (hb5.mono (by omega)))
          have hBk := HB4.out
          have cf : w4.cell? ⟨M, f, none⟩ = some (.int .i64 (A f)) := (hBk.cell (p := ⟨M, f, none⟩) hMz).trans (HA.out f hfN)
          have ct : w4.cell? ⟨M, tt, none⟩ = some (.int .i64 (A tt)) := (hBk.cell (p := ⟨M, tt, none⟩) hMz).trans (HA.out tt httN)
          obtain ⟨_, r1, r2, r3, _, _, _⟩ := hr4.road
          rw [Hf.out] at r1
          rw [Htt.out] at r2
          rw [Hhh.out] at r3
          have hrz := hr4.lt
          have hMz4 : M < w4.heap.size := by have := hBk.size; omega
          have hMw4 : w.heap.size < w4.heap.size := HBx4.out.lt
          have hrel4 : ∀ w5 (hb : Below w4.heap.size w4 w5), Box w5 w.heap.size #[.string X.nm, .slice X.a1 X.l1 X.c1, .int .i64 X.cl, .slice X.a3 X.l3 X.c3, .slice X.a4 X.l4 X.c4, .slice X.a5 X.T.length X.c5, .slice X.a6 X.l6 X.c6, .slice (some ⟨b, off, none⟩) X.R.length X.c7, .slice X.a8 X.S.length X.c8, .slice X.a9 X.l9 X.c9, .int .i64 X.er] 31 ∧ Below w.heap.size w w5 := fun w5 hb => ⟨HBx4.out.below hb (by have := hb.size; omega), HB4.out.trans (hb.mono (by have := hb.size; omega))⟩
          have Hrel4 := Lib.hid hrel4
          clear x0 x1 x2 x3 x4 x5 x6 x7 x8 x9 x10 c0 c1x c2 c3 c4 c5 c6 hr4 hBk hrel4
          obtain ⟨vf, hvf⟩ : ∃ x, A f = x := ⟨_, rfl⟩
          rw [hvf] at cf
          have hvle := HAb.out f
          rw [hvf] at hvle
          have Hvf := Lib.hid hvf
          clear hvf
          obtain ⟨vt, hvt⟩ : ∃ x, A tt = x := ⟨_, rfl⟩
          rw [hvt] at ct
          have Hvt := Lib.hid hvt
          clear hvt
          by_cases hneg : vf < 0
          · have hF : Hid (bef N X.l3 (vsOf L) A (X.R.take (k + 1)) tt = -1) := Hno.out fun h => by
              obtain ⟨⟨_, x, y, t, q1, _⟩, _⟩ := h
              rw [Hf.out, Int.toNat_natCast, Hvf.out] at q1
              omega
            clear Hno Hyes
            go_wp2_with fail
            go_roundw
            case rel => exact ⟨k + 1, by omega, by go_num, hF.out, Hrel4.out _ (Below.refl _ _)⟩
            case measure => simp [intOf]; omega
          · obtain ⟨bb, hbb⟩ := Int.eq_ofNat_of_zero_le (show 0 ≤ vf by omega)
            subst hbb
            have hbb9 : bb ≤ 900000 := by omega
            have KLr := Lib.hid (fun wx h => KL.out k r Hr.out Hu.out bb hbb9 wx h)
            obtain ⟨y0, y1, y2, y3, y4, y5, y6, y7, y8, y9, y10⟩ := basA HBx4.out
            go_wp2_with fail
            refine Plan.wp_region_below 9 [(0, true), (1, true), (2, true), (3, true), (4, true), (5, true), (6, true), (7, true), (8, false), (9, false)] (by kernel_rfl) (by kernel_rfl) ?_
            (repeat (first | (refine Plan.plan_read (v := ?_) rfl rfl ?_ ?_; rotate_left; (focus ((intro wS hSw; have hkS := (bcell hSw).1; try (have hkT := fun (b o : Nat) (h : b < w.heap.size) => hkS b o (by first | omega | (simp; omega) | (simp; done))); go_simp); try with_reducible rfl)); simp only [Act.put, List.setIfInBounds_toArray, List.set_cons_zero, List.set_cons_succ]) | (refine Plan.plan_skip rfl rfl ?_; simp only [Act.put, List.setIfInBounds_toArray, List.set_cons_zero, List.set_cons_succ])))
            refine Plan.plan_write rfl (fun K hK => ?_)
            go_simp
            go_at_call 40
            (with_reducible refine (KLr.out _ HB4.out.drew).mono ?_)
            rintro e2 w5 ⟨v, rfl, hv, hb6⟩
            have kB := Plan.below_drew_go hb6
            have hv := Lib.hid hv
            refine hK.out _ _ kB ?_
            clear hK K
            try simp only [Act.put, List.setIfInBounds_toArray, List.set_cons_zero, List.set_cons_succ]
            (repeat (first | (refine Plan.plan_read (v := ?_) rfl rfl ?_ ?_; rotate_left; (focus ((intro wS hSw; have hkS := (bcell hSw).1; try (have hkT := fun (b o : Nat) (h : b < w.heap.size) => hkS b o (by first | omega | (simp; omega) | (simp; done))); go_simp); try with_reducible rfl)); simp only [Act.put, List.setIfInBounds_toArray, List.set_cons_zero, List.set_cons_succ]) | (refine Plan.plan_skip rfl rfl ?_; simp only [Act.put, List.setIfInBounds_toArray, List.set_cons_zero, List.set_cons_succ])))
            refine Plan.plan_last rfl (fun K hK => ?_)
            go_simp
            refine hK.out _ _ ?_
            clear hK K
            try simp only [Act.put, List.setIfInBounds_toArray, List.set_cons_zero, List.set_cons_succ]
            have s1 : w5.cell? ⟨wr.heap.size, 1, none⟩ = some (.int .i64 (f : Int)) := (kB.cell (p := ⟨wr.heap.size, 1, none⟩) hrz).trans r1
            have s3 : w5.cell? ⟨wr.heap.size, 3, none⟩ = some (.int .i64 (hh : Int)) := (kB.cell (p := ⟨wr.heap.size, 3, none⟩) hrz).trans r3
            have st : w5.cell? ⟨M, tt, none⟩ = some (.int .i64 vt) := (kB.cell (p := ⟨M, tt, none⟩) hMz4).trans ct
            have hz5 := kB.size
            have hrz5 : wr.heap.size < w5.heap.size := by omega
            have hMz5 : M < w5.heap.size := by omega
            clear y0 y1 y2 y3 y4 y5 y6 y7 y8 y9 y10 r1 r2 r3 cf ct
            rcases hv.out with ⟨hv1, hv2⟩ | ⟨t, hv1, hv2, hv3⟩
            · subst hv1
              have hF : Hid (bef N X.l3 (vsOf L) A (X.R.take (k + 1)) tt = -1) := Hno.out fun h => by
                obtain ⟨⟨_, x, y, t, q1, q2, q3, q4⟩, _⟩ := h
                rw [Hf.out, Int.toNat_natCast, Hvf.out] at q1
                exact absurd q3.2.1 (hv2 t (by have := q3.1; omega))
              clear hv2 Hno Hyes
              go_wp2_with fail
              refine Plan.wp_region_below 12 [(0, true), (1, true), (2, true), (3, true), (4, true), (5, true), (6, true), (7, true), (8, true), (9, true), (10, true), (11, true), (12, false)] (by kernel_rfl) (by kernel_rfl) ?_
              (repeat (first | (refine Plan.plan_read (v := ?_) rfl rfl ?_ ?_; rotate_left; (focus ((intro wS hSw; have hkS := (bcell hSw).1; try (have hkT := fun (b o : Nat) (h : b < w.heap.size) => hkS b o (by first | omega | (simp; omega) | (simp; done))); go_simp); try with_reducible rfl)); simp only [Act.put, List.setIfInBounds_toArray, List.set_cons_zero, List.set_cons_succ]) | (refine Plan.plan_skip rfl rfl ?_; simp only [Act.put, List.setIfInBounds_toArray, List.set_cons_zero, List.set_cons_succ])))
              refine Plan.plan_last rfl (fun K hK => ?_)
              go_simp
              refine hK.out _ _ ?_
              clear hK K
              try simp only [Act.put, List.setIfInBounds_toArray, List.set_cons_zero, List.set_cons_succ]
              go_wp2_with fail
              go_roundw
              case rel => exact ⟨k + 1, by omega, by go_num, hF.out, Hrel4.out _ kB.drew⟩
              case measure => simp [intOf]; omega
            · subst hv1
              obtain ⟨x, hx⟩ : ∃ x, x = t + hh := ⟨_, rfl⟩
              have hxb : x ≤ 2000000 := by have := hv2.bound; have := vsOf_len L; omega
              have hq1 : IntKind.i64.wrap ((t : Int) + (hh : Int)) = (x : Int) := by rw [IntKind.wrap_i64]; omega
              have hq2 : (t : Int) + (hh : Int) = (x : Int) := by omega
              have hq3 : IntKind.i64.wrap (x : Int) = (x : Int) := by rw [IntKind.wrap_i64]; omega
              have hlead : Leads N X.l3 (vsOf L) A r ↔ (x : Int) = vt := by
                constructor
                · rintro ⟨_, a, y, u, q1, q2, q3, q4⟩
                  rw [Hf.out, Int.toNat_natCast, Hvf.out] at q1
                  rw [Htt.out, Int.toNat_natCast, Hvt.out] at q2
                  obtain rfl : bb = a := by omega
                  obtain rfl := q3.uniq hv2
                  rw [Hhh.out, Int.toNat_natCast] at q4
                  omega
                · intro e
                  exact ⟨Hu.out, bb, x, t, by rw [Hf.out, Int.toNat_natCast, Hvf.out], by rw [Htt.out, Int.toNat_natCast, Hvt.out, e], hv2, by rw [Hhh.out, Int.toNat_natCast, hx]⟩
              have hto : r.to_.toNat = tt := by rw [Htt.out, Int.toNat_natCast]
              by_cases h1 : (x : Int) = vt
              · have hF : Hid (bef N X.l3 (vsOf L) A X.R tt = (f : Int)) := Lib.hid (by rw [Hyes.out (hlead.2 h1) hto, Hf.out])
                subst h1
                clear hv2 hv3 hx hlead Hno Hyes hto Hvt
                go_wp2_with fail
                refine Plan.wp_region_below 12 [(0, true), (1, true), (2, true), (3, true), (4, true), (5, true), (6, true), (7, true), (8, true), (9, true), (10, true), (11, true), (12, false)] (by kernel_rfl) (by kernel_rfl) ?_
                (repeat (first | (refine Plan.plan_read (v := ?_) rfl rfl ?_ ?_; rotate_left; (focus ((intro wS hSw; have hkS := (bcell hSw).1; try (have hkT := fun (b o : Nat) (h : b < w.heap.size) => hkS b o (by first | omega | (simp; omega) | (simp; done))); go_simp); try with_reducible rfl)); simp only [Act.put, List.setIfInBounds_toArray, List.set_cons_zero, List.set_cons_succ]) | (refine Plan.plan_skip rfl rfl ?_; simp only [Act.put, List.setIfInBounds_toArray, List.set_cons_zero, List.set_cons_succ])))
                refine Plan.plan_last rfl (fun K hK => ?_)
                go_simp
                refine hK.out _ _ ?_
                clear hK K
                try simp only [Act.put, List.setIfInBounds_toArray, List.set_cons_zero, List.set_cons_succ]
                have s1' : w5.drew.cell? ⟨wr.heap.size, 1, none⟩ = some (.int .i64 (f : Int)) := s1
                go_wp2_with fail
                go_ret
                exact ⟨by rw [hF.out]; rfl, (Hrel4.out _ kB.drew).2⟩
              · have hF : Hid (bef N X.l3 (vsOf L) A (X.R.take (k + 1)) tt = -1) := Hno.out fun h => h1 (hlead.1 h.1)
                have e1 : ((x : Int) == vt) = false := by simpa using h1
                clear hv2 hv3 hx hlead Hno Hyes hto
                go_wp2_with fail
                refine Plan.wp_region_below 12 [(0, true), (1, true), (2, true), (3, true), (4, true), (5, true), (6, true), (7, true), (8, true), (9, true), (10, true), (11, true), (12, false)] (by kernel_rfl) (by kernel_rfl) ?_
                (repeat (first | (refine Plan.plan_read (v := ?_) rfl rfl ?_ ?_; rotate_left; (focus ((intro wS hSw; have hkS := (bcell hSw).1; try (have hkT := fun (b o : Nat) (h : b < w.heap.size) => hkS b o (by first | omega | (simp; omega) | (simp; done))); go_simp); try with_reducible rfl)); simp only [Act.put, List.setIfInBounds_toArray, List.set_cons_zero, List.set_cons_succ]) | (refine Plan.plan_skip rfl rfl ?_; simp only [Act.put, List.setIfInBounds_toArray, List.set_cons_zero, List.set_cons_succ])))
                refine Plan.plan_last rfl (fun K hK => ?_)
                go_simp
                refine hK.out _ _ ?_
                clear hK K
                try simp only [Act.put, List.setIfInBounds_toArray, List.set_cons_zero, List.set_cons_succ]
                go_wp2_with fail
                go_roundw
                case rel => exact ⟨k + 1, by omega, by go_num, hF.out, Hrel4.out _ kB.drew⟩
                case measure => simp [intOf]; omega
        · have hF : Hid (bef N X.l3 (vsOf L) A (X.R.take (k + 1)) v = -1) := Hno.out fun h => htv (by have := h.2; rw [Htt.out, Int.toNat_natCast] at this; exact this)
          have e0 : ((tt : Int) != (v : Int)) = true := by simp; omega
          have e0' : (tt != v) = true := by simpa using htv
          go_wp2_with fail
          go_at_call 30
          (with_reducible refine (KUr.out _).mono ?_)
          rintro e1 w4 ⟨rfl, hb4⟩
          have hb5 := hb0.out.trans (hb4.mono hb0.out.size)
          have hr4 := hbx0.out.below hb4 (by simp)
          have HBx4 := Lib.hid (HBx.out.below hb5 hwz)
          obtain ⟨_, r1, r2, r3, _, _, _⟩ := hr4.road
          rw [Htt.out] at r2
          have hrz := hr4.lt
          clear x0 x1 x2 x3 x4 x5 x6 x7 x8 x9 x10 c0 c1x c2 c3 c4 c5 c6 hr4 Hno Hyes
          go_wp2_with fail
          go_roundw
          case rel => exact ⟨k + 1, by omega, by go_num, hF.out, HBx4.out, hBw.trans (hb5.mono (by omega))⟩
          case measure => simp [intOf]; omega
    · obtain rfl : X.R.length = k := by omega
      rw [List.take_length] at Hb
      go_wp2_with fail
      go_ret
      exact ⟨by rw [Hb.out]; rfl, hBw⟩
end Go.Proofs.Ytphebdmdbnpokaa
