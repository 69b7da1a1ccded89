/- The walk of the reference's Room. -/
import Derived.Deep.Cut
import Derived.Test.YtphebdmdbnpokaaR7
import Derived.Test.YtphebdmdbnpokaaN2
import Derived.Test.YtphebdmdbnpokaaFY6
set_option linter.unusedSimpArgs false
set_option linter.unusedVariables false
namespace Go.Proofs.Ytphebdmdbnpokaa
open Go.RowKit RD FM
attribute [local go_sem] alloc_drewN setCell_drewN shape_drewN
set_option maxRecDepth 100000 in
set_option maxHeartbeats 16000000 in
theorem rroom_any (X : Bs) (C : Option Addr) (c : Nat) (V : List Int) (hours : Int) (w : World) (hX : BsAt w w.heap.size X) (hV : IntsAt w w.heap.size C V) (hVl : V.length ≤ 9223372036854775807) (hT : X.T.length ≤ 50) (hSl : X.S.length ≤ 50) (hR : X.R.length ≤ 100) (hP : X.l3 ≤ 9223372036854775807) :
    Calls Try.prog 12 #[.agg #[.string X.nm, .slice X.a1 X.l1 X.c1, .int .i64 X.cl, .slice X.a3 X.l3 X.c3, .slice X.a4 X.l4 X.c4, .slice X.a5 X.T.length X.c5, .slice X.a6 X.l6 X.c6, .slice X.a7 X.R.length X.c7, .slice X.a8 X.S.length X.c8, .slice X.a9 X.l9 X.c9, .int .i64 X.er], .slice C V.length c, .int .i64 hours] w (RoomIs X V hours w) := by
  obtain ⟨i1, gi, gz0, gz1, gz2⟩ := info_parts infoInt
  obtain ⟨N, hN⟩ : ∃ N, N = X.N := ⟨_, rfl⟩
  have hNs : N = X.T.length + X.S.length := hN
  have hN1 : (X.T.length : Int) + (X.S.length : Int) = (N : Int) := by omega
  have hNb : N ≤ 100 := by omega
  have hval := net_valid (V := V) (hours := hours) hT hSl hR
  obtain ⟨B, hB⟩ : ∃ B, B = roomNet X V hours := ⟨_, rfl⟩
  have hBb : B.length ≤ 300 := by
    have hl := net_len (N := X.N) (T := X.T) (R := X.R) (S := X.S) (op := opB X.N X.l3 V) (h := limH hours)
    rw [hB]; unfold roomNet; omega
  have K1 := Lib.hid (fun (wx : World) (h : Below w.heap.size w wx) => network_any X C c V hours wx ((hX.below h).more h.size) (CellsAt.more (ints_below hV h) h.size) hVl hT hSl hR hP)
  unfold NetIs at K1
  have KM := Lib.hid (fun (Cn : Option Addr) (cn : Nat) (wx : World) (h : FL.ArcsAt wx wx.heap.size Cn B) => FL.rmax_yes (X.N + 2) X.N (X.N + 1) Cn cn B wx h (by rw [hB]; exact hval))
  rw [← hB] at K1
  rw [← hN] at KM
  rw [show ((N + 2 : Nat) : Int) = (N : Int) + 2 by omega, show ((N + 1 : Nat) : Int) = (N : Int) + 1 by omega] at KM
  unfold FL.MaxYes at KM
  have d1 : decide ((200 : Int) < (N : Int)) = false := decide_eq_false (by omega)
  have d2 : decide ((1000 : Int) < (X.R.length : Int)) = false := decide_eq_false (by omega)
  have hX0 : Box (w.alloc (.cells #[.string X.nm, .slice X.a1 X.l1 X.c1, .int .i64 X.cl, .slice X.a3 X.l3 X.c3, .slice X.a4 X.l4 X.c4, .slice X.a5 X.T.length X.c5, .slice X.a6 X.l6 X.c6, .slice X.a7 X.R.length X.c7, .slice X.a8 X.S.length X.c8, .slice X.a9 X.l9 X.c9, .int .i64 X.er] 31)) w.heap.size #[.string X.nm, .slice X.a1 X.l1 X.c1, .int .i64 X.cl, .slice X.a3 X.l3 X.c3, .slice X.a4 X.l4 X.c4, .slice X.a5 X.T.length X.c5, .slice X.a6 X.l6 X.c6, .slice X.a7 X.R.length X.c7, .slice X.a8 X.S.length X.c8, .slice X.a9 X.l9 X.c9, .int .i64 X.er] 31 := Box.new w _ _
  have hB0 : Below w.heap.size w (w.alloc (.cells #[.string X.nm, .slice X.a1 X.l1 X.c1, .int .i64 X.cl, .slice X.a3 X.l3 X.c3, .slice X.a4 X.l4 X.c4, .slice X.a5 X.T.length X.c5, .slice X.a6 X.l6 X.c6, .slice X.a7 X.R.length X.c7, .slice X.a8 X.S.length X.c8, .slice X.a9 X.l9 X.c9, .int .i64 X.er] 31)) := (Below.refl _ _).alloc (Nat.le_refl _) _
  have HX0 := Lib.hid hX0
  obtain ⟨x0, x1, x2, x3, x4, x5, x6, x7, x8, x9, x10⟩ := hX0.bas
  have HB := Lib.hid hB
  have HNN := Lib.hid hN
  clear hX hV hN hNs hB hval hP hX0 hVl
  go_enter Try.func12, Try.ntmps12
  go_wp2_with fail
  go_at_call 18
  (with_reducible refine (K1.out _ hB0).mono ?_)
  rintro e1 w1 ⟨Cn, cn, rfl, hA1, hb1⟩
  have HX1 := Lib.hid (HX0.out.below hb1 (by simp))
  have hB1 : Below w.heap.size w w1 := hB0.trans (hb1.mono (by simp))
  have hz1 : w.heap.size < w1.heap.size := HX1.out.lt
  have HA1 := Lib.hid hA1
  clear x0 x1 x2 x3 x4 x5 x6 x7 x8 x9 x10 hb1 hB0 HX0 hA1 K1
  go_wp2_with fail
  go_at_call 28
  (with_reducible refine (KM.out Cn cn w1 HA1.out).mono ?_)
  rintro e8 w6 ⟨f, v, Q, vs, rfl, hmax, g0, g1, ⟨ao, ca, rfl, hi⟩, hb8⟩
  have z5 : w6.cell? ⟨w.heap.size, 5, none⟩ = some (.slice X.a5 X.T.length X.c5) := (HX1.out.below hb8 hz1).cell rfl
  have hwz8 : w.heap.size < w6.heap.size := by have := hb8.size; omega
  have hBw6 : Below w.heap.size w w6 := hB1.trans (hb8.mono (by omega))
  have HM := Lib.hid hmax
  obtain ⟨l, hl⟩ : ∃ l, l = FL.sideL (N + 2) Q := ⟨_, rfl⟩
  have hll : l.length ≤ N + 2 := by rw [hl]; exact FL.sideL_len _ _
  rw [← hl] at hi ⊢
  have hi := Lib.hid hi
  have Hl := Lib.hid hl
  clear hl hmax hb8 HX1 HA1 KM
  go_wp2_with fail
  go_loopw [12, 13] (fun tv kv wr => ∃ k, k ≤ l.length ∧ kv = .int .i64 (k : Nat) ∧ wr.ownsRow w6.heap.size 3 1 tv (townsOf X.T.length (l.take k)).length ((townsOf X.T.length (l.take k)).map (Value.int .i64)) ∧ Below w6.heap.size w6 wr) (fun _ kv _ => l.length - (intOf kv).toNat)
  case atStart => exact ⟨0, Nat.zero_le _, rfl, World.ownsRow_nil _ _ _ _, Below.refl _ _⟩
  case round =>
    obtain ⟨k, hk, rfl, hrow, hBr⟩ := hrel
    have hzr := hBr.size
    have y5 : wr.cell? ⟨w.heap.size, 5, none⟩ = some (.slice X.a5 X.T.length X.c5) := (hBr.cell (p := ⟨w.heap.size, 5, none⟩) hwz8).trans z5
    have hwr : w.heap.size < wr.heap.size := by omega
    by_cases hlt : k < l.length
    · obtain ⟨n, hn⟩ : ∃ n, l[k]? = some n := ⟨_, List.getElem?_eq_getElem hlt⟩
      obtain ⟨b, off, ec, hb, c0⟩ := ints_at (ints_below hi.out hBr) hn
      subst ec
      have hsn := townsOf_snoc X.T.length (l.take k) n
      rw [← take_snoc_at hn] at hsn
      have htl := townsOf_len X.T.length (l.take k)
      rw [List.length_take] at htl
      obtain ⟨A2, hA2⟩ : ∃ A2, A2 = townsOf X.T.length (l.take k) := ⟨_, rfl⟩
      rw [← hA2] at hrow hsn htl
      have hAb2 : A2.length ≤ 102 := by omega
      have Hsn := Lib.hid hsn
      have Hrow := Lib.hid hrow
      have hbw : b < wr.heap.size := by omega
      clear hn hsn hrow hA2 htl z5
      by_cases hnT : n < (X.T.length : Int)
      · go_wp2_with fail
        refine Plan.wp_region_below 7 [(0, true), (1, true), (2, true), (3, true), (4, true), (5, true), (6, true), (7, false)] (by kernel_rfl) (by kernel_rfl) ?_
        (repeat (first | (refine Plan.plan_read (v := ?_) rfl rfl ?_ ?_; rotate_left; (focus ((intro wS hSw; have hkS := (bcell hSw).1; try (have hkT := fun (b o : Nat) (h : b < w.heap.size) => hkS b o (by first | omega | (simp; omega) | (simp; done))); go_simp); try with_reducible rfl)); simp only [Act.put, List.setIfInBounds_toArray, List.set_cons_zero, List.set_cons_succ]) | (refine Plan.plan_skip rfl rfl ?_; simp only [Act.put, List.setIfInBounds_toArray, List.set_cons_zero, List.set_cons_succ])))
        refine Plan.plan_last rfl (fun K hK => ?_)
        go_simp
        refine hK.out _ _ ?_
        clear hK K
        try simp only [Act.put, List.setIfInBounds_toArray, List.set_cons_zero, List.set_cons_succ]
        have Hrow := Lib.hid Hrow.out
        go_wp2_with (first | (at_builtin; refine wpList_append_any _ (by rfl) _ _ 29 (by rfl) w6.heap.size 3 i1 _ 1 8 Try.underlying29 gi gz0 gz1 gz2 rfl (by decide) _ A2.length _ (by rfl) (Hrow.out.drew.alloc _) (_ + 1) (some ⟨wr.heap.size, 0, none⟩) 1 1 [.int .i64 n] (by rfl) ⟨rfl, fun _ => ⟨_, rfl, Nat.lt_succ_self _, cells_at (by rfl) _ _⟩⟩ (fun x hx => by obtain rfl := List.mem_singleton.1 hx; rfl) (by unfold maxLen; omega) (by omega) (by simp; omega) ?_; intro v' w9 hO9 hG9 hob9; replace hO9 := Lib.hid hO9; replace hG9 := Lib.hid hG9; clear hob9) | fail)
        have hG := Plan.grown_go (Plan.grown_alloc (Plan.grown_drew _ _) _) hG9.out
        go_roundw
        case rel => exact ⟨k + 1, by omega, by go_num, by
          rw [Hsn.out, if_pos hnT, List.length_append, List.length_singleton, List.map_append]; exact hO9.out, hBr.grown hG hzr (fun g e => (Hrow.out.lt g e).1)⟩
        case measure => simp [intOf]; omega
      · go_wp2_with fail
        refine Plan.wp_region_below 7 [(0, true), (1, true), (2, true), (3, true), (4, true), (5, true), (6, true), (7, false)] (by kernel_rfl) (by kernel_rfl) ?_
        (repeat (first | (refine Plan.plan_read (v := ?_) rfl rfl ?_ ?_; rotate_left; (focus ((intro wS hSw; have hkS := (bcell hSw).1; try (have hkT := fun (b o : Nat) (h : b < w.heap.size) => hkS b o (by first | omega | (simp; omega) | (simp; done))); go_simp); try with_reducible rfl)); simp only [Act.put, List.setIfInBounds_toArray, List.set_cons_zero, List.set_cons_succ]) | (refine Plan.plan_skip rfl rfl ?_; simp only [Act.put, List.setIfInBounds_toArray, List.set_cons_zero, List.set_cons_succ])))
        refine Plan.plan_last rfl (fun K hK => ?_)
        go_simp
        refine hK.out _ _ ?_
        clear hK K
        try simp only [Act.put, List.setIfInBounds_toArray, List.set_cons_zero, List.set_cons_succ]
        go_wp2_with fail
        go_roundw
        case rel => exact ⟨k + 1, by omega, by go_num, by rw [Hsn.out, if_neg (by omega)]; exact Hrow.out.drew, hBr.drew⟩
        case measure => simp [intOf]; omega
    · obtain rfl : l.length = k := by omega
      rw [List.take_length] at hrow
      have Hrow := Lib.hid hrow
      clear hrow
      obtain ⟨o, cw, hwv, _⟩ := ad_of_owns Hrow.out
      subst hwv
      go_wp2_with fail
      go_ret2
      have hll2 : FL.sideL (X.N + 2) Q = l := by rw [Hl.out, HNN.out]
      refine ⟨f, v, Q, ad o, cw, by rw [hll2]; rfl, ?_, g0, g1, ?_, hBw6.trans (hBr.mono (by omega))⟩
      · have := HM.out
        rw [HB.out] at this
        rw [← HNN.out]; exact this
      · rw [hll2]
        intro h0
        obtain ⟨g, hg, _, hgl, hcell⟩ := RevRow.get (l := townsOf X.T.length l) Hrow.out h0
        exact ⟨g, 0, by rw [hg]; rfl, hgl, fun j hj => by rw [Nat.zero_add]; exact (hcell j hj).1⟩
end Go.Proofs.Ytphebdmdbnpokaa
