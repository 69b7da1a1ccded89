/- Joined of: T1 T2. -/
import Derived.Deep.Cut
import Derived.Test.YtphebdmdbnpokaaN1
/- The walks of the reference's vol, Possible, Leave. -/
set_option linter.unusedSimpArgs false
set_option linter.unusedVariables false
namespace Go.Proofs.Ytphebdmdbnpokaa
open Go.RowKit RD
attribute [local go_sem] alloc_drewN setCell_drewN shape_drewN
theorem vol_any (C : Option Addr) (c : Nat) (L : List Vl) (t : Nat) (w : World) {B : Nat} (hV : VlsAt w B C L) (hl : L.length ≤ 9223372036854775807) (ht : t ≤ 9223372036854775807) :
    Calls Try.prog 56 #[.slice C L.length c, .int .i64 t] w (VolIs w B (volsAt (vsOf L) t)) := by
  by_cases h0 : L.length = 0
  · have h0' : ((L.length : Int) == 0) = true := by simp [h0]
    have hv : volsAt (vsOf L) t = [] := by
      obtain rfl := List.eq_nil_of_length_eq_zero h0; rfl
    have Hv := Lib.hid hv
    clear hv
    go_enter Try.func56, Try.ntmps56
    go_wp2_with fail
    go_ret
    exact ⟨none, 0, by rw [Hv.out]; rfl, by rw [Hv.out]; exact fun h => absurd h (Nat.lt_irrefl 0), by rw [Hv.out]; exact Nat.zero_le _, rfl⟩
  · have h0' : ((L.length : Int) == 0) = false := by rw [beq_eq_false_iff_ne]; omega
    obtain ⟨k, hk⟩ : ∃ k, k = min t (L.length - 1) := ⟨_, rfl⟩
    have hkl : k < L.length := by omega
    obtain ⟨b, off, rfl, hlt, hc, hi, hxl⟩ := vl_at hV (List.getElem?_eq_getElem hkl)
    have hv : volsAt (vsOf L) t = L[k].l := by
      unfold volsAt
      rw [vsOf_len, ← hk]
      exact vsOf_at (List.getElem?_eq_getElem hkl)
    have Hv := Lib.hid hv
    clear hv
    generalize L[k] = x at hc hi hxl Hv
    by_cases htl : t < L.length
    · obtain rfl : k = t := by omega
      clear hk h0
      go_enter Try.func56, Try.ntmps56
      go_wp2_with fail
      go_ret
      exact ⟨x.a, x.c, by rw [Hv.out]; rfl, by rw [Hv.out]; exact hi, by rw [Hv.out]; exact hxl, rfl⟩
    · have hm : (L.length : Int) - 1 = (k : Int) := by omega
      clear hk h0
      go_enter Try.func56, Try.ntmps56
      go_wp2_with fail
      go_ret
      exact ⟨x.a, x.c, by rw [Hv.out]; rfl, by rw [Hv.out]; exact hi, by rw [Hv.out]; exact hxl, rfl⟩
def PossIs (X : Bs) (L : List Vl) (r : Rd) (t : Nat) (w : World) (e : Ending) (w' : World) : Prop := ∃ p, e = .returned (.bool p) ∧ (p = true ↔ poss (vsOf L) r t) ∧ Below w.heap.size w w'
set_option maxRecDepth 100000 in
set_option maxHeartbeats 8000000 in
theorem possible_any (X : Bs) (k : Nat) (r : Rd) (C : Option Addr) (c : Nat) (L : List Vl) (t : Nat) (w : World) (hX : RowAt roadC 7 w w.heap.size X.a7 X.R) (hV : VlsAt w w.heap.size C L) (hl : BsLen X) (hL : L.length ≤ 1000) (ht : t ≤ 1000000) (hr : X.R[k]? = some r) (hu : usableB X.N X.l3 r = true) :
    Calls Try.prog 51 #[.agg #[.string X.nm, .slice X.a1 X.l1 X.c1, .int .i64 X.cl, .slice X.a3 X.l3 X.c3, .slice X.a4 X.l4 X.c4, .slice X.a5 X.T.length X.c5, .slice X.a6 X.l6 X.c6, .slice X.a7 X.R.length X.c7, .slice X.a8 X.S.length X.c8, .slice X.a9 X.l9 X.c9, .int .i64 X.er], .int .i64 k, .slice C L.length c, .int .i64 t] w (PossIs X L r t w) := by
  have hk : k < X.R.length := (List.getElem?_eq_some_iff.1 hr).1
  obtain ⟨b, off, ea, hb, c0, c1, c2, c3, c4, c5, c6⟩ := road_at hX hr
  have hu' := usable_iff.1 hu
  have KV := Lib.hid (fun (t : Nat) (wx : World) (h : Below w.heap.size w wx) (ht : t ≤ 9223372036854775807) => vol_any C c L t wx (B := w.heap.size) (hV.below h) (by omega) ht)
  have KO := Lib.hid (fun (D : Option Addr) (d : Nat) (V : List Int) (hVl : V.length ≤ 9223372036854775807) (wx : World) (h : Below w.heap.size w wx) (hI : IntsAt wx w.heap.size D V) => ropen_any X k D d V wx ((hX.below h).more h.size) (ints_more hI h.size) hVl hl)
  unfold OpenIs at KO
  obtain ⟨H, hH⟩ : ∃ H, r.hours.toNat = H := ⟨_, rfl⟩
  have hH2 : r.hours = (H : Int) := by omega
  have hH3 : H ≤ 24 := by omega
  rw [hH2] at c3
  have hRb := hl.r
  rw [ea] at KO ⊢
  have hop : ∀ V, openB X.N X.l3 X.R (k : Int) V = passB r V := fun V => by rw [openB_at hr, hu]; rfl
  have Hop := Lib.hid hop
  have HH := Lib.hid hH
  have hX0 : Box (w.alloc (.cells #[.string X.nm, .slice X.a1 X.l1 X.c1, .int .i64 X.cl, .slice X.a3 X.l3 X.c3, .slice X.a4 X.l4 X.c4, .slice X.a5 X.T.length X.c5, .slice X.a6 X.l6 X.c6, .slice X.a7 X.R.length X.c7, .slice X.a8 X.S.length X.c8, .slice X.a9 X.l9 X.c9, .int .i64 X.er] 31)) w.heap.size #[.string X.nm, .slice X.a1 X.l1 X.c1, .int .i64 X.cl, .slice X.a3 X.l3 X.c3, .slice X.a4 X.l4 X.c4, .slice X.a5 X.T.length X.c5, .slice X.a6 X.l6 X.c6, .slice X.a7 X.R.length X.c7, .slice X.a8 X.S.length X.c8, .slice X.a9 X.l9 X.c9, .int .i64 X.er] 31 := Box.new w _ _
  have hB0 : Below w.heap.size w (w.alloc (.cells #[.string X.nm, .slice X.a1 X.l1 X.c1, .int .i64 X.cl, .slice X.a3 X.l3 X.c3, .slice X.a4 X.l4 X.c4, .slice X.a5 X.T.length X.c5, .slice X.a6 X.l6 X.c6, .slice X.a7 X.R.length X.c7, .slice X.a8 X.S.length X.c8, .slice X.a9 X.l9 X.c9, .int .i64 X.er] 31)) := (Below.refl _ _).alloc (Nat.le_refl _) _
  rw [ea] at hX0 hB0
  have Hb := Lib.hid hb
  have Hc3 := Lib.hid c3
  clear hX hV hl hr hu hu' ea hop hH hH2 c0 c1 c2 c3 c4 c5 c6
  go_enter Try.func51, Try.ntmps51
  go_wp2_with fail
  go_loopw [9] (fun iv wr => ∃ i : Nat, i ≤ H ∧ iv = .int .i64 i ∧ (∀ j, j < i → passB r (volsAt (vsOf L) (t + j)) = true) ∧ Box wr w.heap.size #[.string X.nm, .slice X.a1 X.l1 X.c1, .int .i64 X.cl, .slice X.a3 X.l3 X.c3, .slice X.a4 X.l4 X.c4, .slice X.a5 X.T.length X.c5, .slice X.a6 X.l6 X.c6, .slice (some ⟨b, off, none⟩) X.R.length X.c7, .slice X.a8 X.S.length X.c8, .slice X.a9 X.l9 X.c9, .int .i64 X.er] 31 ∧ Below w.heap.size w wr) (fun iv _ => H - (intOf iv).toNat)
  case atStart => exact ⟨0, Nat.zero_le _, rfl, fun j hj => by omega, hX0, hB0⟩
  case round =>
    clear hX0 hB0
    obtain ⟨i, hi, rfl, hpass, hBx, hBw⟩ := hrel
    have hwz := hBx.lt
    have hbw : b < wr.heap.size := by have := Hb.out; omega
    have d3 : wr.cell? ⟨b, off + k * 7 + 3, none⟩ = some (.int .i64 (H : Int)) := (hBw.cell (p := ⟨b, off + k * 7 + 3, none⟩) Hb.out).trans Hc3.out
    have x0 : wr.cell? ⟨w.heap.size, 0, none⟩ = some (.string X.nm) := hBx.cell rfl
    have x1 : wr.cell? ⟨w.heap.size, 1, none⟩ = some (.slice X.a1 X.l1 X.c1) := hBx.cell rfl
    have x2 : wr.cell? ⟨w.heap.size, 2, none⟩ = some (.int .i64 X.cl) := hBx.cell rfl
    have x3 : wr.cell? ⟨w.heap.size, 3, none⟩ = some (.slice X.a3 X.l3 X.c3) := hBx.cell rfl
    have x4 : wr.cell? ⟨w.heap.size, 4, none⟩ = some (.slice X.a4 X.l4 X.c4) := hBx.cell rfl
    have x5 : wr.cell? ⟨w.heap.size, 5, none⟩ = some (.slice X.a5 X.T.length X.c5) := hBx.cell rfl
    have x6 : wr.cell? ⟨w.heap.size, 6, none⟩ = some (.slice X.a6 X.l6 X.c6) := hBx.cell rfl
    have x7 : wr.cell? ⟨w.heap.size, 7, none⟩ = some (.slice (some ⟨b, off, none⟩) X.R.length X.c7) := hBx.cell rfl
    have x8 : wr.cell? ⟨w.heap.size, 8, none⟩ = some (.slice X.a8 X.S.length X.c8) := hBx.cell rfl
    have x9 : wr.cell? ⟨w.heap.size, 9, none⟩ = some (.slice X.a9 X.l9 X.c9) := hBx.cell rfl
    have x10 : wr.cell? ⟨w.heap.size, 10, none⟩ = some (.int .i64 X.er) := hBx.cell rfl
    have HBx := Lib.hid hBx
    have Hpass := Lib.hid hpass
    clear hBx hpass
    by_cases hiH : i < H
    · obtain ⟨s, hs⟩ : ∃ s, s = t + i := ⟨_, rfl⟩
      have hq1 : IntKind.i64.wrap ((t : Int) + (i : Int)) = (s : Int) := by rw [IntKind.wrap_i64]; omega
      have hq2 : (t : Int) + (i : Int) = (s : Int) := by omega
      have hq3 : IntKind.i64.wrap (s : Int) = (s : Int) := by rw [IntKind.wrap_i64]; omega
      have hsb : s ≤ 9223372036854775807 := by omega
      have Hs := Lib.hid hs
      clear hs
      cases hp : passB r (volsAt (vsOf L) s)
      all_goals
        have Hp := Lib.hid hp
        have KOp := Lib.hid (fun D d hVl wx h hI => KO.out D d (volsAt (vsOf L) s) hVl wx h hI)
        rw [Hop.out, hp] at KOp
        clear hp
        go_wp2_with fail
        refine Plan.wp_region_below 8 [(0, true), (1, true), (2, true), (3, true), (4, true), (5, true), (6, false), (7, false), (8, false)] (by kernel_rfl) (by kernel_rfl) ?_
        (repeat (first | (refine Plan.plan_read (v := ?_) rfl rfl ?_ ?_; rotate_left; (focus ((intro wS hSw; have hkS := (bcell hSw).1; try (have hkT := fun (b o : Nat) (h : b < w.heap.size) => hkS b o (by first | omega | (simp; omega) | (simp; done))); go_simp); try with_reducible rfl)); simp only [Act.put, List.setIfInBounds_toArray, List.set_cons_zero, List.set_cons_succ]) | (refine Plan.plan_skip rfl rfl ?_; simp only [Act.put, List.setIfInBounds_toArray, List.set_cons_zero, List.set_cons_succ])))
        refine Plan.plan_write rfl (fun K hK => ?_)
        go_simp
        go_at_call 56
        (with_reducible refine (KV.out s _ (hBw.drew) hsb).mono ?_)
        rintro e1 w4 ⟨C1, c1, rfl, hI1, hL1, rfl⟩
        go_simp
        refine hK.out _ _ ((Below.refl _ _).drew) ?_
        clear hK K
        try simp only [Act.put, List.setIfInBounds_toArray, List.set_cons_zero, List.set_cons_succ]
        (repeat (first | (refine Plan.plan_read (v := ?_) rfl rfl ?_ ?_; rotate_left; (focus ((intro wS hSw; have hkS := (bcell hSw).1; try (have hkT := fun (b o : Nat) (h : b < w.heap.size) => hkS b o (by first | omega | (simp; omega) | (simp; done))); go_simp); try with_reducible rfl)); simp only [Act.put, List.setIfInBounds_toArray, List.set_cons_zero, List.set_cons_succ]) | (refine Plan.plan_skip rfl rfl ?_; simp only [Act.put, List.setIfInBounds_toArray, List.set_cons_zero, List.set_cons_succ])))
        refine Plan.plan_write rfl (fun K hK => ?_)
        go_simp
        go_at_call 15
        (with_reducible refine (KOp.out C1 c1 hL1 _ hBw.drew hI1).mono ?_)
        rintro e2 w5 ⟨rfl, hb5⟩
        have kB := Plan.below_drew_go hb5
        refine hK.out _ _ kB ?_
        clear hK K
        try simp only [Act.put, List.setIfInBounds_toArray, List.set_cons_zero, List.set_cons_succ]
        (repeat (first | (refine Plan.plan_read (v := ?_) rfl rfl ?_ ?_; rotate_left; (focus ((intro wS hSw; have hkS := (bcell hSw).1; try (have hkT := fun (b o : Nat) (h : b < w.heap.size) => hkS b o (by first | omega | (simp; omega) | (simp; done))); go_simp); try with_reducible rfl)); simp only [Act.put, List.setIfInBounds_toArray, List.set_cons_zero, List.set_cons_succ]) | (refine Plan.plan_skip rfl rfl ?_; simp only [Act.put, List.setIfInBounds_toArray, List.set_cons_zero, List.set_cons_succ])))
        refine Plan.plan_last rfl (fun K hK => ?_)
        go_simp
        refine hK.out _ _ ?_
        clear hK K
        try simp only [Act.put, List.setIfInBounds_toArray, List.set_cons_zero, List.set_cons_succ]
        go_wp2_with fail
      · go_ret
        refine ⟨false, rfl, ⟨fun h => (by cases h), fun h => ?_⟩, hBw.trans (kB.mono (by omega))⟩
        have := h i (by rw [HH.out]; exact hiH)
        rw [← Hs.out, Hp.out] at this; cases this
      · go_roundw
        case rel => exact ⟨i + 1, by omega, by go_num, fun j hj => by
          by_cases e : j = i
          · rw [e, ← Hs.out]; exact Hp.out
          · exact Hpass.out j (by omega), HBx.out.below kB hwz, hBw.trans (kB.mono (by omega))⟩
        case measure => simp [intOf]; omega
    · obtain rfl : H = i := by omega
      go_wp2_with fail
      go_ret
      exact ⟨true, rfl, ⟨fun _ j hj => Hpass.out j (by rw [← HH.out]; exact hj), fun _ => rfl⟩, hBw⟩
end Go.Proofs.Ytphebdmdbnpokaa

/- The walks of the reference's Leave. -/
namespace Go.Proofs.Ytphebdmdbnpokaa
open Go.RowKit RD
attribute [local go_sem] alloc_drewN setCell_drewN shape_drewN
def LeaveV (VS : Vs) (r : Rd) (a : Nat) (v : Int) : Prop := (v = -1 ∧ ∀ t, a ≤ t → ¬ poss VS r t) ∨ ∃ t : Nat, v = t ∧ IsLeave VS r a t ∧ t ≤ max a VS.length
def LeaveIs (X : Bs) (L : List Vl) (r : Rd) (a : Nat) (w : World) (e : Ending) (w' : World) : Prop := ∃ v, e = .returned (.int .i64 v) ∧ LeaveV (vsOf L) r a v ∧ Below w.heap.size w w'
set_option maxRecDepth 100000 in
set_option maxHeartbeats 8000000 in
theorem leave_any (X : Bs) (k : Nat) (r : Rd) (C : Option Addr) (c : Nat) (L : List Vl) (A : Nat) (w : World) (hX : RowAt roadC 7 w w.heap.size X.a7 X.R) (hV : VlsAt w w.heap.size C L) (hl : BsLen X) (hL : L.length ≤ 1000) (ha : A ≤ 900000) (hr : X.R[k]? = some r) (hu : usableB X.N X.l3 r = true) :
    Calls Try.prog 40 #[.agg #[.string X.nm, .slice X.a1 X.l1 X.c1, .int .i64 X.cl, .slice X.a3 X.l3 X.c3, .slice X.a4 X.l4 X.c4, .slice X.a5 X.T.length X.c5, .slice X.a6 X.l6 X.c6, .slice X.a7 X.R.length X.c7, .slice X.a8 X.S.length X.c8, .slice X.a9 X.l9 X.c9, .int .i64 X.er], .int .i64 k, .slice C L.length c, .int .i64 A] w (LeaveIs X L r A w) := by
  have KP := Lib.hid (fun (t : Nat) (ht : t ≤ 1000000) (wx : World) (h : Below w.heap.size w wx) => possible_any X k r C c L t wx ((hX.below h).more h.size) ((hV.below h).more h.size) hl hL ht hr hu)
  unfold PossIs at KP
  have hX0 : Box (w.alloc (.cells #[.string X.nm, .slice X.a1 X.l1 X.c1, .int .i64 X.cl, .slice X.a3 X.l3 X.c3, .slice X.a4 X.l4 X.c4, .slice X.a5 X.T.length X.c5, .slice X.a6 X.l6 X.c6, .slice X.a7 X.R.length X.c7, .slice X.a8 X.S.length X.c8, .slice X.a9 X.l9 X.c9, .int .i64 X.er] 31)) w.heap.size #[.string X.nm, .slice X.a1 X.l1 X.c1, .int .i64 X.cl, .slice X.a3 X.l3 X.c3, .slice X.a4 X.l4 X.c4, .slice X.a5 X.T.length X.c5, .slice X.a6 X.l6 X.c6, .slice X.a7 X.R.length X.c7, .slice X.a8 X.S.length X.c8, .slice X.a9 X.l9 X.c9, .int .i64 X.er] 31 := Box.new w _ _
  have hB0 : Below w.heap.size w (w.alloc (.cells #[.string X.nm, .slice X.a1 X.l1 X.c1, .int .i64 X.cl, .slice X.a3 X.l3 X.c3, .slice X.a4 X.l4 X.c4, .slice X.a5 X.T.length X.c5, .slice X.a6 X.l6 X.c6, .slice X.a7 X.R.length X.c7, .slice X.a8 X.S.length X.c8, .slice X.a9 X.l9 X.c9, .int .i64 X.er] 31)) := (Below.refl _ _).alloc (Nat.le_refl _) _
  obtain ⟨M, hM⟩ : ∃ M, max A L.length = M := ⟨_, rfl⟩
  have hM2 : M ≤ 901000 := by omega
  have hAM : A ≤ M := by omega
  have HM := Lib.hid hM
  clear hX hV hl hr hu hM
  go_enter Try.func40, Try.ntmps40
  go_wp2_with fail
  go_loopw [9] (fun tv wr => ∃ t : Nat, A ≤ t ∧ t ≤ M + 1 ∧ tv = .int .i64 t ∧ (∀ u, A ≤ u → u < t → ¬ poss (vsOf L) r u) ∧ Box wr w.heap.size #[.string X.nm, .slice X.a1 X.l1 X.c1, .int .i64 X.cl, .slice X.a3 X.l3 X.c3, .slice X.a4 X.l4 X.c4, .slice X.a5 X.T.length X.c5, .slice X.a6 X.l6 X.c6, .slice X.a7 X.R.length X.c7, .slice X.a8 X.S.length X.c8, .slice X.a9 X.l9 X.c9, .int .i64 X.er] 31 ∧ Below w.heap.size w wr) (fun tv _ => M + 1 - (intOf tv).toNat)
  case atStart => exact ⟨A, Nat.le_refl _, by omega, rfl, fun u h1 h2 => by omega, hX0, hB0⟩
  case round =>
    clear hX0 hB0
    obtain ⟨t, ht1, ht2, rfl, hno, hBx, hBw⟩ := hrel
    have hwz := hBx.lt
    obtain ⟨x0, x1, x2, x3, x4, x5, x6, x7, x8, x9, x10⟩ := hBx.bas
    have HBx := Lib.hid hBx
    have Hno := Lib.hid hno
    clear hBx hno
    have body : t ≤ M → t ≤ A ∨ (A < t ∧ t ≤ L.length) := fun h => by have := HM.out; omega
    have over : ¬ t ≤ M → ¬ t ≤ A ∧ ¬ t ≤ L.length := fun h => by have := HM.out; omega
    by_cases htM : t ≤ M
    · rcases body htM with h1 | ⟨h1, h2⟩
      all_goals
        clear body over
        go_wp2_with fail
        go_at_call 51
        (with_reducible refine (KP.out t (by omega) wr hBw).mono ?_)
        rintro e1 w1 ⟨p, rfl, hp, hb1⟩
        have Hp := Lib.hid hp
        have hBw1 := hBw.trans (hb1.mono (by omega))
        have hBx1 := Lib.hid (HBx.out.below hb1 hwz)
        clear hp
        cases p
        · go_wp2_with fail
          go_roundw
          case rel => exact ⟨t + 1, by omega, by omega, by go_num, fun u g1 g2 => by
            by_cases e : u = t
            · rw [e]; exact fun q => by have := Hp.out.2 q; cases this
            · exact Hno.out u g1 (by omega), hBx1.out, hBw1⟩
          case measure => simp [intOf]; omega
        · go_wp2_with fail
          go_ret
          exact ⟨t, rfl, .inr ⟨t, rfl, ⟨ht1, Hp.out.1 (by first | rfl | trivial), fun u g1 g2 => Nat.le_of_not_lt fun q => Hno.out u g1 q g2⟩, by rw [vsOf_len, HM.out]; exact htM⟩, hBw1⟩
    · obtain ⟨h1, h2⟩ := over htM
      clear body over
      go_wp2_with fail
      go_ret
      exact ⟨-1, rfl, .inl ⟨rfl, never_bounded fun u g1 g2 => Hno.out u g1 (by have := HM.out; rw [vsOf_len] at g2; omega)⟩, hBw⟩
end Go.Proofs.Ytphebdmdbnpokaa

