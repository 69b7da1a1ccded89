/- Joined of: T3. -/
import Derived.Deep.Cut
import Derived.Test.YtphebdmdbnpokaaG07
import Derived.Test.YtphebdmdbnpokaaBF
import Derived.Test.YtphebdmdbnpokaaR7
/- The walk of the reference's Arrivals. (Printed by gen_t3.py.) -/
set_option linter.unusedSimpArgs false
set_option linter.unusedVariables false
namespace Go.Proofs.Ytphebdmdbnpokaa
open Go.RowKit RD
attribute [local go_sem] alloc_drewN setCell_drewN shape_drewN
def RArrIs (X : Bs) (L : List Vl) (town : Nat) (w : World) (e : Ending) (w' : World) : Prop := ∃ g c, e = .returned (.slice (some ⟨g, 0, none⟩) X.N c) ∧ g < w'.heap.size ∧ (∀ v, v < X.N → w'.cell? ⟨g, v, none⟩ = some (.int .i64 (arr X.N X.l3 (vsOf L) X.R town v))) ∧ Below w.heap.size w w'
theorem basA {w : World} {b : Nat} {X : Bs} {a7 : Option Addr} {t : TypeId} (h : Box w b #[.string X.nm, .slice X.a1 X.l1 X.c1, .int .i64 X.cl, .slice X.a3 X.l3 X.c3, .slice X.a4 X.l4 X.c4, .slice X.a5 X.T.length X.c5, .slice X.a6 X.l6 X.c6, .slice a7 X.R.length X.c7, .slice X.a8 X.S.length X.c8, .slice X.a9 X.l9 X.c9, .int .i64 X.er] t) : w.cell? ⟨b, 0, none⟩ = some (.string X.nm) ∧ w.cell? ⟨b, 1, none⟩ = some (.slice X.a1 X.l1 X.c1) ∧ w.cell? ⟨b, 2, none⟩ = some (.int .i64 X.cl) ∧ w.cell? ⟨b, 3, none⟩ = some (.slice X.a3 X.l3 X.c3) ∧ w.cell? ⟨b, 4, none⟩ = some (.slice X.a4 X.l4 X.c4) ∧ w.cell? ⟨b, 5, none⟩ = some (.slice X.a5 X.T.length X.c5) ∧
    w.cell? ⟨b, 6, none⟩ = some (.slice X.a6 X.l6 X.c6) ∧ w.cell? ⟨b, 7, none⟩ = some (.slice a7 X.R.length X.c7) ∧ w.cell? ⟨b, 8, none⟩ = some (.slice X.a8 X.S.length X.c8) ∧ w.cell? ⟨b, 9, none⟩ = some (.slice X.a9 X.l9 X.c9) ∧ w.cell? ⟨b, 10, none⟩ = some (.int .i64 X.er) := ⟨h.cell rfl, h.cell rfl, h.cell rfl, h.cell rfl, h.cell rfl, h.cell rfl, h.cell rfl, h.cell rfl, h.cell rfl, h.cell rfl, h.cell rfl⟩
set_option maxRecDepth 100000 in
set_option maxHeartbeats 16000000 in
theorem rarrivals_any (X : Bs) (C : Option Addr) (c : Nat) (L : List Vl) (town : Nat) (w : World) (hX : BsAt w w.heap.size X) (hV : VlsAt w w.heap.size C L) (hT : X.T.length ≤ 50) (hSl : X.S.length ≤ 50) (hR : X.R.length ≤ 100) (hL : L.length ≤ 1000) (hP : X.l3 ≤ 9223372036854775807) (ht : town < X.T.length) :
    Calls Try.prog 25 #[.agg #[.string X.nm, .slice X.a1 X.l1 X.c1, .int .i64 X.cl, .slice X.a3 X.l3 X.c3, .slice X.a4 X.l4 X.c4, .slice X.a5 X.T.length X.c5, .slice X.a6 X.l6 X.c6, .slice X.a7 X.R.length X.c7, .slice X.a8 X.S.length X.c8, .slice X.a9 X.l9 X.c9, .int .i64 X.er], .int .i64 town, .slice C L.length c] w (RArrIs X L town w) := by
  obtain ⟨i1, gi, gz0, gz1, gz2⟩ := info_parts infoInt
  obtain ⟨N, hN⟩ : ∃ N, N = X.N := ⟨_, rfl⟩
  have hNs : N = X.T.length + X.S.length := hN
  have hN1 : (X.T.length : Int) + (X.S.length : Int) = (N : Int) := by omega
  have hNb : N ≤ 100 := by omega
  have htN : town < N := by omega
  have hbl : BsLen X := ⟨by omega, by omega, by omega, hP⟩
  have KU := Lib.hid (fun (r : Rd) (wx : World) => rusable_any X r wx hbl)
  unfold UsIs at KU
  have KL := Lib.hid (fun (k : Nat) (r : Rd) (hr : X.R[k]? = some r) (hu : usableB X.N X.l3 r = true) (a : Nat) (ha : a ≤ 900000) (wx : World) (h : Below w.heap.size w wx) => leave_any X k r C c L a wx ((hX.r.below h).more h.size) ((hV.below h).more h.size) hbl hL ha hr hu)
  unfold LeaveIs at KL
  rw [← hN] at KU KL
  have hXr := hX.r
  obtain ⟨a7, ha7⟩ : ∃ a, X.a7 = a := ⟨_, rfl⟩
  rw [ha7] at hXr KU KL
  rw [ha7]
  have HXr := Lib.hid hXr
  have HNN := Lib.hid hN
  have hX0 : Box (w.alloc (.cells #[.string X.nm, .slice X.a1 X.l1 X.c1, .int .i64 X.cl, .slice X.a3 X.l3 X.c3, .slice X.a4 X.l4 X.c4, .slice X.a5 X.T.length X.c5, .slice X.a6 X.l6 X.c6, .slice a7 X.R.length X.c7, .slice X.a8 X.S.length X.c8, .slice X.a9 X.l9 X.c9, .int .i64 X.er] 31)) w.heap.size #[.string X.nm, .slice X.a1 X.l1 X.c1, .int .i64 X.cl, .slice X.a3 X.l3 X.c3, .slice X.a4 X.l4 X.c4, .slice X.a5 X.T.length X.c5, .slice X.a6 X.l6 X.c6, .slice a7 X.R.length X.c7, .slice X.a8 X.S.length X.c8, .slice X.a9 X.l9 X.c9, .int .i64 X.er] 31 := Box.new w _ _
  have hB0 : Below w.heap.size w (w.alloc (.cells #[.string X.nm, .slice X.a1 X.l1 X.c1, .int .i64 X.cl, .slice X.a3 X.l3 X.c3, .slice X.a4 X.l4 X.c4, .slice X.a5 X.T.length X.c5, .slice X.a6 X.l6 X.c6, .slice a7 X.R.length X.c7, .slice X.a8 X.S.length X.c8, .slice X.a9 X.l9 X.c9, .int .i64 X.er] 31)) := (Below.refl _ _).alloc (Nat.le_refl _) _
  have hvl := vsOf_len L
  have Hvl := Lib.hid hvl
  clear hX hV hbl hXr ha7 hN hNs hP hvl
  go_enter Try.func25, Try.ntmps25
  go_wp2_with fail
  go_loopw [7, 8] (fun cv kv wr => ∃ k, k ≤ N ∧ kv = .int .i64 (k : Nat) ∧ wr.ownsRow (w.heap.size + 1) 3 1 cv k ((List.replicate k (-1 : Int)).map (Value.int .i64)) ∧ Box wr w.heap.size #[.string X.nm, .slice X.a1 X.l1 X.c1, .int .i64 X.cl, .slice X.a3 X.l3 X.c3, .slice X.a4 X.l4 X.c4, .slice X.a5 X.T.length X.c5, .slice X.a6 X.l6 X.c6, .slice a7 X.R.length X.c7, .slice X.a8 X.S.length X.c8, .slice X.a9 X.l9 X.c9, .int .i64 X.er] 31 ∧ Below w.heap.size w wr) (fun _ kv _ => N - (intOf kv).toNat)
  case atStart => exact ⟨0, Nat.zero_le _, rfl, World.ownsRow_nil _ _ _ _, hX0, hB0⟩
  case round =>
    clear hX0 hB0
    obtain ⟨k, hk, rfl, hrow, hBx, hBw⟩ := hrel
    have hwz := hBx.lt
    have x5 : wr.cell? ⟨w.heap.size, 5, none⟩ = some (.slice X.a5 X.T.length X.c5) := hBx.cell rfl
    have x8 : wr.cell? ⟨w.heap.size, 8, none⟩ = some (.slice X.a8 X.S.length X.c8) := hBx.cell rfl
    have Hrow := Lib.hid hrow
    have HBx := Lib.hid hBx
    clear hrow hBx
    by_cases hlt : k < N
    · go_wp2_with (first | (at_builtin; refine wpList_append_any _ (by rfl) _ _ 29 (by rfl) (w.heap.size + 1) 3 i1 _ 1 8 Try.underlying29 gi gz0 gz1 gz2 rfl (by decide) _ k _ (by rfl) (Hrow.out.alloc _) (_ + 1) (some ⟨wr.heap.size, 0, none⟩) 1 1 [.int .i64 (-1)] (by rfl) ⟨rfl, fun _ => ⟨_, rfl, Nat.lt_succ_self _, cells_at (by rfl) _ _⟩⟩ (fun x hx => by obtain rfl := List.mem_singleton.1 hx; rfl) (by unfold maxLen; omega) (by omega) (by simp; omega) ?_; intro v' w9 hO9 hG9 hob9; replace hO9 := Lib.hid hO9; replace hG9 := Lib.hid hG9; clear hob9) | fail)
      have hG := Plan.grown_go (Plan.grown_alloc (grown_refl _ _) _) hG9.out
      go_roundw
      case rel => exact ⟨k + 1, by omega, by go_num, by
        rw [List.replicate_succ', List.map_append]; exact hO9.out, row_box Hrow.out hG HBx.out, row_bel Hrow.out hG hBw (by omega)⟩
      case measure => simp [intOf]; omega
    · obtain rfl : N = k := by omega
      obtain ⟨o, cw, hwv, _⟩ := ad_of_owns Hrow.out
      subst hwv
      have Hrow : Hid (RevRow wr (w.heap.size + 1) o cw N (List.replicate N (-1))) := Lib.hid Hrow.out
      obtain ⟨g, ho, hg1, hg2, hcell⟩ := RevRow.get Hrow.out (by omega)
      subst ho
      have hc0 := (hcell town htN).1
      have hf0 := (hcell town htN).2
      have Hset := Lib.hid (RevRow.set Hrow.out town 0)
      have HBx2 : Hid (Box (wr.setCell ⟨g, town, none⟩ (.int .i64 0)) w.heap.size #[.string X.nm, .slice X.a1 X.l1 X.c1, .int .i64 X.cl, .slice X.a3 X.l3 X.c3, .slice X.a4 X.l4 X.c4, .slice X.a5 X.T.length X.c5, .slice X.a6 X.l6 X.c6, .slice a7 X.R.length X.c7, .slice X.a8 X.S.length X.c8, .slice X.a9 X.l9 X.c9, .int .i64 X.er] 31) := HBx.out.keep (Below.heap_setCell wr ⟨g, town, none⟩ (.int .i64 0) w.heap.size (by show w.heap.size ≠ g; omega))
      have HB2 : Hid (Below w.heap.size w (wr.setCell ⟨g, town, none⟩ (.int .i64 0))) := hBw.setCell (by show w.heap.size ≤ g; omega) _
      clear hcell Hrow HBx hlt hk
      unfold ad at *
      dsimp only [Option.map] at *
      go_wp2_with fail
      generalize wr.setCell ⟨g, town, none⟩ (.int .i64 0) = w2 at Hset HBx2 HB2 ⊢
      clear hBw hc0 hf0 x5 x8 hwz hg2
      obtain ⟨KK, hKK⟩ : ∃ KK, KK = (vsOf L).length + 24 * N + 1 := ⟨_, rfl⟩
      have HKK := Lib.hid hKK
      clear hKK
      go_loopg [9] (pot KK ((List.replicate N (-1)).set town 0) + 1) (fun gh mv wr => ∃ (D : List Int) (more : Bool), mv = .bool more ∧ BF N X.l3 (vsOf L) X.R town D ∧ pot KK D + (if more = true then 1 else 0) ≤ gh ∧ (more = false → ∀ r ∈ X.R, Fine N X.l3 (vsOf L) D r) ∧ RevRow wr (w.heap.size + 1) (some g) cw N D ∧ Box wr w.heap.size #[.string X.nm, .slice X.a1 X.l1 X.c1, .int .i64 X.cl, .slice X.a3 X.l3 X.c3, .slice X.a4 X.l4 X.c4, .slice X.a5 X.T.length X.c5, .slice X.a6 X.l6 X.c6, .slice a7 X.R.length X.c7, .slice X.a8 X.S.length X.c8, .slice X.a9 X.l9 X.c9, .int .i64 X.er] 31 ∧ Below w.heap.size w wr)
      case atStart => exact ⟨_, true, rfl, BF.begin htN, by simp, (fun h => by cases h), Hset.out, HBx2.out, HB2.out⟩
      case round =>
        clear Hset HBx2 HB2
        obtain ⟨D, more, rfl, hBF, hpot, hfin, hrow, hBx, hBw⟩ := hrel
        have Hrow := Lib.hid hrow
        have HBx := Lib.hid hBx
        have HBF := Lib.hid hBF
        have Hfin := Lib.hid hfin
        have Hpot := Lib.hid hpot
        clear hrow hBx hBF hfin hpot
        cases more
        · go_wp2_with fail
          go_ret
          obtain ⟨g', hg', _, hgz, hcell⟩ := RevRow.get Hrow.out (by omega)
          obtain rfl := Option.some.inj hg'
          have hlenD := HBF.out.len
          exact ⟨g, cw, by rw [← HNN.out]; rfl, hgz, fun v hv => by
            rw [← HNN.out] at hv ⊢
            rw [← HBF.out.done (Hfin.out (by first | rfl | trivial)) hv, (hcell v hv).1, List.getD_eq_getElem?_getD, List.getD_eq_getElem?_getD, List.getElem?_eq_getElem (by omega)]; rfl, hBw⟩
        · go_wp2_with fail
          go_loopw [9, 10] (fun mv rv wr => ∃ (k : Nat) (E : List Int) (mo : Bool), k ≤ X.R.length ∧ rv = .int .i64 k ∧ mv = .bool mo ∧ BF N X.l3 (vsOf L) X.R town E ∧ (mo = true → pot KK E < pot KK D) ∧ (mo = false → E = D ∧ ∀ r ∈ X.R.take k, Fine N X.l3 (vsOf L) D r) ∧ RevRow wr (w.heap.size + 1) (some g) cw N E ∧ Box wr w.heap.size #[.string X.nm, .slice X.a1 X.l1 X.c1, .int .i64 X.cl, .slice X.a3 X.l3 X.c3, .slice X.a4 X.l4 X.c4, .slice X.a5 X.T.length X.c5, .slice X.a6 X.l6 X.c6, .slice a7 X.R.length X.c7, .slice X.a8 X.S.length X.c8, .slice X.a9 X.l9 X.c9, .int .i64 X.er] 31 ∧ Below w.heap.size w wr) (fun _ rv _ => X.R.length - (intOf rv).toNat)
          case atStart => exact ⟨0, D, false, Nat.zero_le _, rfl, rfl, HBF.out, (fun h => by cases h), (fun _ => ⟨rfl, fun r hr => by simp at hr⟩), Hrow.out, HBx.out, hBw⟩
          case round =>
            clear Hrow HBx hBw HBF Hfin
            obtain ⟨k, E, mo, hk, rfl, rfl, hBF, hm1, hm0, hrow, hBx, hBw⟩ := hrel
            have hwz := hBx.lt
            have x7 : wr.cell? ⟨w.heap.size, 7, none⟩ = some (.slice a7 X.R.length X.c7) := hBx.cell rfl
            by_cases hlt : k < X.R.length
            · skip
              obtain ⟨r, hr⟩ : ∃ r, X.R[k]? = some r := ⟨_, List.getElem?_eq_getElem hlt⟩
              obtain ⟨b, off, ec, hb, c0, c1, c2, c3, c4, c5, c6⟩ := road_at (HXr.out.below hBw) hr
              subst ec
              have hbw : b < wr.heap.size := by omega
              obtain ⟨x0, x1, x2, x3, x4, x5, x6, _, x8, x9, x10⟩ := basA hBx
              have Hr := Lib.hid hr
              have Htk : Hid (X.R.take (k + 1) = X.R.take k ++ [r]) := take_snoc_at hr
              have HBx := Lib.hid hBx
              have HBF := Lib.hid hBF
              have Hm1 := Lib.hid hm1
              have Hm0 := Lib.hid hm0
              have Hrow := Lib.hid hrow
              have hfine : ∀ (F : Fine N X.l3 (vsOf L) E r), mo = false → E = D ∧ ∀ q ∈ X.R.take (k + 1), Fine N X.l3 (vsOf L) D q := fun F h => by
                obtain ⟨e, g⟩ := Hm0.out h
                refine ⟨e, fun q hq => ?_⟩
                rw [Htk.out] at hq
                rcases List.mem_append.1 hq with hq | hq
                · exact g q hq
                · obtain rfl := List.mem_singleton.1 hq
                  rw [← e]; exact F
              have Hfine := Lib.hid hfine
              have hb0 := Lib.hid ((Below.refl wr.heap.size wr).alloc (Nat.le_refl _) (.cells (roadC r).toArray 56))
              have hbx0 := Lib.hid (Box.new wr (roadC r).toArray 56)
              clear hr hBx hBF hm1 hm0 hrow hfine
              have KUr := Lib.hid (KU.out r)
              cases hu : usableB N X.l3 r
              · rw [hu] at KUr
                have hF : Hid (Fine N X.l3 (vsOf L) E r) := fun h => by rw [hu] at h; cases h
                clear hu
                go_wp2_with fail
                go_at_call 30
                (with_reducible refine (KUr.out _).mono ?_)
                rintro e1 w4 ⟨rfl, hb4⟩
                have hb5 := hb0.out.trans (hb4.mono hb0.out.size)
                have HBx4 := Lib.hid (HBx.out.below hb5 hwz)
                clear x0 x1 x2 x3 x4 x5 x6 x7 x8 x9 x10 c0 c1 c2 c3 c4 c5 c6
                go_wp2_with fail
                go_roundw
                case rel => exact ⟨k + 1, E, mo, by omega, by go_num, rfl, HBF.out, Hm1.out, Hfine.out hF.out, row_below Hrow.out hb5, HBx4.out, hBw.trans (hb5.mono (by omega))⟩
                case measure => simp [intOf]; omega
              · rw [hu] at KUr
                have hu' := usable_iff.1 hu
                obtain ⟨f, hf⟩ := Int.eq_ofNat_of_zero_le hu'.1
                obtain ⟨tt, htt⟩ := Int.eq_ofNat_of_zero_le hu'.2.2.1
                obtain ⟨hh, hhh⟩ := Int.eq_ofNat_of_zero_le (show 0 ≤ r.hours by omega)
                have hfN : f < N := by omega
                have httN : tt < N := by omega
                have hh24 : hh ≤ 24 := by omega
                have Hu := Lib.hid hu
                have Hf := Lib.hid hf
                have Htt := Lib.hid htt
                have Hhh := Lib.hid hhh
                clear hu hu' hf htt hhh
                go_wp2_with fail
                go_at_call 30
                (with_reducible refine (KUr.out _).mono ?_)
                rintro e1 w4 ⟨rfl, hb4⟩
                have hb5 := hb0.out.trans (hb4.mono hb0.out.size)
                have hr4 := hbx0.out.below hb4 (by simp)
                have HBx4 := Lib.hid (HBx.out.below hb5 hwz)
                have HB4 := Lib.hid (hBw.trans (hb5.mono (by omega)))
                have Hrow4 : Hid (RevRow w4 (w.heap.size + 1) (some g) cw N E) := row_below Hrow.out hb5
                obtain ⟨g', hg', hgb, hgz, hcell⟩ := RevRow.get Hrow4.out (by omega)
                obtain rfl := Option.some.inj hg'
                have cf := (hcell f hfN).1
                have ct := (hcell tt httN).1
                have ft := (hcell tt httN).2
                have lenE := HBF.out.len
                have eqD : ∀ v, v < N → E.getD v 0 = E.getD v (-1) := fun v hv => by
                  rw [List.getD_eq_getElem?_getD, List.getD_eq_getElem?_getD, List.getElem?_eq_getElem (by omega)]; rfl
                rw [eqD f hfN] at cf
                rw [eqD tt httN] at ct
                obtain ⟨_, r1, r2, r3, _, _, _⟩ := hr4.road
                rw [Hf.out] at r1
                rw [Htt.out] at r2
                rw [Hhh.out] at r3
                have hrz := hr4.lt
                clear x0 x1 x2 x3 x4 x5 x6 x7 x8 x9 x10 c0 c1 c2 c3 c4 c5 c6 hcell eqD lenE hr4 hg'
                have hvle := HBF.out.val_le hfN
                have hvl2 := Hvl.out
                have hrel4 : ∀ (F : Fine N X.l3 (vsOf L) E r) w5 (hb : Below w4.heap.size w4 w5), (mo = false → E = D ∧ ∀ q ∈ X.R.take (k + 1), Fine N X.l3 (vsOf L) D q) ∧ RevRow w5 (w.heap.size + 1) (some g) cw N E ∧ Box w5 w.heap.size #[.string X.nm, .slice X.a1 X.l1 X.c1, .int .i64 X.cl, .slice X.a3 X.l3 X.c3, .slice X.a4 X.l4 X.c4, .slice X.a5 X.T.length X.c5, .slice X.a6 X.l6 X.c6, .slice (some ⟨b, off, none⟩) X.R.length X.c7, .slice X.a8 X.S.length X.c8, .slice X.a9 X.l9 X.c9, .int .i64 X.er] 31 ∧ Below w.heap.size w w5 := fun F w5 hb => ⟨Hfine.out F, row_below Hrow4.out hb, HBx4.out.below hb (by have := hb5.size; omega), HB4.out.trans (hb.mono (by have := hb5.size; omega))⟩
                have Hrel4 := Lib.hid hrel4
                clear hrel4
                obtain ⟨vf, hvf⟩ : ∃ x, E.getD f (-1) = x := ⟨_, rfl⟩
                rw [hvf] at cf hvle
                have Hvf := Lib.hid hvf
                clear hvf
                by_cases hneg : vf < 0
                · have hF : Hid (Fine N X.l3 (vsOf L) E r) := fun _ b' t' he _ => by
                    rw [Hf.out, Int.toNat_natCast, Hvf.out] at he; omega
                  go_wp2_with fail
                  go_roundw
                  case rel => exact ⟨k + 1, E, mo, by omega, by go_num, rfl, HBF.out, Hm1.out, Hrel4.out hF.out _ (Below.refl _ _)⟩
                  case measure => simp [intOf]; omega
                · obtain ⟨bb, hbb⟩ := Int.eq_ofNat_of_zero_le (show 0 ≤ vf by omega)
                  subst hbb
                  have hbb9 : bb ≤ 900000 := by omega
                  have KLr := Lib.hid (fun wx h => KL.out k r Hr.out Hu.out bb hbb9 wx h)
                  obtain ⟨y0, y1, y2, y3, y4, y5, y6, y7, y8, y9, y10⟩ := basA HBx4.out
                  have hwz4 : w.heap.size < w4.heap.size := HBx4.out.lt
                  obtain ⟨vt, hvt⟩ : ∃ x, E.getD tt (-1) = x := ⟨_, rfl⟩
                  rw [hvt] at ct
                  have Hvt := Lib.hid hvt
                  clear hvt
                  go_wp2_with fail
                  refine Plan.wp_region_below 9 [(0, true), (1, true), (2, true), (3, true), (4, true), (5, true), (6, true), (7, true), (8, false), (9, false)] (by kernel_rfl) (by kernel_rfl) ?_
                  (repeat (first | (refine Plan.plan_read (v := ?_) rfl rfl ?_ ?_; rotate_left; (focus ((intro wS hSw; have hkS := (bcell hSw).1; try (have hkT := fun (b o : Nat) (h : b < w.heap.size) => hkS b o (by first | omega | (simp; omega) | (simp; done))); go_simp); try with_reducible rfl)); simp only [Act.put, List.setIfInBounds_toArray, List.set_cons_zero, List.set_cons_succ]) | (refine Plan.plan_skip rfl rfl ?_; simp only [Act.put, List.setIfInBounds_toArray, List.set_cons_zero, List.set_cons_succ])))
                  refine Plan.plan_write rfl (fun K hK => ?_)
                  go_simp
                  go_at_call 40
                  (with_reducible refine (KLr.out _ HB4.out.drew).mono ?_)
                  rintro e2 w5 ⟨v, rfl, hv, hb6⟩
                  have kB := Plan.below_drew_go hb6
                  have hv := Lib.hid hv
                  refine hK.out _ _ kB ?_
                  clear hK K
                  try simp only [Act.put, List.setIfInBounds_toArray, List.set_cons_zero, List.set_cons_succ]
                  (repeat (first | (refine Plan.plan_read (v := ?_) rfl rfl ?_ ?_; rotate_left; (focus ((intro wS hSw; have hkS := (bcell hSw).1; try (have hkT := fun (b o : Nat) (h : b < w.heap.size) => hkS b o (by first | omega | (simp; omega) | (simp; done))); go_simp); try with_reducible rfl)); simp only [Act.put, List.setIfInBounds_toArray, List.set_cons_zero, List.set_cons_succ]) | (refine Plan.plan_skip rfl rfl ?_; simp only [Act.put, List.setIfInBounds_toArray, List.set_cons_zero, List.set_cons_succ])))
                  refine Plan.plan_last rfl (fun K hK => ?_)
                  go_simp
                  refine hK.out _ _ ?_
                  clear hK K
                  try simp only [Act.put, List.setIfInBounds_toArray, List.set_cons_zero, List.set_cons_succ]
                  have s2 : w5.cell? ⟨wr.heap.size, 2, none⟩ = some (.int .i64 (tt : Int)) := (kB.cell (p := ⟨wr.heap.size, 2, none⟩) hrz).trans r2
                  have s3 : w5.cell? ⟨wr.heap.size, 3, none⟩ = some (.int .i64 (hh : Int)) := (kB.cell (p := ⟨wr.heap.size, 3, none⟩) hrz).trans r3
                  have st : w5.cell? ⟨g, tt, none⟩ = some (.int .i64 vt) := (kB.cell (p := ⟨g, tt, none⟩) hgz).trans ct
                  have sf : w5.frozen? ⟨g, tt, none⟩ = false := (kB.frozen (p := ⟨g, tt, none⟩) hgz).trans ft
                  have hz5 := kB.size
                  have hrz5 : wr.heap.size < w5.heap.size := by omega
                  have hgz5 : g < w5.heap.size := by omega
                  clear y0 y1 y2 y3 y4 y5 y6 y7 y8 y9 y10 r1 r2 r3 cf ct ft
                  rcases hv.out with ⟨hv1, hv2⟩ | ⟨t, hv1, hv2, hv3⟩
                  · subst hv1
                    have hF : Hid (Fine N X.l3 (vsOf L) E r) := fun _ b' t' he hl => by
                      rw [Hf.out, Int.toNat_natCast, Hvf.out] at he
                      exact absurd hl.2.1 (hv2 t' (by have := hl.1; omega))
                    clear hv2
                    go_wp2_with fail
                    refine Plan.wp_region_below 21 [(0, true), (1, true), (2, true), (3, true), (4, true), (5, true), (6, true), (7, true), (8, true), (9, true), (10, true), (11, true), (12, true), (13, true), (14, true), (15, true), (16, true), (17, true), (18, true), (19, true), (20, true), (21, false)] (by kernel_rfl) (by kernel_rfl) ?_
                    (repeat (first | (refine Plan.plan_read (v := ?_) rfl rfl ?_ ?_; rotate_left; (focus ((intro wS hSw; have hkS := (bcell hSw).1; try (have hkT := fun (b o : Nat) (h : b < w.heap.size) => hkS b o (by first | omega | (simp; omega) | (simp; done))); go_simp); try with_reducible rfl)); simp only [Act.put, List.setIfInBounds_toArray, List.set_cons_zero, List.set_cons_succ]) | (refine Plan.plan_skip rfl rfl ?_; simp only [Act.put, List.setIfInBounds_toArray, List.set_cons_zero, List.set_cons_succ])))
                    refine Plan.plan_last rfl (fun K hK => ?_)
                    go_simp
                    refine hK.out _ _ ?_
                    clear hK K
                    try simp only [Act.put, List.setIfInBounds_toArray, List.set_cons_zero, List.set_cons_succ]
                    go_wp2_with fail
                    go_roundw
                    case rel => exact ⟨k + 1, E, mo, by omega, by go_num, rfl, HBF.out, Hm1.out, Hrel4.out hF.out _ kB.drew⟩
                    case measure => simp [intOf]; omega
                  · subst hv1
                    obtain ⟨x, hx⟩ : ∃ x, x = t + hh := ⟨_, rfl⟩
                    have hxb : x ≤ 2000000 := by have := hv2.bound; omega
                    have hq1 : IntKind.i64.wrap ((t : Int) + (hh : Int)) = (x : Int) := by rw [IntKind.wrap_i64]; omega
                    have hq2 : (t : Int) + (hh : Int) = (x : Int) := by omega
                    have hq3 : IntKind.i64.wrap (x : Int) = (x : Int) := by rw [IntKind.wrap_i64]; omega
                    have hfr : E.getD r.frm.toNat (-1) = (bb : Int) := by rw [Hf.out, Int.toNat_natCast, Hvf.out]
                    have hgo : ∀ h : vt < 0 ∨ (x : Int) < vt, BF N X.l3 (vsOf L) X.R town (E.set tt (x : Int)) ∧ pot KK (E.set tt (x : Int)) < pot KK D := fun h => by
                      have q := HBF.out.step (List.mem_of_getElem? Hr.out) Hu.out hfr hv2 (by rw [Htt.out, Hhh.out, Int.toNat_natCast, Int.toNat_natCast, Hvt.out, ← hx]; exact h) htN
                      rw [Htt.out, Hhh.out, Int.toNat_natCast, Int.toNat_natCast, ← hx, ← HKK.out] at q
                      refine ⟨q.1, ?_⟩
                      cases mo
                      · rw [← (Hm0.out rfl).1]; exact q.2.1
                      · have := Hm1.out rfl; have := q.2.1; omega
                    have hst : ∀ h : vt < 0 ∨ (x : Int) < vt, BF N X.l3 (vsOf L) X.R town (E.set tt (x : Int)) ∧ (true = true → pot KK (E.set tt (x : Int)) < pot KK D) ∧ (true = false → E.set tt (x : Int) = D ∧ ∀ r ∈ X.R.take (k + 1), Fine N X.l3 (vsOf L) D r) ∧ RevRow (w5.drew.setCell ⟨g, tt, none⟩ (.int .i64 (x : Int))) (w.heap.size + 1) (some g) cw N (E.set tt (x : Int)) ∧ Box (w5.drew.setCell ⟨g, tt, none⟩ (.int .i64 (x : Int))) w.heap.size #[.string X.nm, .slice X.a1 X.l1 X.c1, .int .i64 X.cl, .slice X.a3 X.l3 X.c3, .slice X.a4 X.l4 X.c4, .slice X.a5 X.T.length X.c5, .slice X.a6 X.l6 X.c6, .slice (some ⟨b, off, none⟩) X.R.length X.c7, .slice X.a8 X.S.length X.c8, .slice X.a9 X.l9 X.c9, .int .i64 X.er] 31 ∧ Below w.heap.size w (w5.drew.setCell ⟨g, tt, none⟩ (.int .i64 (x : Int))) := fun h => by
                      have hk5 := kB.drew
                      have hwz5 : w.heap.size < w5.heap.size := by omega
                      exact ⟨(hgo h).1, (fun _ => (hgo h).2), (fun e => by cases e), RevRow.set (row_below Hrow4.out hk5) tt (x : Int), (HBx4.out.below hk5 hwz4).keep (Below.heap_setCell w5.drew ⟨g, tt, none⟩ (.int .i64 (x : Int)) w.heap.size (by show w.heap.size ≠ g; omega)), (HB4.out.trans (hk5.mono (by omega))).setCell (by show w.heap.size ≤ g; omega) _⟩
                    have Hst := Lib.hid hst
                    have hF : ¬ vt < 0 → ¬ (x : Int) < vt → Fine N X.l3 (vsOf L) E r := fun h1 h2 _ b' t' he hl => by
                      rw [hfr] at he
                      obtain rfl : bb = b' := by omega
                      obtain rfl := hl.uniq hv2
                      rw [Htt.out, Hhh.out, Int.toNat_natCast, Int.toNat_natCast, Hvt.out, ← hx]
                      omega
                    have HF := Lib.hid hF
                    clear hv2 hv3 hx hfr hgo hst hF
                    by_cases h1 : vt < 0
                    · have e1 : decide (vt < 0) = true := decide_eq_true h1
                      have Hs := Lib.hid (Hst.out (.inl h1))
                      clear Hst HF
                      go_wp2_with fail
                      refine Plan.wp_region_below 21 [(0, true), (1, true), (2, true), (3, true), (4, true), (5, true), (6, true), (7, true), (8, true), (9, true), (10, true), (11, true), (12, true), (13, true), (14, true), (15, true), (16, true), (17, true), (18, true), (19, true), (20, true), (21, false)] (by kernel_rfl) (by kernel_rfl) ?_
                      (repeat (first | (refine Plan.plan_read (v := ?_) rfl rfl ?_ ?_; rotate_left; (focus ((intro wS hSw; have hkS := (bcell hSw).1; try (have hkT := fun (b o : Nat) (h : b < w.heap.size) => hkS b o (by first | omega | (simp; omega) | (simp; done))); go_simp); try with_reducible rfl)); simp only [Act.put, List.setIfInBounds_toArray, List.set_cons_zero, List.set_cons_succ]) | (refine Plan.plan_skip rfl rfl ?_; simp only [Act.put, List.setIfInBounds_toArray, List.set_cons_zero, List.set_cons_succ])))
                      refine Plan.plan_last rfl (fun K hK => ?_)
                      go_simp
                      refine hK.out _ _ ?_
                      clear hK K
                      try simp only [Act.put, List.setIfInBounds_toArray, List.set_cons_zero, List.set_cons_succ]
                      have s2' : w5.drew.cell? ⟨wr.heap.size, 2, none⟩ = some (.int .i64 (tt : Int)) := s2
                      have s3' : w5.drew.cell? ⟨wr.heap.size, 3, none⟩ = some (.int .i64 (hh : Int)) := s3
                      have st' : w5.drew.cell? ⟨g, tt, none⟩ = some (.int .i64 vt) := st
                      have sf' : w5.drew.frozen? ⟨g, tt, none⟩ = false := sf
                      go_wp2_with fail
                      go_roundw
                      case rel => exact ⟨k + 1, E.set tt (x : Int), true, by omega, by go_num, rfl, Hs.out.1, (fun _ => Hs.out.2.1 (by first | rfl | trivial)), Hs.out.2.2⟩
                      case measure => simp [intOf]; omega
                    · have e1 : decide (vt < 0) = false := decide_eq_false h1
                      by_cases h2 : (x : Int) < vt
                      · have e2 : decide ((x : Int) < vt) = true := decide_eq_true h2
                        have Hs := Lib.hid (Hst.out (.inr h2))
                        clear Hst HF
                        go_wp2_with fail
                        refine Plan.wp_region_below 21 [(0, true), (1, true), (2, true), (3, true), (4, true), (5, true), (6, true), (7, true), (8, true), (9, true), (10, true), (11, true), (12, true), (13, true), (14, true), (15, true), (16, true), (17, true), (18, true), (19, true), (20, true), (21, false)] (by kernel_rfl) (by kernel_rfl) ?_
                        (repeat (first | (refine Plan.plan_read (v := ?_) rfl rfl ?_ ?_; rotate_left; (focus ((intro wS hSw; have hkS := (bcell hSw).1; try (have hkT := fun (b o : Nat) (h : b < w.heap.size) => hkS b o (by first | omega | (simp; omega) | (simp; done))); go_simp); try with_reducible rfl)); simp only [Act.put, List.setIfInBounds_toArray, List.set_cons_zero, List.set_cons_succ]) | (refine Plan.plan_skip rfl rfl ?_; simp only [Act.put, List.setIfInBounds_toArray, List.set_cons_zero, List.set_cons_succ])))
                        refine Plan.plan_last rfl (fun K hK => ?_)
                        go_simp
                        refine hK.out _ _ ?_
                        clear hK K
                        try simp only [Act.put, List.setIfInBounds_toArray, List.set_cons_zero, List.set_cons_succ]
                        have s2' : w5.drew.cell? ⟨wr.heap.size, 2, none⟩ = some (.int .i64 (tt : Int)) := s2
                        have s3' : w5.drew.cell? ⟨wr.heap.size, 3, none⟩ = some (.int .i64 (hh : Int)) := s3
                        have st' : w5.drew.cell? ⟨g, tt, none⟩ = some (.int .i64 vt) := st
                        have sf' : w5.drew.frozen? ⟨g, tt, none⟩ = false := sf
                        go_wp2_with fail
                        go_roundw
                        case rel => exact ⟨k + 1, E.set tt (x : Int), true, by omega, by go_num, rfl, Hs.out.1, (fun _ => Hs.out.2.1 (by first | rfl | trivial)), Hs.out.2.2⟩
                        case measure => simp [intOf]; omega
                      · have e2 : decide ((x : Int) < vt) = false := decide_eq_false h2
                        have HF2 := Lib.hid (HF.out h1 h2)
                        clear Hst HF
                        go_wp2_with fail
                        refine Plan.wp_region_below 21 [(0, true), (1, true), (2, true), (3, true), (4, true), (5, true), (6, true), (7, true), (8, true), (9, true), (10, true), (11, true), (12, true), (13, true), (14, true), (15, true), (16, true), (17, true), (18, true), (19, true), (20, true), (21, false)] (by kernel_rfl) (by kernel_rfl) ?_
                        (repeat (first | (refine Plan.plan_read (v := ?_) rfl rfl ?_ ?_; rotate_left; (focus ((intro wS hSw; have hkS := (bcell hSw).1; try (have hkT := fun (b o : Nat) (h : b < w.heap.size) => hkS b o (by first | omega | (simp; omega) | (simp; done))); go_simp); try with_reducible rfl)); simp only [Act.put, List.setIfInBounds_toArray, List.set_cons_zero, List.set_cons_succ]) | (refine Plan.plan_skip rfl rfl ?_; simp only [Act.put, List.setIfInBounds_toArray, List.set_cons_zero, List.set_cons_succ])))
                        refine Plan.plan_last rfl (fun K hK => ?_)
                        go_simp
                        refine hK.out _ _ ?_
                        clear hK K
                        try simp only [Act.put, List.setIfInBounds_toArray, List.set_cons_zero, List.set_cons_succ]
                        go_wp2_with fail
                        go_roundw
                        case rel => exact ⟨k + 1, E, mo, by omega, by go_num, rfl, HBF.out, Hm1.out, Hrel4.out HF2.out _ kB.drew⟩
                        case measure => simp [intOf]; omega
            · obtain rfl : X.R.length = k := by omega
              rw [List.take_length] at hm0
              have HBF := Lib.hid hBF
              have Hm1 := Lib.hid hm1
              have Hm0 := Lib.hid hm0
              have Hrow := Lib.hid hrow
              have HBx := Lib.hid hBx
              clear hBF hm1 hm0 hrow hBx
              go_wp2_with fail
              go_roundg (pot KK E + (if mo = true then 1 else 0))
              case measure =>
                have := Hpot.out
                cases mo
                · rw [(Hm0.out rfl).1]; simp at this ⊢; omega
                · have := Hm1.out rfl; simp at *; omega
              case rel => exact ⟨E, mo, rfl, HBF.out, Nat.le_refl _, (fun h => by rw [(Hm0.out h).1]; exact (Hm0.out h).2), Hrow.out, HBx.out, hBw⟩
end Go.Proofs.Ytphebdmdbnpokaa

