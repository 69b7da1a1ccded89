/- Joined of: LR R0. -/
import Derived.Deep.Cut
import Derived.Lib.SmallJoins
import Derived.SizedLaws
import Derived.Deep.DeepHandedRow
import Derived.Lib.LaidTab
import Derived.Stop.LaidErr
import Derived.Test.YtkbceeobnbbfbaaDoorG11
import Derived.Test.YtkbceeobnbbfbaaDoorG09
import Derived.Test.YtkbceeobnbbfbaaDoorG10
import Derived.Test.YtkbceeobnbbfbaaDoorG14
import Derived.Test.YtkbceeobnbbfbaaDoorCards
import Derived.Test.YtkbceeobnbbfbaaDoorTie
import Derived.Test.YtkbceeobnbbfbaaDoorG05
/- CallRoster: for every input the law answers true. (Printed by gen_lr.py.) -/
set_option linter.unusedSimpArgs false
set_option linter.unusedVariables false
namespace Go.Proofs.YtkbceeobnbbfbaaDoor
open Go.RowKit CM RR RR.RG
attribute [local go_sem] alloc_drewN setCell_drewN shape_drewN

theorem rowD_one (A : List Dl) : ∀ u ∈ rowD A, u.oneCell' = true := fun u hu => by
  obtain ⟨e, _, h⟩ := List.mem_flatMap.1 hu
  exact dl_one e u h
theorem rowD_snoc (A : List Dl) (x : Dl) : rowD (A ++ [x]) = rowD A ++ x.cells := by simp [rowD]
theorem deals_of_owns {w : World} {base e : Nat} {v : Value} {A : List Dl} (h : w.ownsRow base e 13 v A.length (rowD A)) : ∃ C cc, v = .slice C A.length cc ∧ DealsAt w w.heap.size C A ∧ ∀ a, C = some a → base ≤ a.block := rowk_of_owns dl_len h
def earlyL (known : Int) (A : List Dl) : List Dl := A.filter (fun d => decide (d.known ≤ known))
theorem earlyL_take (known : Int) (A : List Dl) {k : Nat} {x : Dl} (h : A[k]? = some x) : earlyL known (A.take (k + 1)) = if x.known ≤ known then earlyL known (A.take k) ++ [x] else earlyL known (A.take k) := by
  unfold earlyL
  rw [List.take_add_one, h, List.filter_append]
  by_cases e : x.known ≤ known <;> simp [List.filter, e]
set_option maxRecDepth 100000 in
set_option maxHeartbeats 16000000 in
theorem callroster_any (X : Bas) (pl : Pl) (L : List Dl) (S : List Int) (D E : Option Addr) (dc cs : Nat) (day known : Int) (w : World) (hMo : Months w) (hP : PlacesAt w w.heap.size X.P pl) (hD : DealsAt w w.heap.size D L) (hE : IntsAt w w.heap.size E S)
    (hl : pl.length ≤ 9223372036854775807) (hLl : L.length ≤ 9223372036854775807) (hI : DlsIn L) (hs : S.length ≤ 9223372036854775807) (hS : ∀ x ∈ S, Go.Proofs.YtkbceeobnbbfbaaDoor.In64 x) :
    Calls Tryd.prog 3 #[.agg #[.string X.nm, .slice X.a1 X.l1 X.c1, .int .i64 X.cl, .slice X.P pl.length X.cP, .slice X.a4 X.l4 X.c4, .slice X.a5 X.l5 X.c5, .slice X.a6 X.l6 X.c6, .slice X.a7 X.l7 X.c7, .slice X.a8 X.l8 X.c8, .slice X.a9 X.l9 X.c9, .int .i64 X.er], .slice D L.length dc, .int .i64 day, .int .i64 known, .slice E S.length cs] w (Go.Proofs.YtkbceeobnbbfbaaDoor.BoolIs true w) := by
  obtain ⟨j0, hj, hy0, hy1, hy2⟩ := info_parts Tryd.infoDeal
  have K0 := Lib.hid (fun wx => small_any wx)
  obtain ⟨mv, hmv⟩ : ∃ mv, modB S = mv := ⟨_, rfl⟩
  have K2 : Hid (∀ wx, Below w.heap.size w wx → Calls Tryd.prog 5 #[.slice E S.length cs] wx (Go.Proofs.YtkbceeobnbbfbaaDoor.BoolIs mv wx)) := fun wx h => by have := (modest_any S E cs wx (hE.below h) hs).mono fun e w' h => pure_below h; rw [hmv] at this; exact this
  have HMV := Lib.hid hmv
  have hB0 : Below w.heap.size w (w.alloc (.cells #[.string X.nm, .slice X.a1 X.l1 X.c1, .int .i64 X.cl, .slice X.P pl.length X.cP, .slice X.a4 X.l4 X.c4, .slice X.a5 X.l5 X.c5, .slice X.a6 X.l6 X.c6, .slice X.a7 X.l7 X.c7, .slice X.a8 X.l8 X.c8, .slice X.a9 X.l9 X.c9, .int .i64 X.er] 31)) := below_new _ _
  have hX1 : BoxB (w.alloc (.cells #[.string X.nm, .slice X.a1 X.l1 X.c1, .int .i64 X.cl, .slice X.P pl.length X.cP, .slice X.a4 X.l4 X.c4, .slice X.a5 X.l5 X.c5, .slice X.a6 X.l6 X.c6, .slice X.a7 X.l7 X.c7, .slice X.a8 X.l8 X.c8, .slice X.a9 X.l9 X.c9, .int .i64 X.er] 31)) w.heap.size X pl := BoxB.new w X pl
  have hz1 : w.heap.size < (w.alloc (.cells #[.string X.nm, .slice X.a1 X.l1 X.c1, .int .i64 X.cl, .slice X.P pl.length X.cP, .slice X.a4 X.l4 X.c4, .slice X.a5 X.l5 X.c5, .slice X.a6 X.l6 X.c6, .slice X.a7 X.l7 X.c7, .slice X.a8 X.l8 X.c8, .slice X.a9 X.l9 X.c9, .int .i64 X.er] 31)).heap.size := by simp
  have HB1 := hB0
  obtain ⟨x0, x1, x2, x3, x4, x5, x6, x7, x8, x9, x10⟩ := hX1.cells
  clear hmv
  obtain ⟨RL, hRL⟩ : ∃ R, rosterR X.l1 pl.length day known L = R := ⟨_, rfl⟩
  go_enter Tryd.func3, Tryd.ntmps3
  go_wp2_with fail
  go_at_call 4
  (with_reducible refine (K0.out _).mono ?_)
  rintro e1 w1 ⟨rfl, hb1⟩
  have HB2 := HB1.trans (hb1.mono HB1.size)
  have hX2 := hX1.below hb1 (by omega)
  have hz2 : w.heap.size < w1.heap.size := by have := hb1.size; omega
  clear x0 x1 x2 x3 x4 x5 x6 x7 x8 x9 x10
  obtain ⟨x0, x1, x2, x3, x4, x5, x6, x7, x8, x9, x10⟩ := hX2.cells

  go_wp2_with fail
  go_at_call 5
  (with_reducible refine (K2.out _ HB2).mono ?_)
  rintro e2 w2 ⟨rfl, hb2⟩
  have HB3 := HB2.trans (hb2.mono HB2.size)
  have hX3 := hX2.below hb2 (by omega)
  have hz3 : w.heap.size < w2.heap.size := by have := hb2.size; omega
  clear x0 x1 x2 x3 x4 x5 x6 x7 x8 x9 x10
  obtain ⟨x0, x1, x2, x3, x4, x5, x6, x7, x8, x9, x10⟩ := hX3.cells

  by_cases h16 : pl.length ≤ 16
  case neg =>
    have q : 16 < pl.length := by omega
    clear h16
    go_wp2_with fail
    go_ret
    exact ⟨rfl, HB3⟩
  by_cases h14 : L.length ≤ 14
  case neg =>
    have q : 14 < L.length := by omega
    have q0 : ¬ 16 < pl.length := by omega
    clear h14 h16
    go_wp2_with fail
    go_ret
    exact ⟨rfl, HB3⟩
  have q1 : ¬ 14 < L.length := by omega
  have q0 : ¬ 16 < pl.length := by omega
  cases mv
  · go_wp2_with fail
    go_ret
    exact ⟨rfl, HB3⟩
  have hmod : modB S = true := HMV.out
  have hrl : RL.length ≤ 14 := by rw [← hRL]; exact Nat.le_trans roster_len h14
  have hRE : rosterR X.l1 pl.length day known (earlyL known L) = RL := by rw [← hRL]; exact roster_early
  have hM := Lib.hid (modest_of (R := RL) hmod h16 hrl)
  have hdl := Lib.hid (dayLs_len (pl := pl) (R := RL) (S := S))
  have heI : DlsIn (earlyL known L) := fun x hx => hI x (List.mem_filter.1 hx).1
  have hel : (earlyL known L).length ≤ L.length := List.length_filter_le _ _
  have KT : Hid (∀ wx, Below w.heap.size w wx → Calls Tryd.prog 6 #[.agg #[.string X.nm, .slice X.a1 X.l1 X.c1, .int .i64 X.cl, .slice X.P pl.length X.cP, .slice X.a4 X.l4 X.c4, .slice X.a5 X.l5 X.c5, .slice X.a6 X.l6 X.c6, .slice X.a7 X.l7 X.c7, .slice X.a8 X.l8 X.c8, .slice X.a9 X.l9 X.c9, .int .i64 X.er], .slice D L.length dc, .int .i64 day, .int .i64 known] wx (fun e w' => ∃ C cc, e = .returned (.slice C RL.length cc) ∧ RightsAt w' w'.heap.size C RL ∧ Below wx.heap.size wx w')) := fun wx h => by
    have := (roster_any X pl L D dc day known wx (hMo.below hMo.pos h) (hD.below h) h.size (by omega) hI).mono fun e w' ⟨C, cc, h1, _, h2, h3⟩ => (⟨C, cc, h1, h2, h3⟩ : ∃ C cc, e = Ending.returned (.slice C (rosterR X.l1 pl.length day known L).length cc) ∧ RightsAt w' w'.heap.size C (rosterR X.l1 pl.length day known L) ∧ Below wx.heap.size wx w')
    rw [hRL] at this; exact this
  have KU : Hid (∀ A ac wx, Below w.heap.size w wx → DealsAt wx wx.heap.size A (earlyL known L) → Calls Tryd.prog 6 #[.agg #[.string X.nm, .slice X.a1 X.l1 X.c1, .int .i64 X.cl, .slice X.P pl.length X.cP, .slice X.a4 X.l4 X.c4, .slice X.a5 X.l5 X.c5, .slice X.a6 X.l6 X.c6, .slice X.a7 X.l7 X.c7, .slice X.a8 X.l8 X.c8, .slice X.a9 X.l9 X.c9, .int .i64 X.er], .slice A (earlyL known L).length ac, .int .i64 day, .int .i64 known] wx (fun e w' => ∃ C cc, e = .returned (.slice C RL.length cc) ∧ RightsAt w' w'.heap.size C RL ∧ Below wx.heap.size wx w')) := fun A ac wx h hA => by
    have := (roster_any X pl (earlyL known L) A ac day known wx (hMo.below hMo.pos h) hA (Nat.le_refl _) (by omega) heI).mono fun e w' ⟨C, cc, h1, _, h2, h3⟩ => (⟨C, cc, h1, h2, h3⟩ : ∃ C cc, e = Ending.returned (.slice C (rosterR X.l1 pl.length day known (earlyL known L)).length cc) ∧ RightsAt w' w'.heap.size C (rosterR X.l1 pl.length day known (earlyL known L)) ∧ Below wx.heap.size wx w')
    rw [hRE] at this; exact this
  have K3 : Hid (∀ C cr wx, RightsAt wx wx.heap.size C RL → Below w.heap.size w wx → Calls Tryd.prog 7 #[.agg #[.string X.nm, .slice X.a1 X.l1 X.c1, .int .i64 X.cl, .slice X.P pl.length X.cP, .slice X.a4 X.l4 X.c4, .slice X.a5 X.l5 X.c5, .slice X.a6 X.l6 X.c6, .slice X.a7 X.l7 X.c7, .slice X.a8 X.l8 X.c8, .slice X.a9 X.l9 X.c9, .int .i64 X.er], .slice C RL.length cr, .slice E S.length cs] wx (DayIs pl RL S wx)) := fun C cr wx hC h => day_any X pl RL S C cr E cs wx ((hP.below h).more h.size) hC ((hE.below h).more h.size) (Nat.le_refl _) (by omega) (by omega) hs hS
  obtain ⟨n1, hn1⟩ : ∃ n, Hid ((excN pl RL S (dayLs pl RL S)).length = n) := ⟨_, rfl⟩
  have K4 : Hid (∀ (C : Option Addr) (cr : Nat) (A : Option Addr) (ca : Nat) (wx : World), RightsAt wx wx.heap.size C RL → PairsAt wx wx.heap.size A (dayLs pl RL S) → Below w.heap.size w wx → Calls Tryd.prog 10 #[.agg #[.string X.nm, .slice X.a1 X.l1 X.c1, .int .i64 X.cl, .slice X.P pl.length X.cP, .slice X.a4 X.l4 X.c4, .slice X.a5 X.l5 X.c5, .slice X.a6 X.l6 X.c6, .slice X.a7 X.l7 X.c7, .slice X.a8 X.l8 X.c8, .slice X.a9 X.l9 X.c9, .int .i64 X.er], .slice C RL.length cr, .slice E S.length cs, .slice A RL.length ca] wx (fun e w' => ∃ F cf, e = .returned (.slice F n1 cf) ∧ PairsAt w' w'.heap.size F (excN pl RL S (dayLs pl RL S)) ∧ Below wx.heap.size wx w')) := fun C cr A ca wx hC hA h => by
    have := (excuses_any X pl RL S (dayLs pl RL S) C cr E cs A ca wx ((hP.below h).more h.size) hC ((hE.below h).more h.size) hA (Nat.le_refl _) (by omega) (by omega) (by rw [hdl.out]; omega) hs hS).mono fun e w' ⟨F, cf, he, _, h1, h2⟩ => (⟨F, cf, by rw [he, hn1.out], h1, h2⟩ : ∃ F cf, e = Ending.returned (.slice F n1 cf) ∧ PairsAt w' w'.heap.size F (excN pl RL S (dayLs pl RL S)) ∧ Below wx.heap.size wx w')
    rw [hdl.out] at this
    exact this
  have K5 : Hid (∀ (C : Option Addr) (cr : Nat) (A : Option Addr) (ca : Nat) (F : Option Addr) (cf : Nat) (wx : World), RightsAt wx wx.heap.size C RL → PairsAt wx wx.heap.size A (dayLs pl RL S) → PairsAt wx wx.heap.size F (excN pl RL S (dayLs pl RL S)) → Below w.heap.size w wx → Calls Tryd.prog 9 #[.agg #[.string X.nm, .slice X.a1 X.l1 X.c1, .int .i64 X.cl, .slice X.P pl.length X.cP, .slice X.a4 X.l4 X.c4, .slice X.a5 X.l5 X.c5, .slice X.a6 X.l6 X.c6, .slice X.a7 X.l7 X.c7, .slice X.a8 X.l8 X.c8, .slice X.a9 X.l9 X.c9, .int .i64 X.er], .slice C RL.length cr, .slice E S.length cs, .slice A RL.length ca, .slice F n1 cf] wx (Go.Proofs.YtkbceeobnbbfbaaDoor.BoolIs true wx)) := fun C cr A ca F cf wx hC hA hF h => by
    have hq := excN_len pl RL S (dayLs pl RL S)
    have hq2 : RL.length * RL.length ≤ 14 * 14 := Nat.mul_le_mul hrl hrl
    have := check_any X pl RL S (dayLs pl RL S) (excN pl RL S (dayLs pl RL S)) C cr E cs A ca F cf wx ((hP.below h).more h.size) hC ((hE.below h).more h.size) hA hF (Nat.le_refl _) (by omega) (by omega) (by rw [hdl.out]; omega) hs (by omega) hS
    rw [chk_day hM.out (fun e h => h), hdl.out, hn1.out] at this
    exact this
  have K9 : Hid (∀ (A B : Option Addr) (ca cb : Nat) (wx : World), PairsAt wx wx.heap.size A (dayLs pl RL S) → PairsAt wx wx.heap.size B (dayLs pl RL S) → Calls Tryd.prog 8 #[.slice A RL.length ca, .slice B RL.length cb] wx (fun e w' => e = .returned (.bool true) ∧ Below wx.heap.size wx w')) := fun A B ca cb wx hA hB => by
    have := (same37_any (dayLs pl RL S) (dayLs pl RL S) A B ca cb wx hA hB (by rw [hdl.out]; omega) (by rw [hdl.out]; omega)).mono fun e w' ⟨he, n, hw⟩ => (⟨by rw [he, sameL_self], by rw [hw]; exact below_drewN (Below.refl _ _) n⟩ : e = Ending.returned (.bool true) ∧ Below wx.heap.size wx w')
    rw [hdl.out] at this
    exact this
  have HD := Lib.hid hD
  clear hD hMo hI heI hRE hRL hP hE K0 K2 hmod HMV hX1 hX2 hb1 hb2 HB1 HB2 hB0
  obtain ⟨wa, rfl⟩ : ∃ wa, wa = w2 := ⟨_, rfl⟩
  go_wp2_with fail
  go_loopw [13, 14] (fun out i wr => ∃ (k : Nat), k ≤ L.length ∧ i = .int .i64 k ∧ wr.ownsRow wa.heap.size 38 13 out (earlyL known (L.take k)).length (rowD (earlyL known (L.take k))) ∧ Below wa.heap.size wa wr ∧ wa.heap.size ≤ wr.heap.size) (fun _ i _ => L.length - (intOf i).toNat)
  case atStart => exact ⟨0, Nat.zero_le _, rfl, World.ownsRow_nil _ _ _ _, Below.refl _ _, Nat.le_refl _⟩
  case round =>
    obtain ⟨k, hk, rfl, hown, hBo, hzo⟩ := hrel
    by_cases hlt : k < L.length
    · obtain ⟨d, hd⟩ : ∃ x, L[k]? = some x := ⟨_, List.getElem?_eq_getElem hlt⟩
      obtain ⟨b, off, rfl, hb, r0, r1, r2, r3, r4, r5, r6, r7, r8, r9, r10, r11, r12⟩ := (HD.out.below (HB3.trans (hBo.mono HB3.size))).at_ hd
      have hk0 : 0 ≤ (k : Int) ∧ (k : Int) < (L.length : Int) := by omega
      have hbw : b < wr.heap.size := by omega
      have HN := Lib.hid (earlyL_take known L hd)
      have hlen : (earlyL known (L.take k)).length ≤ L.length := Nat.le_trans (List.length_filter_le _ _) (by rw [List.length_take]; omega)
      by_cases g : d.known ≤ known
      · have HN2 : Hid (earlyL known (L.take (k + 1)) = earlyL known (L.take k) ++ [d]) := by show _ = _; rw [HN.out, if_pos g]
        have e1 : decide (d.known ≤ known) = true := decide_eq_true g
        clear hd HN
        go_wp2_with (first | (at_builtin; go_loud (refine wpList_append_any _ rfl _ _ 32 rfl wa.heap.size 38 j0 _ 13 104 Tryd.underlying32 hj hy0 hy1 hy2 rfl (by decide) _ (earlyL known (L.take k)).length _ rfl (hown.alloc _) (_ + 1) (some ⟨wr.heap.size, 0, none⟩) 1 1 d.cells rfl ⟨rfl, fun _ => ⟨_, rfl, Nat.lt_succ_self _, cells_at (by rfl) _ _⟩⟩ (dl_one _) (by unfold maxLen; omega) (by omega) (by simp; exact Nat.le_succ_of_le hzo) ?_); intro v' w3 hown3 hgr3 _) | fail)
        have hb3 : Below wa.heap.size wa w3 := (hBo.alloc hzo _).trans (below_own (hown.alloc _) (by simp; exact Nat.le_succ_of_le hzo) hgr3)
        go_roundw
        case rel => exact ⟨k + 1, by omega, by go_num, by rw [HN2.out, rowD_snoc, List.length_append]; exact hown3, hb3, hb3.size⟩
        case measure => simp [intOf]; omega
      · have HN2 : Hid (earlyL known (L.take (k + 1)) = earlyL known (L.take k)) := by show _ = _; rw [HN.out, if_neg g]
        have e1 : decide (d.known ≤ known) = false := decide_eq_false g
        clear hd HN
        go_wp2_with fail
        go_roundw
        case rel => exact ⟨k + 1, by omega, by go_num, by rw [HN2.out]; exact hown, hBo, hzo⟩
        case measure => simp [intOf]; omega
    · have hke : k = L.length := by omega
      subst hke
      rw [List.take_length] at hown
      obtain ⟨E1, ec1, hv1', hE1, _⟩ := deals_of_owns hown
      subst hv1'
      obtain ⟨w3, rfl⟩ : ∃ w3, w3 = wr := ⟨_, rfl⟩
      have hb3 := hBo
      clear hown hBo
      have HB4 := HB3.trans (hb3.mono HB3.size)
      have hX4 := hX3.below hb3 (by omega)
      have hz4 : w.heap.size < w3.heap.size := by omega
      clear x0 x1 x2 x3 x4 x5 x6 x7 x8 x9 x10
      obtain ⟨x0, x1, x2, x3, x4, x5, x6, x7, x8, x9, x10⟩ := hX4.cells
      go_wp2_with fail
      go_at_call 6
      (with_reducible refine (KT.out _ HB4).mono ?_)
      rintro e4 w4 ⟨C1, c1, rfl, hC1, hb4⟩
      have HB5 := HB4.trans (hb4.mono HB4.size)
      have hX5 := hX4.below hb4 (by omega)
      have hz5 : w.heap.size < w4.heap.size := by have := hb4.size; omega
      clear x0 x1 x2 x3 x4 x5 x6 x7 x8 x9 x10
      obtain ⟨x0, x1, x2, x3, x4, x5, x6, x7, x8, x9, x10⟩ := hX5.cells
      have hE2 := (hE1.below hb4).more hb4.size
      go_wp2_with fail
      go_at_call 6
      (with_reducible refine (KU.out _ _ _ HB5 hE2).mono ?_)
      rintro e5 w5 ⟨C2, c2, rfl, hC2, hb5⟩
      have HB6 := HB5.trans (hb5.mono HB5.size)
      have hX6 := hX5.below hb5 (by omega)
      have hz6 : w.heap.size < w5.heap.size := by have := hb5.size; omega
      clear x0 x1 x2 x3 x4 x5 x6 x7 x8 x9 x10
      obtain ⟨x0, x1, x2, x3, x4, x5, x6, x7, x8, x9, x10⟩ := hX6.cells
      have hC15 := (RightsAt.below hC1 hb5).more hb5.size
      go_wp2_with fail
      go_at_call 7
      (with_reducible refine (K3.out _ _ _ hC15 HB6).mono ?_)
      intro e6 w6 hd
      obtain ⟨G1, g1, rfl, hG1, _, hb6, _⟩ := day_pairs hd
      clear hd
      have HB7 := HB6.trans (hb6.mono HB6.size)
      have hX7 := hX6.below hb6 (by omega)
      have hz7 : w.heap.size < w6.heap.size := by have := hb6.size; omega
      clear x0 x1 x2 x3 x4 x5 x6 x7 x8 x9 x10
      obtain ⟨x0, x1, x2, x3, x4, x5, x6, x7, x8, x9, x10⟩ := hX7.cells
      have hC16 := (RightsAt.below hC15 hb6).more hb6.size
      have hC26 := (RightsAt.below hC2 hb6).more hb6.size
      go_wp2_with fail
      go_at_call 7
      (with_reducible refine (K3.out _ _ _ hC26 HB7).mono ?_)
      intro e7 w7 hd
      obtain ⟨G2, g2, rfl, hG2, _, hb7, _⟩ := day_pairs hd
      clear hd
      have HB8 := HB7.trans (hb7.mono HB7.size)
      have hX8 := hX7.below hb7 (by omega)
      have hz8 : w.heap.size < w7.heap.size := by have := hb7.size; omega
      clear x0 x1 x2 x3 x4 x5 x6 x7 x8 x9 x10
      obtain ⟨x0, x1, x2, x3, x4, x5, x6, x7, x8, x9, x10⟩ := hX8.cells
      have hC17 := (RightsAt.below hC16 hb7).more hb7.size
      have hG17 := (hG1.below hb7).more hb7.size
      go_wp2_with fail
      go_at_call 8
      (with_reducible refine (K9.out _ _ _ _ _ hG17 hG2).mono ?_)
      rintro e8 w8 ⟨rfl, hb8⟩
      have HB9 := HB8.trans (hb8.mono HB8.size)
      have hX9 := hX8.below hb8 (by omega)
      have hz9 : w.heap.size < w8.heap.size := by have := hb8.size; omega
      clear x0 x1 x2 x3 x4 x5 x6 x7 x8 x9 x10
      obtain ⟨x0, x1, x2, x3, x4, x5, x6, x7, x8, x9, x10⟩ := hX9.cells
      have hC18 := (RightsAt.below hC17 hb8).more hb8.size
      have hG28 := (hG2.below hb8).more hb8.size
      go_upto_region 16 with fail
      have hC1d : RightsAt w8.drew w8.drew.heap.size C1 RL := hC18
      have hG2d : PairsAt w8.drew w8.drew.heap.size G2 (dayLs pl RL S) := hG28
      refine Plan.wp_region_tree (.rd 0 (.rd 1 (.rd 2 (.rd 3 (.rd 4 (.rd 5 (.rd 6 (.rd 7 (.rd 8 (.rd 9 (.rd 10 (.rd 11 (.rd 12 (.wr 13 (.wr 14 (.rd 15 (.rd 16 .done))))))))))))))))) (by kernel_rfl) (by kernel_rfl) ?_
      (repeat (first | (refine Plan.tree_read (v := ?_) rfl rfl ?_ ?_; rotate_left; (focus ((intro wS hSw; have hkS := (bcell hSw).1; go_simp); try with_reducible rfl)); simp only [Act.put, List.setIfInBounds_toArray, List.set_cons_zero, List.set_cons_succ]) | (refine Plan.tree_skip rfl rfl ?_; simp only [Act.put, List.setIfInBounds_toArray, List.set_cons_zero, List.set_cons_succ])))
      (refine Plan.tree_write rfl (fun K hK => ?_); try go_simp)
      go_at_call 10
      (with_reducible refine (K4.out _ _ _ _ w8.drew hC1d hG2d HB9.drew).mono ?_)
      rintro e9 w9 ⟨F1, cf1, rfl, hF1, hb9q⟩
      have hb9 : Below w8.heap.size w8 w9 := Plan.below_drew_go hb9q
      clear hb9q
      (refine hK.out _ _ (hb9) ?_; clear hK K; try simp only [Act.put, List.setIfInBounds_toArray, List.set_cons_zero, List.set_cons_succ])
      (repeat (first | (refine Plan.tree_read (v := ?_) rfl rfl ?_ ?_; rotate_left; (focus ((intro wS hSw; have hkS := (bcell hSw).1; go_simp); try with_reducible rfl)); simp only [Act.put, List.setIfInBounds_toArray, List.set_cons_zero, List.set_cons_succ]) | (refine Plan.tree_skip rfl rfl ?_; simp only [Act.put, List.setIfInBounds_toArray, List.set_cons_zero, List.set_cons_succ])))
      (refine Plan.tree_write rfl (fun K hK => ?_); try go_simp)
      go_at_call 9
      (with_reducible refine (K5.out _ _ _ _ _ _ _ ((RightsAt.below hC18 hb9).more hb9.size) ((hG28.below hb9).more hb9.size) hF1 (HB9.trans (hb9.mono HB9.size))).mono ?_)
      rintro e10 w10 ⟨rfl, hb10q⟩
      have hb10 : Below w8.heap.size w8 w10 := hb9.trans (hb10q.mono hb9.size)
      (refine hK.out _ _ (hb10) ?_; clear hK K; try simp only [Act.put, List.setIfInBounds_toArray, List.set_cons_zero, List.set_cons_succ])
      (repeat (first | (refine Plan.tree_read (v := ?_) rfl rfl ?_ ?_; rotate_left; (focus ((intro wS hSw; have hkS := (bcell hSw).1; go_simp); try with_reducible rfl)); simp only [Act.put, List.setIfInBounds_toArray, List.set_cons_zero, List.set_cons_succ]) | (refine Plan.tree_skip rfl rfl ?_; simp only [Act.put, List.setIfInBounds_toArray, List.set_cons_zero, List.set_cons_succ])))
      refine Plan.tree_done ?_
      go_wp2_with fail
      go_ret
      exact ⟨rfl, HB9.trans (hb10.mono HB9.size)⟩
end Go.Proofs.YtkbceeobnbbfbaaDoor

/- What the rows' lists give the walks (the table of the months), a world for the witness, and the opened arguments. -/
namespace Go.Proofs.YtkbceeobnbbfbaaDoor
open Go.ChangeShapes Go.WideShapes Go.ChangeAt Go.RowKit Go.Deep CM RR RR.RG

theorem own : ownKnob Tryd.prog.godebug = none := by kernel_rfl
theorem laidOut : laidOutB Tryd.prog = true := by kernel_rfl
def monName : String := (Rows.callRosterRow.laid.map Prod.fst).getD 0 default
def monTab : List Int := [31, 29, 31, 30, 31, 30, 31, 31, 30, 31, 30, 31]
theorem gMon : Tryd.prog.globalNamed monName = some 0 := by kernel_rfl
theorem gMonType : (Tryd.prog.globals[0]?).map (·.type) = some 99 := by kernel_rfl
theorem cellsTab : Tryd.prog.cellsOf 99 = 12 := by kernel_rfl
theorem cellsI : Tryd.prog.cellsOf 3 = 1 := by kernel_rfl
def laidM : List (String × DataW Unit) := Rows.callRosterRow.laid
theorem monTabIs {W : World} (h : laidMet Tryd.prog laidM W) : Lib.TabIs Tryd.prog W monName .i64 monTab := by
  have h1 : laidMet Tryd.prog [(monName, Lib.tabData .i64 monTab)] W := h
  exact Lib.tabIs_of_head gMon gMonType Tryd.underlying99 Tryd.underlying3 cellsI cellsTab h1
theorem months_of {W : World} (h : laidMet Tryd.prog laidM W) : Months W := fun i hi => by
  have := (monTabIs h).cell gMon i hi
  rw [this]
  have : i = 0 ∨ i = 1 ∨ i = 2 ∨ i = 3 ∨ i = 4 ∨ i = 5 ∨ i = 6 ∨ i = 7 ∨ i = 8 ∨ i = 9 ∨ i = 10 ∨ i = 11 := by omega
  rcases this with rfl | rfl | rfl | rfl | rfl | rfl | rfl | rfl | rfl | rfl | rfl | rfl <;> rfl
def toV (k : IntKind) (d : DataW Unit) : Value := match d with
  | .lit (.int _ n) => .int k n
  | _ => .int k 0
def tabV (k : IntKind) (d : DataW Unit) : Array Value := match d with
  | .agg l => (l.map (toV k)).toArray
  | _ => #[]
/-- A world for the witness: the settled one, the table holding what its initialiser lays. -/
noncomputable def laidWorld (os : Os) : World :=
  let h := World.holding Tryd.prog os ⟨#[], #[], []⟩
  let put (i : Nat) (cs : Array Value) (hp : Array Obj) : Array Obj := hp.modify i fun
    | .cells _ t frozen => .cells cs t frozen
    | o => o
  { h with heap := put 0 (tabV .i64 Rows.laid_bourne_date_months) h.heap }
theorem cellsPlace : Tryd.prog.cellsOf 81 = 12 := by kernel_rfl
theorem fieldsPlace : ∃ fs, Tryd.prog.underlying 81 = some (.struct fs) ∧ oneCellFields Tryd.prog fs = true ∧ fs.size = 12 ∧ (fs[8]?).map (·.type) = some 3 ∧ (fs[9]?).map (·.type) = some 3 := ⟨_, Tryd.underlying81, by kernel_rfl, by kernel_rfl, by kernel_rfl, by kernel_rfl⟩
theorem cellsBas : Tryd.prog.cellsOf 31 = 11 := by kernel_rfl
theorem fieldsBas : ∃ fs, Tryd.prog.underlying 31 = some (.struct fs) ∧ oneCellFields Tryd.prog fs = true ∧ fs.size = 11 ∧ fs.map (·.type) = #[9, 22, 3, 23, 24, 25, 26, 27, 28, 29, 3] := ⟨_, Tryd.underlying31, by kernel_rfl, by kernel_rfl, by kernel_rfl⟩
section
variable {H : Type} {enc : TypeId × Value → H} {P : Program} {w : World} {base : Nat} {spare : Nat → Bool} {held : Bool} {r : Reach} {b0 : Nat}
theorem agg_fields {t : TypeId} {fs : Array Field} {v : Value} {d : DataW H} {p : List MemPlace} (hs : P.underlying t = some (.struct fs)) (hone : oneCellFields P fs = true) (hC : P.cellsOf t = fs.size) (hv : Value.okWide P w r b0 t v) (h : DataW.Trod enc P w base spare held t v d p) :
    ∃ cs : Array Value, v = .agg cs ∧ cs.size = fs.size ∧ ∀ (j : Nat) (f : Field), fs[j]? = some f → ∃ (u : Value) (n : Nat) (y : DataW H × List MemPlace), cs[j]? = some u ∧ DataW.trod enc P w base spare held n f.type [u] = some y := by
  obtain ⟨cs, rfl, hsz⟩ := okWide_struct hs hv
  refine ⟨cs, rfl, hsz.trans hC, fun j f hj => ?_⟩
  obtain ⟨fuel, hf⟩ := h
  obtain ⟨xs, n, _, hx, _, hlen, hg⟩ := DataW.trod_struct hs hf
  have hjl : j < fs.size := (Array.getElem?_eq_some_iff.1 hj).1
  obtain ⟨ho, hk⟩ := hone_of hone j f hj
  have h1 := hg j f hj
  rw [ho, hk] at h1
  have hlt : j < cs.size := by rw [hsz, hC]; exact hjl
  have hcl : (Value.agg cs).cells.toList = cs.toList := rfl
  have hone' : ((Value.agg cs).cells.toList.drop j).take 1 = [cs[j]] := by
    rw [hcl, List.drop_eq_getElem_cons (by simpa using hlt)]
    simp
  rw [hone', List.getElem?_eq_getElem (by omega)] at h1
  exact ⟨_, _, _, Array.getElem?_eq_getElem hlt, h1⟩
theorem slice_shape {t e : TypeId} {n : Nat} {u : Value} {y : DataW H × List MemPlace} (ht : P.underlying t = some (.slice e)) (h : DataW.trod enc P w base spare held n t [u] = some y) : ∃ C l c, u = .slice C l c ∧ l ≤ 9223372036854775807 := by
  rcases open_slice ht h with ⟨hcs, _⟩ | ⟨a, len, cap, _, _, _, _, hcs, _, hlc, hcm, _⟩
  · exact ⟨none, 0, 0, by simpa using hcs, by omega⟩
  · exact ⟨some a, len, cap, by simpa using hcs, by unfold maxLen at *; omega⟩
end
theorem wf_in {a : Int} (h : (Lit.int .i64 a).wf = true) : In64 a := by
  simp only [Lit.wf, IntKind.min, IntKind.max, IntKind.signed, IntKind.bits, Bool.and_eq_true, decide_eq_true_eq, if_true] at h
  unfold In64
  omega
section
variable {H : Type} {enc : TypeId × Value → H} {w : World} {base : Nat} {spare : Nat → Bool} {held : Bool} {r : Reach} {b0 : Nat}
set_option maxRecDepth 200000 in
theorem open_basin {v : Value} {d : DataW H} {p : List MemPlace} (hv : Value.okWide Tryd.prog w r b0 31 v) (h : DataW.Trod enc Tryd.prog w base spare held 31 v d p) :
    ∃ (X : Bas) (pl : Pl), v = .agg #[.string X.nm, .slice X.a1 X.l1 X.c1, .int .i64 X.cl, .slice X.P pl.length X.cP, .slice X.a4 X.l4 X.c4, .slice X.a5 X.l5 X.c5, .slice X.a6 X.l6 X.c6, .slice X.a7 X.l7 X.c7, .slice X.a8 X.l8 X.c8, .slice X.a9 X.l9 X.c9, .int .i64 X.er] ∧ pl.length ≤ 9223372036854775807 ∧ PlacesAt w w.heap.size X.P pl ∧ X.l1 ≤ 9223372036854775807 := by
  obtain ⟨fs, he, hone, hsz, hty⟩ := fieldsBas
  obtain ⟨cs, rfl, hcs, hc⟩ := agg_fields he hone (cellsBas.trans hsz.symm) hv h
  have hf : ∀ j, j < 11 → ∃ f, fs[j]? = some f ∧ some f.type = (#[9, 22, 3, 23, 24, 25, 26, 27, 28, 29, 3] : Array Nat)[j]? := fun j hj => by
    refine ⟨fs[j]'(by omega), Array.getElem?_eq_getElem _, ?_⟩
    rw [← hty]; simp [hsz, hj]
  obtain ⟨f0, g0, t0⟩ := hf 0 (by omega)
  obtain ⟨u0, n0, y0, c0, r0⟩ := hc 0 f0 g0
  rw [show f0.type = 9 by simpa using t0] at r0
  obtain ⟨z0, e0, _⟩ := DataW.trod_string Tryd.underlying9 r0
  simp at e0
  obtain ⟨f1, g1, t1⟩ := hf 1 (by omega)
  obtain ⟨u1, n1, y1, c1, r1⟩ := hc 1 f1 g1
  rw [show f1.type = 22 by simpa using t1] at r1
  obtain ⟨A1, l1, k1, e1, b1⟩ := slice_shape Tryd.underlying22 r1
  obtain ⟨f2, g2, t2⟩ := hf 2 (by omega)
  obtain ⟨u2, n2, y2, c2, r2⟩ := hc 2 f2 g2
  rw [show f2.type = 3 by simpa using t2] at r2
  obtain ⟨z2, e2, _⟩ := DataW.trod_int Tryd.underlying3 r2
  simp at e2
  obtain ⟨f3, g3, t3⟩ := hf 3 (by omega)
  obtain ⟨u3, n3, y3, c3, r3⟩ := hc 3 f3 g3
  rw [show f3.type = 23 by simpa using t3] at r3
  obtain ⟨f4, g4, t4⟩ := hf 4 (by omega)
  obtain ⟨u4, n4, y4, c4, r4⟩ := hc 4 f4 g4
  rw [show f4.type = 24 by simpa using t4] at r4
  obtain ⟨A4, l4, k4, e4, b4⟩ := slice_shape Tryd.underlying24 r4
  obtain ⟨f5, g5, t5⟩ := hf 5 (by omega)
  obtain ⟨u5, n5, y5, c5, r5⟩ := hc 5 f5 g5
  rw [show f5.type = 25 by simpa using t5] at r5
  obtain ⟨A5, l5, k5, e5, b5⟩ := slice_shape Tryd.underlying25 r5
  obtain ⟨f6, g6, t6⟩ := hf 6 (by omega)
  obtain ⟨u6, n6, y6, c6, r6⟩ := hc 6 f6 g6
  rw [show f6.type = 26 by simpa using t6] at r6
  obtain ⟨A6, l6, k6, e6, b6⟩ := slice_shape Tryd.underlying26 r6
  obtain ⟨f7, g7, t7⟩ := hf 7 (by omega)
  obtain ⟨u7, n7, y7, c7, r7⟩ := hc 7 f7 g7
  rw [show f7.type = 27 by simpa using t7] at r7
  obtain ⟨A7, l7, k7, e7, b7⟩ := slice_shape Tryd.underlying27 r7
  obtain ⟨f8, g8, t8⟩ := hf 8 (by omega)
  obtain ⟨u8, n8, y8, c8, r8⟩ := hc 8 f8 g8
  rw [show f8.type = 28 by simpa using t8] at r8
  obtain ⟨A8, l8, k8, e8, b8⟩ := slice_shape Tryd.underlying28 r8
  obtain ⟨f9, g9, t9⟩ := hf 9 (by omega)
  obtain ⟨u9, n9, y9, c9, r9⟩ := hc 9 f9 g9
  rw [show f9.type = 29 by simpa using t9] at r9
  obtain ⟨A9, l9, k9, e9, b9⟩ := slice_shape Tryd.underlying29 r9
  obtain ⟨f10, g10, t10⟩ := hf 10 (by omega)
  obtain ⟨u10, n10, y10, c10, r10⟩ := hc 10 f10 g10
  rw [show f10.type = 3 by simpa using t10] at r10
  obtain ⟨z10, e10, _⟩ := DataW.trod_int Tryd.underlying3 r10
  simp at e10
  obtain ⟨fp, hep, honep, hszp, hp8, hp9⟩ := fieldsPlace
  obtain ⟨A3, l3, k3, e3, hl3, b, off, hC, hcp⟩ := open_fields Tryd.underlying23 hep honep (cellsPlace.trans hszp.symm) (by omega) r3
  simp at e3
  have key : ∀ i, ∃ x : Int × Int, i < l3 → w.cell? ⟨b, off + (i * 12 + 8), none⟩ = some (.int .i64 x.1) ∧ w.cell? ⟨b, off + (i * 12 + 9), none⟩ = some (.int .i64 x.2) := by
    intro i
    by_cases hi : i < l3
    · obtain ⟨q8, hq8⟩ : ∃ f, fp[8]? = some f := ⟨_, Array.getElem?_eq_getElem (by omega)⟩
      obtain ⟨q9, hq9⟩ : ∃ f, fp[9]? = some f := ⟨_, Array.getElem?_eq_getElem (by omega)⟩
      rw [hq8] at hp8
      rw [hq9] at hp9
      obtain ⟨v8, m8, y8', d8, s8⟩ := hcp i hi 8 q8 hq8
      obtain ⟨v9, m9, y9', d9, s9⟩ := hcp i hi 9 q9 hq9
      rw [show q8.type = 3 by simpa using hp8] at s8
      rw [show q9.type = 3 by simpa using hp9] at s9
      obtain ⟨z8, e8', _⟩ := DataW.trod_int Tryd.underlying3 s8
      obtain ⟨z9', e9', _⟩ := DataW.trod_int Tryd.underlying3 s9
      simp at e8' e9'
      subst e8' e9'
      rw [hszp] at d8 d9
      exact ⟨(z8, z9'), fun _ => ⟨d8, d9⟩⟩
    · exact ⟨(0, 0), fun h => absurd h hi⟩
  obtain ⟨F, hF⟩ := Classical.skolem.1 key
  have hpl : ((List.range l3).map F).length = l3 := by simp
  refine ⟨⟨z0, A1, l1, k1, z2, A3, k3, A4, l4, k4, A5, l5, k5, A6, l6, k6, A7, l7, k7, A8, l8, k8, A9, l9, k9, z10⟩, (List.range l3).map F, ?_, by rw [hpl]; exact hl3, ?_, b1⟩
  · congr 1
    subst e0 e1 e2 e3 e4 e5 e6 e7 e8 e9 e10
    have hs11 : cs.size = 11 := by rw [hcs, hsz]
    obtain ⟨l⟩ := cs
    rw [hpl]
    match l, hs11 with
    | [a0, a1, a2, a3, a4, a5, a6, a7, a8, a9, a10], _ =>
      simp at c0 c1 c2 c3 c4 c5 c6 c7 c8 c9 c10
      subst c0 c1 c2 c3 c4 c5 c6 c7 c8 c9 c10
      rfl
  · intro hpos
    rw [hpl] at hpos ⊢
    obtain ⟨e, hb⟩ := hC hpos
    refine ⟨b, off, e, hb, fun k hk => ?_⟩
    obtain ⟨d8, d9⟩ := hF k hk
    have kk : ((List.range l3).map F).getD k (0, 0) = F k := by simp [List.getD_eq_getElem?_getD, hk]
    unfold downP delayP
    rw [kk]
    rw [Nat.add_assoc, Nat.add_assoc]
    exact ⟨d8, d9⟩
def rtOf (F : Nat → Int) (i : Nat) : Rt := ⟨F i, F (i + 1), F (i + 2), F (i + 3), F (i + 4), F (i + 5), F (i + 6), F (i + 7), F (i + 8)⟩
def dlOf (F : Nat → Int) (i : Nat) : Dl := ⟨F i, F (i + 1), rtOf F (i + 2), F (i + 11), F (i + 12)⟩
theorem row_of_cells {α : Type} {enc : α → List Value} {k len : Nat} {C : Option Addr} {F : Nat → Int} (G : Nat → α) (hk : 0 < k) (he : ∀ i j u, (enc (G i))[j]? = some u → j < k ∧ u = .int .i64 (F (i * k + j))) (h : CellsAt w w.heap.size C (len * k) (fun j => .int .i64 (F j))) :
    RowAt enc k w w.heap.size C ((List.range len).map G) := by
  intro hpos
  have hl : ((List.range len).map G).length = len := by simp
  rw [hl] at hpos
  obtain ⟨b, off, e, hb, hc⟩ := h (Nat.mul_pos hpos hk)
  refine ⟨b, off, e, hb, fun i x hi j u hj => ?_⟩
  have hil : i < len := by have := (List.getElem?_eq_some_iff.1 hi).1; omega
  have hx : G i = x := by simpa [hil] using hi
  subst hx
  obtain ⟨hjk, rfl⟩ := he i j u hj
  refine hc (i * k + j) ?_
  have : (i + 1) * k ≤ len * k := Nat.mul_le_mul_right _ hil
  rw [Nat.succ_mul] at this
  omega
set_option maxRecDepth 200000 in
theorem open_deals {v : Value} {d : DataW H} {p : List MemPlace} (hv : Value.okWide Tryd.prog w r b0 32 v) (h : DataW.Trod enc Tryd.prog w base spare held 32 v d p) :
    ∃ (C : Option Addr) (cc : Nat) (A : List Dl), v = .slice C A.length cc ∧ A.length ≤ 9223372036854775807 ∧ DealsAt w w.heap.size C A ∧ DlsIn A := by
  obtain ⟨C, len, cc, F, rfl, hl, hc, hF⟩ := open_slice_ints (n := 3) (k := 13) Tryd.underlying32 (by kernel_rfl) (by kernel_rfl) (by decide) hv h
  have hA : ((List.range len).map fun i => dlOf F (i * 13)).length = len := by simp
  refine ⟨C, cc, (List.range len).map fun i => dlOf F (i * 13), by rw [hA], by rw [hA]; exact hl, row_of_cells (enc := Dl.cells) _ (by decide) (fun i j u hj => ?_) hc, fun x hx => ?_⟩
  · have hjl : j < 13 := (List.getElem?_eq_some_iff.1 hj).1
    refine ⟨hjl, ?_⟩
    match j, hjl with
    | 0, _ => exact (Option.some.inj hj).symm
    | 1, _ => exact (Option.some.inj hj).symm
    | 2, _ => exact (Option.some.inj hj).symm
    | 3, _ => exact (Option.some.inj hj).symm
    | 4, _ => exact (Option.some.inj hj).symm
    | 5, _ => exact (Option.some.inj hj).symm
    | 6, _ => exact (Option.some.inj hj).symm
    | 7, _ => exact (Option.some.inj hj).symm
    | 8, _ => exact (Option.some.inj hj).symm
    | 9, _ => exact (Option.some.inj hj).symm
    | 10, _ => exact (Option.some.inj hj).symm
    | 11, _ => exact (Option.some.inj hj).symm
    | 12, _ => exact (Option.some.inj hj).symm
  · obtain ⟨i, _, rfl⟩ := List.mem_map.1 hx
    exact ⟨hF _, hF _⟩
set_option maxRecDepth 200000 in
theorem open_ints64 {v : Value} {d : DataW H} {p : List MemPlace} (hv : Value.okWide Tryd.prog w r b0 29 v) (h : DataW.Trod enc Tryd.prog w base spare held 29 v d p) :
    ∃ (C : Option Addr) (cc : Nat) (zs : List Int), v = .slice C zs.length cc ∧ zs.length ≤ 9223372036854775807 ∧ IntsAt w w.heap.size C zs ∧ ∀ x ∈ zs, In64 x := by
  obtain ⟨a0, len, cap, rfl⟩ := okWide_slice Tryd.underlying29 hv
  obtain ⟨fuel, hf⟩ := h
  rcases open_slice Tryd.underlying29 hf with ⟨hcs, _⟩ | ⟨a, len', cap', m, n, D, Pl, hcs, hb, hl, hm, hmm, _, hel⟩
  · simp [Value.cells] at hcs
    obtain ⟨rfl, rfl, rfl⟩ := hcs
    exact ⟨none, 0, [], rfl, by simp, fun h => absurd h (by simp), fun x hx => nomatch hx⟩
  · simp [Value.cells] at hcs
    obtain ⟨rfl, rfl, rfl⟩ := hcs
    have hml : len ≤ m := by rw [hmm]; split <;> omega
    unfold maxLen at hm
    have key : ∀ i, ∃ z : Int, i < len → w.cell? (a.add i) = some (.int .i64 z) ∧ In64 z := by
      intro i
      by_cases hi : i < len
      · obtain ⟨cs', hc, ht'⟩ := hel i (by omega)
        rw [cellsI, Nat.mul_one] at hc
        obtain ⟨_, hcl, hat⟩ := World.cells?_some hc
        obtain ⟨z, rfl, _, hw⟩ := DataW.trod_int Tryd.underlying3 ht'
        have := hat 0 (by omega)
        rw [Addr.add_zero'] at this
        exact ⟨z, fun _ => ⟨by rw [this]; rfl, wf_in hw⟩⟩
      · exact ⟨0, fun h => absurd h hi⟩
    obtain ⟨F, hF⟩ := Classical.skolem.1 key
    have hA : ((List.range len).map F).length = len := by simp
    refine ⟨some a, cap, (List.range len).map F, by rw [hA], by rw [hA]; omega, ?_, fun x hx => ?_⟩
    · unfold IntsAt
      rw [hA]
      intro hpos
      obtain ⟨b, o, ha, hbl⟩ := addr_at (by have := (hF 0 hpos).1; rwa [Addr.add_zero'] at this)
      refine ⟨b, o, by rw [ha], hbl, fun j hj => ?_⟩
      have := (hF j hj).1
      rw [ha, Addr.add_lit] at this
      rw [this]
      simp [intF, List.getD_eq_getElem?_getD, hj]
    · obtain ⟨i, hi, rfl⟩ := List.mem_map.1 hx
      exact (hF i (List.mem_range.1 hi)).2
end
end Go.Proofs.YtkbceeobnbbfbaaDoor

