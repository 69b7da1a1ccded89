/- RightOrders: for every input the law answers true. (Printed by gen_l5.py.) -/
import Derived.Deep.Cut
import Derived.Test.YtchmplnkddgncaaDoorL4
set_option linter.unusedSimpArgs false
set_option linter.unusedVariables false
namespace Go.Proofs.YtchmplnkddgncaaDoor
open Go.RowKit CM RG
attribute [local go_sem] alloc_drewN setCell_drewN shape_drewN

/-- Deals in a row that may be written. -/
def OwnD (w : World) (g : Nat) (L : List Dl) : Prop := ∀ (i : Nat) (r : Dl), L[i]? = some r → ∀ (j : Nat) (u : Value), r.cells[j]? = some u → w.cell? ⟨g, i * 13 + j, none⟩ = some u ∧ w.frozen? ⟨g, i * 13 + j, none⟩ = false
theorem OwnD.put {w : World} {g : Nat} {L : List Dl} (h : OwnD w g L) {p : Nat} (hp : p < L.length) (d : Dl) : OwnD (w.setCells g (p * 13) d.cells) g (L.set p d) := fun i r hi j u hj => by
  have hj13 : j < 13 := by have := (List.getElem?_eq_some_iff.1 hj).1; rw [dl_len] at this; exact this
  by_cases hip : i = p
  · subst hip
    obtain ⟨x, hx⟩ : ∃ x, L[i]? = some x := ⟨_, List.getElem?_eq_getElem hp⟩
    have hat : ∀ k, k < 13 → ∃ v, x.cells[k]? = some v := fun k hk => ⟨_, List.getElem?_eq_getElem (by rw [dl_len]; exact hk)⟩
    rw [List.getElem?_set_self hp] at hi
    obtain rfl : d = r := by simpa using hi
    refine ⟨?_, ?_⟩
    · have hin := World.cell?_setCells_in g d.cells (i * 13) w (fun k hk => by
        obtain ⟨v, hv⟩ := hat k (by rw [dl_len] at hk; exact hk)
        rw [(h i x hx k v hv).1]; rfl) j (by rw [dl_len]; exact hj13)
      rw [hin, ← hj, List.getElem?_eq_getElem]
    · obtain ⟨v, hv⟩ := hat j hj13
      rw [World.frozen?_setCells]
      exact (h i x hx j v hv).2
  · rw [List.getElem?_set_ne (fun e => hip e.symm)] at hi
    obtain ⟨h1, h2⟩ := h i r hi j u hj
    refine ⟨?_, by rw [World.frozen?_setCells]; exact h2⟩
    rw [World.cell?_setCells_out g d.cells (p * 13) w _ (fun _ _ => by rw [dl_len]; show i * 13 + j < p * 13 ∨ p * 13 + 13 ≤ i * 13 + j; omega)]
    exact h1
theorem OwnD.deals {w : World} {g : Nat} {L : List Dl} (h : OwnD w g L) (hg : g < w.heap.size) : DealsAt w w.heap.size (some ⟨g, 0, none⟩) L :=
  fun _ => ⟨g, 0, rfl, hg, fun i r hi j u hj => by rw [Nat.zero_add]; exact (h i r hi j u hj).1⟩
theorem dealArr_of_owns {w : World} {base e : Nat} {v : Value} {A : List Dl} (hn : A.length ≠ 0) (h : w.ownsRow base e 13 v A.length (rowD A)) : ∃ g cc, v = .slice (some ⟨g, 0, none⟩) A.length cc ∧ base ≤ g ∧ g < w.heap.size ∧ OwnD w g A := rowkArr_of_owns dl_len hn h
theorem set_swap : ∀ {p : Nat} {L : List Dl} {c d : Dl}, L[p]? = some c → L[p + 1]? = some d → ∃ A B, L = A ++ c :: d :: B ∧ (L.set p d).set (p + 1) c = A ++ d :: c :: B
  | 0, [], _, _, hc, _ => by simp at hc
  | 0, [x], _, _, _, hd => by simp at hd
  | 0, x :: y :: B, c, d, hc, hd => by
    simp at hc hd
    subst hc hd
    exact ⟨[], B, rfl, rfl⟩
  | p + 1, [], _, _, hc, _ => by simp at hc
  | p + 1, x :: L, c, d, hc, hd => by
    obtain ⟨A, B, h1, h2⟩ := set_swap (p := p) (L := L) (c := c) (d := d) (by simpa using hc) (by simpa using hd)
    refine ⟨x :: A, B, by rw [h1]; rfl, ?_⟩
    show x :: ((L.set p d).set (p + 1) c) = _
    rw [h2]; rfl
set_option maxRecDepth 100000 in
set_option maxHeartbeats 32000000 in
theorem orders_any (X : Bas) (pl : Pl) (l : List Rt) (L : List Dl) (C D : Option Addr) (cc dc : Nat) (at1 day known : Int) (w : World) (hM : Months w) (hl2 : pl.length ≤ 9223372036854775807) (hl1 : X.l1 ≤ 9223372036854775807)
    (hC : RightsAt w w.heap.size C l) (hLr : l.length ≤ 9223372036854775807) (hIr : ∀ x ∈ l, RtIn x) (hD : DealsAt w w.heap.size D L) (hLl : L.length ≤ 9223372036854775807) (hI : DlsIn L) (hat : -9223372036854775808 ≤ at1 ∧ at1 ≤ 9223372036854775807) :
    Calls Tryd.prog 6 #[.agg #[.string X.nm, .slice X.a1 X.l1 X.c1, .int .i64 X.cl, .slice X.P pl.length X.cP, .slice X.a4 X.l4 X.c4, .slice X.a5 X.l5 X.c5, .slice X.a6 X.l6 X.c6, .slice X.a7 X.l7 X.c7, .slice X.a8 X.l8 X.c8, .slice X.a9 X.l9 X.c9, .int .i64 X.er], .slice C l.length cc, .slice D L.length dc, .int .i64 at1, .int .i64 day, .int .i64 known] w (BoolIs true w) := by
  obtain ⟨j0, hj, hy0, hy1, hy2⟩ := info_parts Tryd.infoDeal
  have K0 := Lib.hid (fun wx (h : Below w.heap.size w wx) => small_any wx (hM.below hM.pos h))
  have hB0 : Below w.heap.size w (w.alloc (.cells #[.string X.nm, .slice X.a1 X.l1 X.c1, .int .i64 X.cl, .slice X.P pl.length X.cP, .slice X.a4 X.l4 X.c4, .slice X.a5 X.l5 X.c5, .slice X.a6 X.l6 X.c6, .slice X.a7 X.l7 X.c7, .slice X.a8 X.l8 X.c8, .slice X.a9 X.l9 X.c9, .int .i64 X.er] 31)) := below_new _ _
  have hbx0 : BoxR (w.alloc (.cells #[.string X.nm, .slice X.a1 X.l1 X.c1, .int .i64 X.cl, .slice X.P pl.length X.cP, .slice X.a4 X.l4 X.c4, .slice X.a5 X.l5 X.c5, .slice X.a6 X.l6 X.c6, .slice X.a7 X.l7 X.c7, .slice X.a8 X.l8 X.c8, .slice X.a9 X.l9 X.c9, .int .i64 X.er] 31)) w.heap.size X pl := heap_alloc_new w _
  have hs0 : (w.alloc (.cells #[.string X.nm, .slice X.a1 X.l1 X.c1, .int .i64 X.cl, .slice X.P pl.length X.cP, .slice X.a4 X.l4 X.c4, .slice X.a5 X.l5 X.c5, .slice X.a6 X.l6 X.c6, .slice X.a7 X.l7 X.c7, .slice X.a8 X.l8 X.c8, .slice X.a9 X.l9 X.c9, .int .i64 X.er] 31)).heap.size = w.heap.size + 1 := by simp
  by_cases hall1 : l.length ≤ 40
  case neg =>
    have q : 40 < l.length := by omega
    clear hall1
    go_enter Tryd.func6, Tryd.ntmps6
    go_wp2_with fail
    go_at_call 8
    (with_reducible refine (K0.out _ hB0).mono ?_)
    rintro e1 w1 ⟨rfl, hb1⟩
    go_wp2_with fail
    go_ret
    exact ⟨rfl, hB0.trans (hb1.mono (by omega))⟩
  by_cases hall2 : L.length ≤ 40
  case neg =>
    have q : 40 < L.length := by omega
    have q0 : ¬ 40 < l.length := by omega
    clear hall1 hall2
    go_enter Tryd.func6, Tryd.ntmps6
    go_wp2_with fail
    go_at_call 8
    (with_reducible refine (K0.out _ hB0).mono ?_)
    rintro e1 w1 ⟨rfl, hb1⟩
    go_wp2_with fail
    go_ret
    exact ⟨rfl, hB0.trans (hb1.mono (by omega))⟩
  obtain ⟨RL, hRL⟩ : ∃ R, rosterR X.l1 pl.length day known L = R := ⟨_, rfl⟩
  obtain ⟨OL, hOL⟩ : ∃ R, orderR l = R := ⟨_, rfl⟩
  have hrl : RL.length ≤ 40 := by rw [← hRL]; exact Nat.le_trans roster_len hall2
  have hlen : OL.length = l.length := by rw [← hOL]; exact order_len l
  have hperm : OL.Perm l := by rw [← hOL]; exact order_perm l
  have hOL2 : orderR OL = OL := by rw [← hOL]; exact order_twice l
  have HAsc : Hid (∀ (i j : Nat) (x y : Rt), i < j → OL[i]? = some x → OL[j]? = some y → x.date < y.date ∨ (x.date = y.date ∧ x.id ≤ y.id)) := fun i j x y h1 h2 h3 => by
    rw [← hOL] at h2 h3; exact order_asc h1 h2 h3
  have KO : Hid (∀ wx, Below w.heap.size w wx → Calls Tryd.prog 14 #[.slice C l.length cc] wx (fun e w' => ∃ C cc, e = .returned (.slice C l.length cc) ∧ RightsAt w' w'.heap.size C OL ∧ Below wx.heap.size wx w')) := fun wx h => by
    have := order_at l C cc wx ((RightsAt.below hC h).more h.size) (by omega) hOL
    rw [hlen] at this; exact this
  have KO2 : Hid (∀ wx C1 c1, RightsAt wx wx.heap.size C1 OL → Calls Tryd.prog 14 #[.slice C1 l.length c1] wx (fun e w' => ∃ C cc, e = .returned (.slice C l.length cc) ∧ RightsAt w' w'.heap.size C OL ∧ Below wx.heap.size wx w')) := fun wx C1 c1 h => by
    have := order_at OL C1 c1 wx h (by omega) hOL2
    rw [hlen] at this; exact this
  have KS : Hid (∀ wx C1 C2 c1 c2, RightsAt wx wx.heap.size C1 OL → RightsAt wx wx.heap.size C2 OL → Calls Tryd.prog 18 #[.slice C1 l.length c1, .slice C2 l.length c2] wx (BoolIs true wx)) := fun wx C1 C2 c1 c2 h1 h2 => by
    have := (same_any OL OL C1 C2 c1 c2 wx h1 h2 (by omega) (by omega)).mono (fun e w' ⟨h3, k, h4⟩ => (⟨by rw [h3, sameL_refl], by rw [h4]; exact below_drewN (Below.refl _ _) k⟩ : BoolIs true wx e w'))
    rw [hlen] at this; exact this
  have KSR : Hid (∀ wx C1 C2 c1 c2, RightsAt wx wx.heap.size C1 RL → RightsAt wx wx.heap.size C2 RL → Calls Tryd.prog 18 #[.slice C1 RL.length c1, .slice C2 RL.length c2] wx (BoolIs true wx)) := fun wx C1 C2 c1 c2 h1 h2 =>
    (same_any RL RL C1 C2 c1 c2 wx h1 h2 (by omega) (by omega)).mono (fun e w' ⟨h3, k, h4⟩ => (⟨by rw [h3, sameL_refl], by rw [h4]; exact below_drewN (Below.refl _ _) k⟩ : BoolIs true wx e w'))
  have KM : Hid (∀ wx x, Below w.heap.size w wx → Calls Tryd.prog 19 #[.slice C l.length cc, .agg #[.int .i64 x.id, .int .i64 x.owner, .int .i64 x.date, .int .i64 x.place, .int .i64 x.rate, .int .i64 x.from1, .int .i64 x.until1, .int .i64 x.back, .int .i64 x.backTo]] wx (IntBe (cntR l x) wx)) := fun wx x h => many_any l x C cc wx (RightsAt.below hC h) h.size (by omega)
  have KM2 : Hid (∀ wx C1 c1 x, RightsAt wx wx.heap.size C1 OL → Calls Tryd.prog 19 #[.slice C1 l.length c1, .agg #[.int .i64 x.id, .int .i64 x.owner, .int .i64 x.date, .int .i64 x.place, .int .i64 x.rate, .int .i64 x.from1, .int .i64 x.until1, .int .i64 x.back, .int .i64 x.backTo]] wx (IntBe (cntR l x) wx)) := fun wx C1 c1 x h => by
    have := many_any OL x C1 c1 wx h (Nat.le_refl _) (by omega)
    rw [hlen, cnt_perm hperm] at this; exact this
  have KT : Hid (∀ wx, Below w.heap.size w wx → Calls Tryd.prog 16 #[.agg #[.string X.nm, .slice X.a1 X.l1 X.c1, .int .i64 X.cl, .slice X.P pl.length X.cP, .slice X.a4 X.l4 X.c4, .slice X.a5 X.l5 X.c5, .slice X.a6 X.l6 X.c6, .slice X.a7 X.l7 X.c7, .slice X.a8 X.l8 X.c8, .slice X.a9 X.l9 X.c9, .int .i64 X.er], .slice D L.length dc, .int .i64 day, .int .i64 known] wx (fun e w' => ∃ C cc, e = .returned (.slice C RL.length cc) ∧ RightsAt w' w'.heap.size C RL ∧ Below wx.heap.size wx w')) := fun wx h =>
    roster_at X pl L D dc day known wx (hM.below hM.pos h) (hD.below h) h.size (by omega) hI hRL
  have KU : Hid (∀ E ec wx T, Below w.heap.size w wx → DealsAt wx wx.heap.size E T → T.length = L.length → DlsIn T → rosterR X.l1 pl.length day known T = RL → Calls Tryd.prog 16 #[.agg #[.string X.nm, .slice X.a1 X.l1 X.c1, .int .i64 X.cl, .slice X.P pl.length X.cP, .slice X.a4 X.l4 X.c4, .slice X.a5 X.l5 X.c5, .slice X.a6 X.l6 X.c6, .slice X.a7 X.l7 X.c7, .slice X.a8 X.l8 X.c8, .slice X.a9 X.l9 X.c9, .int .i64 X.er], .slice E L.length ec, .int .i64 day, .int .i64 known] wx (fun e w' => ∃ C cc, e = .returned (.slice C RL.length cc) ∧ RightsAt w' w'.heap.size C RL ∧ Below wx.heap.size wx w')) := fun E ec wx T h hE hT hTI hR => by
    have := roster_at X pl T E ec day known wx (hM.below hM.pos h) hE (Nat.le_refl _) (by omega) hTI hR
    rw [hT] at this; exact this
  have HSw : Hid (∀ (p : Nat) (c d : Dl), L[p]? = some c → L[p + 1]? = some d → c.known ≠ d.known → ¬ (c.kind = 0 ∧ d.kind = 0) → DlsIn ((L.set p d).set (p + 1) c) ∧ rosterR X.l1 pl.length day known ((L.set p d).set (p + 1) c) = RL) := fun p c d h1 h2 h3 h4 => by
    obtain ⟨A, B, e1, e2⟩ := set_swap h1 h2
    rw [e2]
    refine ⟨fun x hx => hI x (by rw [e1]; simp at hx ⊢; rcases hx with q | q | q | q <;> simp [q]), ?_⟩
    rw [← hRL, e1]; exact (roster_swap h3 h4).symm
  have HD := Lib.hid hD
  clear hRL hOL hOL2 hperm hM hI hD hC hIr
  go_enter Tryd.func6, Tryd.ntmps6
  go_wp2_with fail
  go_at_call 8
  (with_reducible refine (K0.out _ hB0).mono ?_)
  rintro e1 w1 ⟨rfl, hb1⟩
  have HB1 := hB0.trans (hb1.mono (by omega))
  have hbx1 := hbx0.below hb1 (by omega)
  have hz1 := hb1.size
  rw [hs0] at hz1
  clear hb1 hbx0 hs0 hB0 K0
  go_wp2_with fail
  go_at_call 14
  (with_reducible refine (KO.out _ HB1).mono ?_)
  rintro e2 w2 ⟨C1, c1, rfl, hC12, hb2⟩
  have HB2 := HB1.trans (hb2.mono HB1.size)
  have hbx2 := hbx1.below hb2 (by omega)
  have hz2 := hb2.size
  clear hb2 hbx1 HB1 KO
  go_wp2_with fail
  go_at_call 14
  (with_reducible refine (KO2.out _ _ _ hC12).mono ?_)
  rintro e3 w3 ⟨C2, c2, rfl, hC23, hb3⟩
  have HB3 := HB2.trans (hb3.mono HB2.size)
  have hbx3 := hbx2.below hb3 (by omega)
  have hC13 := (RightsAt.below hC12 hb3).more hb3.size
  have hz3 := hb3.size
  clear hb3 hbx2 HB2 KO2 hC12
  go_wp2_with fail
  go_at_call 18
  (with_reducible refine (KS.out _ _ _ _ _ hC23 hC13).mono ?_)
  rintro e4 W ⟨rfl, hb4⟩
  have HB := HB3.trans (hb4.mono HB3.size)
  have hbxW := hbx3.below hb4 (by omega)
  have hC1 := (RightsAt.below hC13 hb4).more hb4.size
  have hz4 := hb4.size
  have hzW : w.heap.size < W.heap.size := by omega
  clear hb4 hbx3 HB3 KS hC13 hC23
  go_wp2_with fail
  go_loopw [15] (fun s15 wr => ∃ (i : Nat), s15 = .int .i64 i ∧ i ≤ l.length ∧ Hid (Below W.heap.size W wr)) (fun s15 _ => l.length - (intOf s15).toNat)
  case atStart => exact ⟨0, rfl, Nat.zero_le _, Below.refl _ _⟩
  case round =>
    obtain ⟨i, rfl, hi, hBr⟩ := hrel
    have hzr := hBr.out.size
    have HBr := HB.trans (hBr.out.mono (by omega))
    by_cases hlt : i < l.length
    · obtain ⟨x, hx⟩ : ∃ x, OL[i]? = some x := ⟨_, List.getElem?_eq_getElem (by omega)⟩
      obtain ⟨b, off, rfl, hb, r0, r1, r2, r3, r4, r5, r6, r7, r8⟩ := (RightsAt.below hC1 hBr.out).at_ hx
      have HX := Lib.hid hx
      have hbw : b < wr.heap.size := by omega
      have z0 : w.heap.size < wr.heap.size := by omega
      have hii : (0 : Int) ≤ (i : Int) ∧ (i : Int) < (l.length : Int) := by omega
      clear hx
      have hcn : ((cntR l x : Int) != (cntR l x : Int)) = false := by simp
      by_cases hi0 : i = 0
      · have d0 : ¬ (0 : Int) < (i : Int) := by omega
        have d5 : decide ((0 : Int) < (i : Int)) = false := decide_eq_false d0
        have d6 : decide (0 < i) = false := decide_eq_false (by omega)
        have hii2 := hii
        go_upto_region 10 with fail
        clear hii2 hi0
        refine Plan.wp_region_tree (.rd 0 (.rd 1 (.rd 2 (.rd 3 (.rd 4 (.rd 5 (.rd 6 (.rd 7 (.rd 8 (.rd 9 (.rd 10 (.rd 11 (.rd 12 (.rd 13 (.rd 14 (.rd 15 (.rd 16 (.rd 17 (.rd 18 (.rd 19 (.rd 20 (.rd 21 (.rd 22 (.rd 23 (.rd 24 (.rd 25 (.rd 26 (.rd 27 (.rd 28 (.rd 29 (.rd 30 (.rd 31 (.rd 32 (.rd 33 (.rd 34 (.rd 35 (.rd 36 (.rd 37 (.rd 38 (.rd 39 (.rd 40 (.rd 41 (.rd 42 (.rd 43 (.rd 44 (.rd 45 (.rd 46 (.rd 47 (.rd 48 (.rd 49 (.rd 51 (.rd 52 (.rd 53 (.rd 54 (.rd 55 (.wr 50 (.wr 56 (.rd 57 (.rd 58 .done))))))))))))))))))))))))))))))))))))))))))))))))))))))))))) (by kernel_rfl) (by kernel_rfl) ?_
        (repeat (first | (refine Plan.tree_read (v := ?_) rfl rfl ?_ ?_; rotate_left; (focus ((intro wS hSw; have hkS := (bcell hSw).1; go_simp); try with_reducible rfl)); simp only [Act.put, List.setIfInBounds_toArray, List.set_cons_zero, List.set_cons_succ]) | (refine Plan.tree_skip rfl rfl ?_; simp only [Act.put, List.setIfInBounds_toArray, List.set_cons_zero, List.set_cons_succ])))
        (refine Plan.tree_write rfl (fun K hK => ?_); try go_simp)
        go_at_call 19
        (with_reducible refine (KM.out _ x HBr.drew).mono ?_)
        rintro e9 w9 ⟨rfl, hb9q⟩
        have hb9 : Below wr.heap.size wr w9 := Plan.below_drew_go hb9q
        clear hb9q
        (refine hK.out _ _ (hb9) ?_; clear hK K; try simp only [Act.put, List.setIfInBounds_toArray, List.set_cons_zero, List.set_cons_succ])
        (repeat (first | (refine Plan.tree_read (v := ?_) rfl rfl ?_ ?_; rotate_left; (focus ((intro wS hSw; have hkS := (bcell hSw).1; go_simp); try with_reducible rfl)); simp only [Act.put, List.setIfInBounds_toArray, List.set_cons_zero, List.set_cons_succ]) | (refine Plan.tree_skip rfl rfl ?_; simp only [Act.put, List.setIfInBounds_toArray, List.set_cons_zero, List.set_cons_succ])))
        (refine Plan.tree_write rfl (fun K hK => ?_); try go_simp)
        go_at_call 19
        (with_reducible refine (KM2.out _ _ _ x (RightsAt.more (RightsAt.below (RightsAt.below hC1 hBr.out) (hb9.mono (by omega))) (by have := hb9.size; omega))).mono ?_)
        rintro e8 w8 ⟨rfl, hb8q⟩
        have hb8 : Below wr.heap.size wr w8 := hb9.trans (hb8q.mono hb9.size)
        clear hb8q
        (refine hK.out _ _ (hb8) ?_; clear hK K; try simp only [Act.put, List.setIfInBounds_toArray, List.set_cons_zero, List.set_cons_succ])
        (repeat (first | (refine Plan.tree_read (v := ?_) rfl rfl ?_ ?_; rotate_left; (focus ((intro wS hSw; have hkS := (bcell hSw).1; go_simp); try with_reducible rfl)); simp only [Act.put, List.setIfInBounds_toArray, List.set_cons_zero, List.set_cons_succ]) | (refine Plan.tree_skip rfl rfl ?_; simp only [Act.put, List.setIfInBounds_toArray, List.set_cons_zero, List.set_cons_succ])))
        refine Plan.tree_done ?_
        go_wp2_with fail
        go_roundw
        case rel => exact ⟨i + 1, by go_num, by omega, hBr.out.trans (hb8.mono (by omega))⟩
        case measure => simp [intOf]; omega
      · obtain ⟨p, rfl⟩ : ∃ p, i = p + 1 := ⟨i - 1, by omega⟩
        obtain ⟨y, hy⟩ : ∃ y, OL[p]? = some y := ⟨_, List.getElem?_eq_getElem (by omega)⟩
        obtain ⟨bq, oq, hbo, hbq, p0, p1, p2, _⟩ := (RightsAt.below hC1 hBr.out).at_ hy
        injection hbo with hbo
        injection hbo with hb1 hb2
        subst hb1 hb2
        have hasc := HAsc.out p (p + 1) y x (by omega) hy HX.out
        have d0 : (0 : Int) < ((p : Int) + 1) := by omega
        have d5 : decide ((0 : Int) < ((p : Int) + 1)) = true := decide_eq_true d0
        have d6 : decide (0 < p + 1) = true := decide_eq_true (by omega)
        have v3 : IntKind.i64.wrap (p : Int) = (p : Int) := by rw [IntKind.wrap_i64]; omega
        have v1 : IntKind.i64.wrap ((p : Int) + 1 - 1) = (p : Int) := by rw [IntKind.wrap_i64]; omega
        have v4 : (p : Int) < (l.length : Int) := by omega
        have v5 : p < l.length := by omega
        have hd1 : decide (x.date < y.date) = false := decide_eq_false (by omega)
        have hii2 : (0 : Int) ≤ ((p : Int) + 1) ∧ ((p : Int) + 1) < (l.length : Int) := by omega
        have hii : (0 : Int) ≤ ((p : Int) + 1) ∧ ((p : Int) + 1) < (l.length : Int) := by omega
        clear hy p1
        by_cases hdd : y.date = x.date
        · have e1 : (y.date == x.date) = true := by simpa using hdd
          have hd2 : decide (x.id < y.id) = false := decide_eq_false (by omega)
          clear hasc hdd
          go_upto_region 10 with fail
          clear hii2 hi0
          refine Plan.wp_region_tree (.rd 0 (.rd 1 (.rd 2 (.rd 3 (.rd 4 (.rd 5 (.rd 6 (.rd 7 (.rd 8 (.rd 9 (.rd 10 (.rd 11 (.rd 12 (.rd 13 (.rd 14 (.rd 15 (.rd 16 (.rd 17 (.rd 18 (.rd 19 (.rd 20 (.rd 21 (.rd 22 (.rd 23 (.rd 24 (.rd 25 (.rd 26 (.rd 27 (.rd 28 (.rd 29 (.rd 30 (.rd 31 (.rd 32 (.rd 33 (.rd 34 (.rd 35 (.rd 36 (.rd 37 (.rd 38 (.rd 39 (.rd 40 (.rd 41 (.rd 42 (.rd 43 (.rd 44 (.rd 45 (.rd 46 (.rd 47 (.rd 48 (.rd 49 (.rd 51 (.rd 52 (.rd 53 (.rd 54 (.rd 55 (.wr 50 (.wr 56 (.rd 57 (.rd 58 .done))))))))))))))))))))))))))))))))))))))))))))))))))))))))))) (by kernel_rfl) (by kernel_rfl) ?_
          (repeat (first | (refine Plan.tree_read (v := ?_) rfl rfl ?_ ?_; rotate_left; (focus ((intro wS hSw; have hkS := (bcell hSw).1; go_simp); try with_reducible rfl)); simp only [Act.put, List.setIfInBounds_toArray, List.set_cons_zero, List.set_cons_succ]) | (refine Plan.tree_skip rfl rfl ?_; simp only [Act.put, List.setIfInBounds_toArray, List.set_cons_zero, List.set_cons_succ])))
          (refine Plan.tree_write rfl (fun K hK => ?_); try go_simp)
          go_at_call 19
          (with_reducible refine (KM.out _ x HBr.drew).mono ?_)
          rintro e9 w9 ⟨rfl, hb9q⟩
          have hb9 : Below wr.heap.size wr w9 := Plan.below_drew_go hb9q
          clear hb9q
          (refine hK.out _ _ (hb9) ?_; clear hK K; try simp only [Act.put, List.setIfInBounds_toArray, List.set_cons_zero, List.set_cons_succ])
          (repeat (first | (refine Plan.tree_read (v := ?_) rfl rfl ?_ ?_; rotate_left; (focus ((intro wS hSw; have hkS := (bcell hSw).1; go_simp); try with_reducible rfl)); simp only [Act.put, List.setIfInBounds_toArray, List.set_cons_zero, List.set_cons_succ]) | (refine Plan.tree_skip rfl rfl ?_; simp only [Act.put, List.setIfInBounds_toArray, List.set_cons_zero, List.set_cons_succ])))
          (refine Plan.tree_write rfl (fun K hK => ?_); try go_simp)
          go_at_call 19
          (with_reducible refine (KM2.out _ _ _ x (RightsAt.more (RightsAt.below (RightsAt.below hC1 hBr.out) (hb9.mono (by omega))) (by have := hb9.size; omega))).mono ?_)
          rintro e8 w8 ⟨rfl, hb8q⟩
          have hb8 : Below wr.heap.size wr w8 := hb9.trans (hb8q.mono hb9.size)
          clear hb8q
          (refine hK.out _ _ (hb8) ?_; clear hK K; try simp only [Act.put, List.setIfInBounds_toArray, List.set_cons_zero, List.set_cons_succ])
          (repeat (first | (refine Plan.tree_read (v := ?_) rfl rfl ?_ ?_; rotate_left; (focus ((intro wS hSw; have hkS := (bcell hSw).1; go_simp); try with_reducible rfl)); simp only [Act.put, List.setIfInBounds_toArray, List.set_cons_zero, List.set_cons_succ]) | (refine Plan.tree_skip rfl rfl ?_; simp only [Act.put, List.setIfInBounds_toArray, List.set_cons_zero, List.set_cons_succ])))
          refine Plan.tree_done ?_
          go_wp2_with fail
          go_roundw
          case rel => exact ⟨p + 1 + 1, by go_num, by omega, hBr.out.trans (hb8.mono (by omega))⟩
          case measure => simp [intOf]; omega
        · have e1 : (y.date == x.date) = false := by simpa using hdd
          clear hasc hdd
          go_upto_region 10 with fail
          clear hii2 hi0
          refine Plan.wp_region_tree (.rd 0 (.rd 1 (.rd 2 (.rd 3 (.rd 4 (.rd 5 (.rd 6 (.rd 7 (.rd 8 (.rd 9 (.rd 10 (.rd 11 (.rd 12 (.rd 13 (.rd 14 (.rd 15 (.rd 16 (.rd 17 (.rd 18 (.rd 19 (.rd 20 (.rd 21 (.rd 22 (.rd 23 (.rd 24 (.rd 25 (.rd 26 (.rd 27 (.rd 28 (.rd 29 (.rd 30 (.rd 31 (.rd 32 (.rd 33 (.rd 34 (.rd 35 (.rd 36 (.rd 37 (.rd 38 (.rd 39 (.rd 40 (.rd 41 (.rd 42 (.rd 43 (.rd 44 (.rd 45 (.rd 46 (.rd 47 (.rd 48 (.rd 49 (.rd 51 (.rd 52 (.rd 53 (.rd 54 (.rd 55 (.wr 50 (.wr 56 (.rd 57 (.rd 58 .done))))))))))))))))))))))))))))))))))))))))))))))))))))))))))) (by kernel_rfl) (by kernel_rfl) ?_
          (repeat (first | (refine Plan.tree_read (v := ?_) rfl rfl ?_ ?_; rotate_left; (focus ((intro wS hSw; have hkS := (bcell hSw).1; go_simp); try with_reducible rfl)); simp only [Act.put, List.setIfInBounds_toArray, List.set_cons_zero, List.set_cons_succ]) | (refine Plan.tree_skip rfl rfl ?_; simp only [Act.put, List.setIfInBounds_toArray, List.set_cons_zero, List.set_cons_succ])))
          (refine Plan.tree_write rfl (fun K hK => ?_); try go_simp)
          go_at_call 19
          (with_reducible refine (KM.out _ x HBr.drew).mono ?_)
          rintro e9 w9 ⟨rfl, hb9q⟩
          have hb9 : Below wr.heap.size wr w9 := Plan.below_drew_go hb9q
          clear hb9q
          (refine hK.out _ _ (hb9) ?_; clear hK K; try simp only [Act.put, List.setIfInBounds_toArray, List.set_cons_zero, List.set_cons_succ])
          (repeat (first | (refine Plan.tree_read (v := ?_) rfl rfl ?_ ?_; rotate_left; (focus ((intro wS hSw; have hkS := (bcell hSw).1; go_simp); try with_reducible rfl)); simp only [Act.put, List.setIfInBounds_toArray, List.set_cons_zero, List.set_cons_succ]) | (refine Plan.tree_skip rfl rfl ?_; simp only [Act.put, List.setIfInBounds_toArray, List.set_cons_zero, List.set_cons_succ])))
          (refine Plan.tree_write rfl (fun K hK => ?_); try go_simp)
          go_at_call 19
          (with_reducible refine (KM2.out _ _ _ x (RightsAt.more (RightsAt.below (RightsAt.below hC1 hBr.out) (hb9.mono (by omega))) (by have := hb9.size; omega))).mono ?_)
          rintro e8 w8 ⟨rfl, hb8q⟩
          have hb8 : Below wr.heap.size wr w8 := hb9.trans (hb8q.mono hb9.size)
          clear hb8q
          (refine hK.out _ _ (hb8) ?_; clear hK K; try simp only [Act.put, List.setIfInBounds_toArray, List.set_cons_zero, List.set_cons_succ])
          (repeat (first | (refine Plan.tree_read (v := ?_) rfl rfl ?_ ?_; rotate_left; (focus ((intro wS hSw; have hkS := (bcell hSw).1; go_simp); try with_reducible rfl)); simp only [Act.put, List.setIfInBounds_toArray, List.set_cons_zero, List.set_cons_succ]) | (refine Plan.tree_skip rfl rfl ?_; simp only [Act.put, List.setIfInBounds_toArray, List.set_cons_zero, List.set_cons_succ])))
          refine Plan.tree_done ?_
          go_wp2_with fail
          go_roundw
          case rel => exact ⟨p + 1 + 1, by go_num, by omega, hBr.out.trans (hb8.mono (by omega))⟩
          case measure => simp [intOf]; omega
    · have hke : i = l.length := by omega
      subst hke
      obtain ⟨wa, rfl⟩ : ∃ wa, wa = wr := ⟨_, rfl⟩
      have hbxa := hbxW.below hBr.out (by omega)
      have z0 : w.heap.size < wa.heap.size := by omega
      clear HAsc KM KM2 hC1 hbxW
      by_cases hneg : at1 < 0
      · have g1 : decide (at1 < 0) = true := decide_eq_true hneg
        go_wp2_with fail
        go_ret
        exact ⟨rfl, HBr⟩
      obtain ⟨p, rfl⟩ : ∃ p : Nat, at1 = (p : Int) := ⟨at1.toNat, by omega⟩
      have u1 : wrap64 ((L.length : Int) - 1) = (L.length : Int) - 1 := by unfold wrap64; omega
      by_cases hp : p + 1 < L.length
      case neg =>
        have g2 : decide ((L.length : Int) - 1 ≤ (p : Int)) = true := decide_eq_true (by omega)
        have g3 : (L.length : Int) - 1 ≤ (p : Int) := by omega
        go_wp2_with fail
        go_ret
        exact ⟨rfl, HBr⟩
      have g2 : decide ((L.length : Int) - 1 ≤ (p : Int)) = false := decide_eq_false (by omega)
      have g3 : ¬ (L.length : Int) - 1 ≤ (p : Int) := by omega
      obtain ⟨c, hc⟩ : ∃ c, L[p]? = some c := ⟨_, List.getElem?_eq_getElem (by omega)⟩
      obtain ⟨d, hd⟩ : ∃ d, L[p + 1]? = some d := ⟨_, List.getElem?_eq_getElem hp⟩
      obtain ⟨bd, od, rfl, hbd, q0, q1, q2, q3, q4, q5, q6, q7, q8, q9, q10, q11, q12⟩ := (HD.out.below HBr).at_ hc
      obtain ⟨bq, oq, hbo, hbq, s0, s1, s2, s3, s4, s5, s6, s7, s8, s9, s10, s11, s12⟩ := (HD.out.below HBr).at_ hd
      injection hbo with hbo
      injection hbo with hb1 hb2
      subst hb1 hb2
      have hbdw : bd < wa.heap.size := by omega
      have hpp : (0 : Int) ≤ (p : Int) ∧ (p : Int) < (L.length : Int) := by omega
      have hpq : (0 : Int) ≤ ((p : Int) + 1) ∧ ((p : Int) + 1) < (L.length : Int) := by omega
      have HC := Lib.hid hc
      have HDd := Lib.hid hd
      clear hc hd hneg
      obtain ⟨W5, hW5⟩ : ∃ W5, W5 = (wa.alloc (.cells #[.int .i64 c.kind, .int .i64 c.known, .int .i64 c.right.id, .int .i64 c.right.owner, .int .i64 c.right.date, .int .i64 c.right.place, .int .i64 c.right.rate, .int .i64 c.right.from1, .int .i64 c.right.until1, .int .i64 c.right.back, .int .i64 c.right.backTo, .int .i64 c.from1, .int .i64 c.until1] 44)).alloc (.cells #[.int .i64 d.kind, .int .i64 d.known, .int .i64 d.right.id, .int .i64 d.right.owner, .int .i64 d.right.date, .int .i64 d.right.place, .int .i64 d.right.rate, .int .i64 d.right.from1, .int .i64 d.right.until1, .int .i64 d.right.back, .int .i64 d.right.backTo, .int .i64 d.from1, .int .i64 d.until1] 44) := ⟨_, rfl⟩
      have hB5 : Below wa.heap.size wa W5 := by rw [hW5]; exact (below_new _ _).alloc (by simp) _
      have hbc5 : BoxD W5 wa.heap.size c := by rw [hW5]; exact (Below.heap_alloc _ _ _ (by simp)).trans (heap_alloc_new wa _)
      have hbd5 : BoxD W5 (wa.heap.size + 1) d := by
        have h := heap_alloc_new (wa.alloc (.cells #[.int .i64 c.kind, .int .i64 c.known, .int .i64 c.right.id, .int .i64 c.right.owner, .int .i64 c.right.date, .int .i64 c.right.place, .int .i64 c.right.rate, .int .i64 c.right.from1, .int .i64 c.right.until1, .int .i64 c.right.back, .int .i64 c.right.backTo, .int .i64 c.from1, .int .i64 c.until1] 44)) (.cells #[.int .i64 d.kind, .int .i64 d.known, .int .i64 d.right.id, .int .i64 d.right.owner, .int .i64 d.right.date, .int .i64 d.right.place, .int .i64 d.right.rate, .int .i64 d.right.from1, .int .i64 d.right.until1, .int .i64 d.right.back, .int .i64 d.right.backTo, .int .i64 d.from1, .int .i64 d.until1] 44)
        rw [World.size_alloc] at h
        rw [hW5]
        exact h
      have hz5 : wa.heap.size + 2 ≤ W5.heap.size := by rw [hW5]; simp
      have HB5 := HBr.trans (hB5.mono (by omega))
      have hbx5 := hbxa.below hB5 (by omega)
      go_upto_region 16 with fail
      rw [← hW5]
      clear hW5 q0 q1 q2 q3 q4 q5 q6 q7 q8 q9 q10 q11 q12 s0 s1 s2 s3 s4 s5 s6 s7 s8 s9 s10 s11 s12
      obtain ⟨q0, q1, q2, q3, q4, q5, q6, q7, q8, q9, q10, q11, q12⟩ := hbc5.cells
      obtain ⟨s0, s1, s2, s3, s4, s5, s6, s7, s8, s9, s10, s11, s12⟩ := hbd5.cells
      have y1 : wa.heap.size < W5.heap.size := by omega
      have y2 : wa.heap.size + 1 < W5.heap.size := by omega
      by_cases hk : c.known = d.known
      · have k1 : (c.known == d.known) = true := by simpa using hk
        clear hk
        go_wp2_with fail
        go_ret
        exact ⟨rfl, HB5⟩
      have k1 : (c.known == d.known) = false := by simpa using hk
      by_cases hc0 : c.kind = 0 ∧ d.kind = 0
      · have k2 : (c.kind == 0) = true := by simpa using hc0.1
        have k3 : (d.kind == 0) = true := by simpa using hc0.2
        clear hc0
        go_wp2_with fail
        go_ret
        exact ⟨rfl, HB5⟩
      obtain ⟨hTI, hTR⟩ := HSw.out p c d HC.out HDd.out hk hc0
      have HTI := Lib.hid hTI
      have HTR := Lib.hid hTR
      obtain ⟨kk, hkk, k2, k3⟩ : ∃ kk : Bool, kk = true ∧ ((c.kind == 0) = false ∨ ((c.kind == 0) = true ∧ (d.kind == 0) = false)) ∧ True := by
        by_cases e : c.kind = 0
        · exact ⟨true, rfl, Or.inr ⟨by simpa using e, by simpa using fun f => hc0 ⟨e, f⟩⟩, trivial⟩
        · exact ⟨true, rfl, Or.inl (by simpa using e), trivial⟩
      clear hc0 hk hTI hTR hkk k3 kk
      rcases k2 with k2 | ⟨k2, k3⟩
      all_goals
        go_upto_region 18 with fail
        have kO0 : (W5.alloc (.cells #[] 44)).ownsRow W5.heap.size 44 13 (.slice (some ⟨W5.heap.size, 0, none⟩) 0 0) 0 [] := World.ownsRow_made W5 #[] 0 (Nat.le_refl _) (by unfold maxLen; omega) (by simp)
        have kB0 : Below W5.heap.size W5 (W5.alloc (.cells #[] 44)) := below_new _ _
        have kRD : Reads (W5.alloc (.cells #[] 44)) w.heap.size 13 (some ⟨bd, od, none⟩) L.length (rowD L) := reads_deals (HD.out.below (HB5.trans (kB0.mono (by omega))))
        go_upto_region 19 with (at_builtin; go_loud (refine wpList_append_any _ rfl _ _ 35 rfl W5.heap.size 44 j0 _ 13 104 Tryd.underlying35 hj hy0 hy1 hy2 rfl (by decide) _ 0 [] rfl kO0 w.heap.size (some ⟨bd, od, none⟩) L.length dc (rowD L) rfl kRD (rowD_one _) (by unfold maxLen; omega) (by omega) kB0.size ?_); go_loud (intro v6 w6 hown6 hgr6 hxx); go_loud (have h6 : w6.ownsRow W5.heap.size 44 13 v6 L.length (rowD L) := (by simpa using hown6)); go_loud (obtain ⟨g, gc, rfl, hg1, hg2, hO6⟩ := dealArr_of_owns (by omega) h6))
        have hB6 : Below W5.heap.size W5 w6 := kB0.trans (below_own kO0 kB0.size hgr6)
        have hz6 := hB6.size
        have HO6 : Hid (OwnD w6 g L) := hO6
        clear q0 q1 q2 q3 q4 q5 q6 q7 q8 q9 q10 q11 q12 s0 s1 s2 s3 s4 s5 s6 s7 s8 s9 s10 s11 s12 hown6 hgr6 h6 hO6 kO0 kB0 kRD
        obtain ⟨s0, s1, s2, s3, s4, s5, s6, s7, s8, s9, s10, s11, s12⟩ := (hbd5.below hB6 y2).cells
        obtain ⟨t0, f0⟩ : w6.cell? ⟨g, p * 13, none⟩ = some (.int .i64 c.kind) ∧ w6.frozen? ⟨g, p * 13, none⟩ = false := HO6.out p c HC.out 0 _ rfl
        obtain ⟨t1, f1⟩ : w6.cell? ⟨g, p * 13 + 1, none⟩ = some (.int .i64 c.known) ∧ w6.frozen? ⟨g, p * 13 + 1, none⟩ = false := HO6.out p c HC.out 1 _ rfl
        obtain ⟨t2, f2⟩ : w6.cell? ⟨g, p * 13 + 2, none⟩ = some (.int .i64 c.right.id) ∧ w6.frozen? ⟨g, p * 13 + 2, none⟩ = false := HO6.out p c HC.out 2 _ rfl
        obtain ⟨t3, f3⟩ : w6.cell? ⟨g, p * 13 + 3, none⟩ = some (.int .i64 c.right.owner) ∧ w6.frozen? ⟨g, p * 13 + 3, none⟩ = false := HO6.out p c HC.out 3 _ rfl
        obtain ⟨t4, f4⟩ : w6.cell? ⟨g, p * 13 + 4, none⟩ = some (.int .i64 c.right.date) ∧ w6.frozen? ⟨g, p * 13 + 4, none⟩ = false := HO6.out p c HC.out 4 _ rfl
        obtain ⟨t5, f5⟩ : w6.cell? ⟨g, p * 13 + 5, none⟩ = some (.int .i64 c.right.place) ∧ w6.frozen? ⟨g, p * 13 + 5, none⟩ = false := HO6.out p c HC.out 5 _ rfl
        obtain ⟨t6, f6⟩ : w6.cell? ⟨g, p * 13 + 6, none⟩ = some (.int .i64 c.right.rate) ∧ w6.frozen? ⟨g, p * 13 + 6, none⟩ = false := HO6.out p c HC.out 6 _ rfl
        obtain ⟨t7, f7⟩ : w6.cell? ⟨g, p * 13 + 7, none⟩ = some (.int .i64 c.right.from1) ∧ w6.frozen? ⟨g, p * 13 + 7, none⟩ = false := HO6.out p c HC.out 7 _ rfl
        obtain ⟨t8, f8⟩ : w6.cell? ⟨g, p * 13 + 8, none⟩ = some (.int .i64 c.right.until1) ∧ w6.frozen? ⟨g, p * 13 + 8, none⟩ = false := HO6.out p c HC.out 8 _ rfl
        obtain ⟨t9, f9⟩ : w6.cell? ⟨g, p * 13 + 9, none⟩ = some (.int .i64 c.right.back) ∧ w6.frozen? ⟨g, p * 13 + 9, none⟩ = false := HO6.out p c HC.out 9 _ rfl
        obtain ⟨t10, f10⟩ : w6.cell? ⟨g, p * 13 + 10, none⟩ = some (.int .i64 c.right.backTo) ∧ w6.frozen? ⟨g, p * 13 + 10, none⟩ = false := HO6.out p c HC.out 10 _ rfl
        obtain ⟨t11, f11⟩ : w6.cell? ⟨g, p * 13 + 11, none⟩ = some (.int .i64 c.from1) ∧ w6.frozen? ⟨g, p * 13 + 11, none⟩ = false := HO6.out p c HC.out 11 _ rfl
        obtain ⟨t12, f12⟩ : w6.cell? ⟨g, p * 13 + 12, none⟩ = some (.int .i64 c.until1) ∧ w6.frozen? ⟨g, p * 13 + 12, none⟩ = false := HO6.out p c HC.out 12 _ rfl
        go_upto_region 20 with fail
        refine (show Code.wp _ _ _ _ (w6.setCells g (p * 13) d.cells) from ?_)
        have hB7 : Below W5.heap.size W5 (w6.setCells g (p * 13) d.cells) := below_setCells hB6 hg1 _ _
        have HO7 : Hid (OwnD (w6.setCells g (p * 13) d.cells) g (L.set p d)) := HO6.out.put (by omega) d
        have hz7 : (w6.setCells g (p * 13) d.cells).heap.size = w6.heap.size := size_setCells' _ _ _ _
        generalize w6.setCells g (p * 13) d.cells = W7 at hB7 HO7 hz7 ⊢
        have hg7 : g < W7.heap.size := by omega
        clear HO6 s0 s1 s2 s3 s4 s5 s6 s7 s8 s9 s10 s11 s12 t0 f0 t1 f1 t2 f2 t3 f3 t4 f4 t5 f5 t6 f6 t7 f7 t8 f8 t9 f9 t10 f10 t11 f11 t12 f12
        obtain ⟨s0, s1, s2, s3, s4, s5, s6, s7, s8, s9, s10, s11, s12⟩ := (hbc5.below hB7 y1).cells
        have hd7 : (L.set p d)[p + 1]? = some d := by rw [List.getElem?_set_ne (by omega)]; exact HDd.out
        have y7 : wa.heap.size < W7.heap.size := by omega
        obtain ⟨t0, f0⟩ : W7.cell? ⟨g, (p + 1) * 13, none⟩ = some (.int .i64 d.kind) ∧ W7.frozen? ⟨g, (p + 1) * 13, none⟩ = false := HO7.out (p + 1) d hd7 0 _ rfl
        obtain ⟨t1, f1⟩ : W7.cell? ⟨g, (p + 1) * 13 + 1, none⟩ = some (.int .i64 d.known) ∧ W7.frozen? ⟨g, (p + 1) * 13 + 1, none⟩ = false := HO7.out (p + 1) d hd7 1 _ rfl
        obtain ⟨t2, f2⟩ : W7.cell? ⟨g, (p + 1) * 13 + 2, none⟩ = some (.int .i64 d.right.id) ∧ W7.frozen? ⟨g, (p + 1) * 13 + 2, none⟩ = false := HO7.out (p + 1) d hd7 2 _ rfl
        obtain ⟨t3, f3⟩ : W7.cell? ⟨g, (p + 1) * 13 + 3, none⟩ = some (.int .i64 d.right.owner) ∧ W7.frozen? ⟨g, (p + 1) * 13 + 3, none⟩ = false := HO7.out (p + 1) d hd7 3 _ rfl
        obtain ⟨t4, f4⟩ : W7.cell? ⟨g, (p + 1) * 13 + 4, none⟩ = some (.int .i64 d.right.date) ∧ W7.frozen? ⟨g, (p + 1) * 13 + 4, none⟩ = false := HO7.out (p + 1) d hd7 4 _ rfl
        obtain ⟨t5, f5⟩ : W7.cell? ⟨g, (p + 1) * 13 + 5, none⟩ = some (.int .i64 d.right.place) ∧ W7.frozen? ⟨g, (p + 1) * 13 + 5, none⟩ = false := HO7.out (p + 1) d hd7 5 _ rfl
        obtain ⟨t6, f6⟩ : W7.cell? ⟨g, (p + 1) * 13 + 6, none⟩ = some (.int .i64 d.right.rate) ∧ W7.frozen? ⟨g, (p + 1) * 13 + 6, none⟩ = false := HO7.out (p + 1) d hd7 6 _ rfl
        obtain ⟨t7, f7⟩ : W7.cell? ⟨g, (p + 1) * 13 + 7, none⟩ = some (.int .i64 d.right.from1) ∧ W7.frozen? ⟨g, (p + 1) * 13 + 7, none⟩ = false := HO7.out (p + 1) d hd7 7 _ rfl
        obtain ⟨t8, f8⟩ : W7.cell? ⟨g, (p + 1) * 13 + 8, none⟩ = some (.int .i64 d.right.until1) ∧ W7.frozen? ⟨g, (p + 1) * 13 + 8, none⟩ = false := HO7.out (p + 1) d hd7 8 _ rfl
        obtain ⟨t9, f9⟩ : W7.cell? ⟨g, (p + 1) * 13 + 9, none⟩ = some (.int .i64 d.right.back) ∧ W7.frozen? ⟨g, (p + 1) * 13 + 9, none⟩ = false := HO7.out (p + 1) d hd7 9 _ rfl
        obtain ⟨t10, f10⟩ : W7.cell? ⟨g, (p + 1) * 13 + 10, none⟩ = some (.int .i64 d.right.backTo) ∧ W7.frozen? ⟨g, (p + 1) * 13 + 10, none⟩ = false := HO7.out (p + 1) d hd7 10 _ rfl
        obtain ⟨t11, f11⟩ : W7.cell? ⟨g, (p + 1) * 13 + 11, none⟩ = some (.int .i64 d.from1) ∧ W7.frozen? ⟨g, (p + 1) * 13 + 11, none⟩ = false := HO7.out (p + 1) d hd7 11 _ rfl
        obtain ⟨t12, f12⟩ : W7.cell? ⟨g, (p + 1) * 13 + 12, none⟩ = some (.int .i64 d.until1) ∧ W7.frozen? ⟨g, (p + 1) * 13 + 12, none⟩ = false := HO7.out (p + 1) d hd7 12 _ rfl
        clear hd7
        go_upto_region 21 with fail
        refine (show Code.wp _ _ _ _ (W7.setCells g ((p + 1) * 13) c.cells) from ?_)
        have hB8 : Below W5.heap.size W5 (W7.setCells g ((p + 1) * 13) c.cells) := below_setCells hB7 hg1 _ _
        have HO8 : Hid (OwnD (W7.setCells g ((p + 1) * 13) c.cells) g ((L.set p d).set (p + 1) c)) := HO7.out.put (by simp; omega) c
        have hz8 : (W7.setCells g ((p + 1) * 13) c.cells).heap.size = W7.heap.size := size_setCells' _ _ _ _
        generalize W7.setCells g ((p + 1) * 13) c.cells = W8 at hB8 HO8 hz8 ⊢
        have hg8 : g < W8.heap.size := by omega
        have hDT := HO8.out.deals hg8
        have hlT : ((L.set p d).set (p + 1) c).length = L.length := by simp
        have HB8 : Below w.heap.size w W8 := HB5.trans (hB8.mono (by omega))
        have z8 : w.heap.size < W8.heap.size := by omega
        have x8 := hbx5.below hB8 (by omega)
        clear hz7 hz8 HO7 HO8 s0 s1 s2 s3 s4 s5 s6 s7 s8 s9 s10 s11 s12 t0 f0 t1 f1 t2 f2 t3 f3 t4 f4 t5 f5 t6 f6 t7 f7 t8 f8 t9 f9 t10 f10 t11 f11 t12 f12
        obtain ⟨x0, x1, x2, x3, x4, x5, x6, x7, x8, x9, x10⟩ := x8.cells
        refine Plan.wp_region_tree (.rd 0 (.rd 1 (.rd 2 (.rd 3 (.rd 4 (.rd 5 (.rd 7 (.rd 8 (.rd 9 (.rd 10 (.wr 6 (.wr 11 (.wr 12 (.rd 13 (.rd 14 .done))))))))))))))) (by kernel_rfl) (by kernel_rfl) ?_
        (repeat (first | (refine Plan.tree_read (v := ?_) rfl rfl ?_ ?_; rotate_left; (focus ((intro wS hSw; have hkS := (bcell hSw).1; go_simp); try with_reducible rfl)); simp only [Act.put, List.setIfInBounds_toArray, List.set_cons_zero, List.set_cons_succ]) | (refine Plan.tree_skip rfl rfl ?_; simp only [Act.put, List.setIfInBounds_toArray, List.set_cons_zero, List.set_cons_succ])))
        (refine Plan.tree_write rfl (fun K hK => ?_); try go_simp)
        go_at_call 16
        (with_reducible refine (KT.out _ HB8.drew).mono ?_)
        rintro e9 w9 ⟨C9, c9, rfl, hC9, hb9q⟩
        have hb9 : Below W8.heap.size W8 w9 := Plan.below_drew_go hb9q
        clear hb9q
        (refine hK.out _ _ (hb9) ?_; clear hK K; try simp only [Act.put, List.setIfInBounds_toArray, List.set_cons_zero, List.set_cons_succ])
        (repeat (first | (refine Plan.tree_read (v := ?_) rfl rfl ?_ ?_; rotate_left; (focus ((intro wS hSw; have hkS := (bcell hSw).1; go_simp); try with_reducible rfl)); simp only [Act.put, List.setIfInBounds_toArray, List.set_cons_zero, List.set_cons_succ]) | (refine Plan.tree_skip rfl rfl ?_; simp only [Act.put, List.setIfInBounds_toArray, List.set_cons_zero, List.set_cons_succ])))
        (refine Plan.tree_write rfl (fun K hK => ?_); try go_simp)
        go_at_call 16
        (with_reducible refine (KU.out _ _ _ _ (HB8.trans (hb9.mono (by omega))) ((hDT.below hb9).more hb9.size) hlT HTI.out HTR.out).mono ?_)
        rintro e10 w10 ⟨C10, c10, rfl, hC10, hb10q⟩
        have hb10 : Below W8.heap.size W8 w10 := hb9.trans (hb10q.mono hb9.size)
        have hC9' := (RightsAt.below hC9 hb10q).more hb10q.size
        clear hb10q hC9
        (refine hK.out _ _ (hb10) ?_; clear hK K; try simp only [Act.put, List.setIfInBounds_toArray, List.set_cons_zero, List.set_cons_succ])
        (repeat (first | (refine Plan.tree_read (v := ?_) rfl rfl ?_ ?_; rotate_left; (focus ((intro wS hSw; have hkS := (bcell hSw).1; go_simp); try with_reducible rfl)); simp only [Act.put, List.setIfInBounds_toArray, List.set_cons_zero, List.set_cons_succ]) | (refine Plan.tree_skip rfl rfl ?_; simp only [Act.put, List.setIfInBounds_toArray, List.set_cons_zero, List.set_cons_succ])))
        (refine Plan.tree_write rfl (fun K hK => ?_); try go_simp)
        go_at_call 18
        (with_reducible refine (KSR.out _ _ _ _ _ hC9' hC10).mono ?_)
        rintro e11 w11 ⟨rfl, hb11q⟩
        have hb11 : Below W8.heap.size W8 w11 := hb10.trans (hb11q.mono hb10.size)
        (refine hK.out _ _ (hb11) ?_; clear hK K; try simp only [Act.put, List.setIfInBounds_toArray, List.set_cons_zero, List.set_cons_succ])
        (repeat (first | (refine Plan.tree_read (v := ?_) rfl rfl ?_ ?_; rotate_left; (focus ((intro wS hSw; have hkS := (bcell hSw).1; go_simp); try with_reducible rfl)); simp only [Act.put, List.setIfInBounds_toArray, List.set_cons_zero, List.set_cons_succ]) | (refine Plan.tree_skip rfl rfl ?_; simp only [Act.put, List.setIfInBounds_toArray, List.set_cons_zero, List.set_cons_succ])))
        refine Plan.tree_done ?_
        go_wp2_with fail
        go_ret
        exact ⟨rfl, HB8.trans (hb11.mono (by omega))⟩
end Go.Proofs.YtchmplnkddgncaaDoor
