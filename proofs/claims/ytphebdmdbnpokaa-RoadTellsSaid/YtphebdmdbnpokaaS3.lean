/- The walk of travelled. -/
import Derived.Test.YtphebdmdbnpokaaS2
set_option linter.unusedSimpArgs false
set_option linter.unusedVariables false
namespace Go.Proofs.Ytphebdmdbnpokaa
open Go.RowKit RD
attribute [local go_sem] alloc_drewN setCell_drewN shape_drewN
/-- The hour at which a walk from a town ends at a shelter, or -1. -/
noncomputable def travS (N P nT : Nat) (VS : Vs) (R : List Rd) (town : Int) (l : List Int) : Int :=
  if l.length < 2 ∨ l.getD 0 0 ≠ town then -1 else if trav N P VS R (l.getD 0 0) 0 (l.drop 1) < 0 then -1 else
    if l.getD (l.length - 1) 0 < nT ∨ (N : Int) ≤ l.getD (l.length - 1) 0 then -1 else trav N P VS R (l.getD 0 0) 0 (l.drop 1)
def TravIs (X : Bs) (L : List Vl) (town : Int) (l : List Int) (w : World) (e : Ending) (w' : World) : Prop := e = .returned (.int .i64 (travS X.N X.l3 X.T.length (vsOf L) X.R town l)) ∧ Below w.heap.size w w'
theorem getD_of {l : List Int} {k : Nat} {x : Int} (h : l[k]? = some x) : l.getD k 0 = x := by rw [List.getD_eq_getElem?_getD, h]; rfl
set_option maxRecDepth 100000 in
set_option maxHeartbeats 8000000 in
theorem travelled_any (X : Bs) (C : Option Addr) (c : Nat) (L : List Vl) (town : Int) (D : Option Addr) (d : Nat) (l : List Int) (w : World) (hX : BsAt w w.heap.size X) (hV : VlsAt w w.heap.size C L) (hD : IntsAt w w.heap.size D l) (hbl : BsLen X) (hL : L.length ≤ 1000) (hl : l.length ≤ 100) :
    Calls Try.prog 16 #[.agg #[.string X.nm, .slice X.a1 X.l1 X.c1, .int .i64 X.cl, .slice X.a3 X.l3 X.c3, .slice X.a4 X.l4 X.c4, .slice X.a5 X.T.length X.c5, .slice X.a6 X.l6 X.c6, .slice X.a7 X.R.length X.c7, .slice X.a8 X.S.length X.c8, .slice X.a9 X.l9 X.c9, .int .i64 X.er], .int .i64 town, .slice C L.length c, .slice D l.length d] w (TravIs X L town l w) := by
  have hB0 : Below w.heap.size w (w.alloc (.cells #[.string X.nm, .slice X.a1 X.l1 X.c1, .int .i64 X.cl, .slice X.a3 X.l3 X.c3, .slice X.a4 X.l4 X.c4, .slice X.a5 X.T.length X.c5, .slice X.a6 X.l6 X.c6, .slice X.a7 X.R.length X.c7, .slice X.a8 X.S.length X.c8, .slice X.a9 X.l9 X.c9, .int .i64 X.er] 31)) := (Below.refl _ _).alloc (Nat.le_refl _) _
  have hX0 : Box (w.alloc (.cells #[.string X.nm, .slice X.a1 X.l1 X.c1, .int .i64 X.cl, .slice X.a3 X.l3 X.c3, .slice X.a4 X.l4 X.c4, .slice X.a5 X.T.length X.c5, .slice X.a6 X.l6 X.c6, .slice X.a7 X.R.length X.c7, .slice X.a8 X.S.length X.c8, .slice X.a9 X.l9 X.c9, .int .i64 X.er] 31)) w.heap.size #[.string X.nm, .slice X.a1 X.l1 X.c1, .int .i64 X.cl, .slice X.a3 X.l3 X.c3, .slice X.a4 X.l4 X.c4, .slice X.a5 X.T.length X.c5, .slice X.a6 X.l6 X.c6, .slice X.a7 X.R.length X.c7, .slice X.a8 X.S.length X.c8, .slice X.a9 X.l9 X.c9, .int .i64 X.er] 31 := Box.new w _ _
  by_cases h2 : l.length < 2
  · have ht : travS X.N X.l3 X.T.length (vsOf L) X.R town l = -1 := by unfold travS; rw [if_pos (.inl h2)]
    have Ht := Lib.hid ht
    clear ht hX hV hD
    go_enter Try.func16, Try.ntmps16
    go_wp2_with fail
    go_ret
    exact ⟨ret_int Ht.out.symm, hB0⟩
  obtain ⟨u, hu⟩ : ∃ u, l[0]? = some u := ⟨_, List.getElem?_eq_getElem (by omega)⟩
  obtain ⟨b, off, ed, hb, c0⟩ := ints_at hD hu
  subst ed
  have hcell : ∀ k x, l[k]? = some x → w.cell? ⟨b, off + k, none⟩ = some (.int .i64 x) := fun k x hk => by
    obtain ⟨b', off', e, _, hc⟩ := ints_at hD hk
    simp at e
    obtain ⟨rfl, rfl⟩ := e
    exact hc
  have Hcell := Lib.hid hcell
  have h2' : ¬ ((l.length : Int) < 2) := by omega
  by_cases hut : u = town
  case neg =>
    have d1 : (u != town) = true := by simpa using hut
    have ht : travS X.N X.l3 X.T.length (vsOf L) X.R town l = -1 := by unfold travS; rw [if_pos (.inr (by rw [getD_of hu]; exact hut))]
    have Ht := Lib.hid ht
    rw [Nat.add_zero] at c0
    clear ht hX hV hD hcell hu hut
    go_enter Try.func16, Try.ntmps16
    go_wp2_with fail
    go_ret
    exact ⟨ret_int Ht.out.symm, hB0⟩
  subst hut
  have ht : travS X.N X.l3 X.T.length (vsOf L) X.R u l = if trav X.N X.l3 (vsOf L) X.R u 0 (l.drop 1) < 0 then -1 else
    if l.getD (l.length - 1) 0 < X.T.length ∨ (X.N : Int) ≤ l.getD (l.length - 1) 0 then -1 else trav X.N X.l3 (vsOf L) X.R u 0 (l.drop 1) := by
    unfold travS
    rw [if_neg (fun q => by rcases q with q | q; exact h2 q; exact q (getD_of hu)), getD_of hu]
  obtain ⟨TR, hTR⟩ : ∃ TR, trav X.N X.l3 (vsOf L) X.R u 0 (l.drop 1) = TR := ⟨_, rfl⟩
  rw [hTR] at ht
  have KJ := Lib.hid (fun (a v : Int) (now : Nat) (hn : now ≤ 1000000) (wx : World) (h : Below w.heap.size w wx) => journey_any X C c L a v now wx ((hX.below h).more h.size) ((hV.below h).more h.size) hbl hL hn)
  unfold JourIs at KJ
  rw [Nat.add_zero] at c0
  have hN1 : (X.T.length : Int) + (X.S.length : Int) = (X.N : Int) := by unfold Bs.N; omega
  have hbT := hbl.t
  have hbS := hbl.s
  have Ht := Lib.hid ht
  have HTR := Lib.hid hTR
  have Hu := Lib.hid hu
  have d1 : (u != u) = false := by simp
  clear ht hTR hX hV hD hbl hcell hu
  go_enter Try.func16, Try.ntmps16
  go_wp2_with fail
  clear c0
  go_loopw [9, 10] (fun nv iv wr => ∃ (i now : Nat) (a : Int), iv = .int .i64 i ∧ nv = .int .i64 now ∧ 1 ≤ i ∧ i ≤ l.length ∧ now ≤ 1000 + 24 * i ∧ l[i - 1]? = some a ∧ trav X.N X.l3 (vsOf L) X.R a now (l.drop i) = TR ∧ Box wr w.heap.size #[.string X.nm, .slice X.a1 X.l1 X.c1, .int .i64 X.cl, .slice X.a3 X.l3 X.c3, .slice X.a4 X.l4 X.c4, .slice X.a5 X.T.length X.c5, .slice X.a6 X.l6 X.c6, .slice X.a7 X.R.length X.c7, .slice X.a8 X.S.length X.c8, .slice X.a9 X.l9 X.c9, .int .i64 X.er] 31 ∧ Below w.heap.size w wr) (fun _ iv _ => l.length - (intOf iv).toNat)
  case atStart => exact ⟨1, 0, u, rfl, rfl, by omega, by omega, by omega, Hu.out, HTR.out, hX0, hB0⟩
  case round =>
    clear hX0 hB0
    obtain ⟨i, now, a, rfl, rfl, hi1, hi2, hnow, ha, htr, hBx, hBw⟩ := hrel
    obtain ⟨x0, x1, x2, x3, x4, x5, x6, x7, x8, x9, x10⟩ := hBx.bas
    have hwz := hBx.lt
    have hbw : b < wr.heap.size := by omega
    have HBx := Lib.hid hBx
    clear hBx
    by_cases hlt : i < l.length
    · obtain ⟨v, hv⟩ : ∃ v, l[i]? = some v := ⟨_, List.getElem?_eq_getElem hlt⟩
      obtain ⟨j, hj⟩ : ∃ j, j = i - 1 := ⟨_, rfl⟩
      have p1 : wr.cell? ⟨b, off + j, none⟩ = some (.int .i64 a) := (hBw.cell (p := ⟨b, off + j, none⟩) hb).trans (Hcell.out j a (by rw [hj]; exact ha))
      have p2 : wr.cell? ⟨b, off + i, none⟩ = some (.int .i64 v) := (hBw.cell (p := ⟨b, off + i, none⟩) hb).trans (Hcell.out i v hv)
      have q1 : IntKind.i64.wrap ((i : Int) - 1) = (j : Int) := by rw [IntKind.wrap_i64]; omega
      have q2 : (i : Int) - 1 = (j : Int) := by omega
      have q3 : IntKind.i64.wrap (j : Int) = (j : Int) := by rw [IntKind.wrap_i64]; omega
      have hjl : j < l.length := by omega
      obtain ⟨y, hy⟩ : ∃ y, jour X.N X.l3 (vsOf L) X.R a v now = y := ⟨_, rfl⟩
      have hdr : l.drop i = v :: l.drop (i + 1) := by rw [List.drop_eq_getElem_cons hlt]; congr 1; exact Option.some.inj ((List.getElem?_eq_getElem hlt).symm.trans hv)
      rw [hdr] at htr
      simp only [trav] at htr
      rw [hy] at htr
      have hyb : y ≤ max now ((vsOf L).length - 1) + 24 := by rw [← hy]; exact jour_bound
      rw [vsOf_len] at hyb
      have hyb2 : y ≤ 1000 + 24 * (i + 1) := by omega
      have KJ1 := Lib.hid (KJ.out a v now (by omega))
      rw [hy] at KJ1
      have Htr := Lib.hid htr
      have Hv := Lib.hid hv
      clear htr hv ha hdr hy hyb hj
      go_wp2_with fail
      refine Plan.wp_region_below 13 [(0, true), (1, true), (2, true), (3, true), (4, true), (5, true), (6, true), (7, true), (8, true), (9, true), (10, true), (11, true), (12, false), (13, false)] (by kernel_rfl) (by kernel_rfl) ?_
      (repeat (first | (refine Plan.plan_read (v := ?_) rfl rfl ?_ ?_; rotate_left; (focus ((intro wS hSw; have hkS := (bcell hSw).1; try (have hkT := fun (b o : Nat) (h : b < w.heap.size) => hkS b o (by first | omega | (simp; omega) | (simp; done))); go_simp); try with_reducible rfl)); simp only [Act.put, List.setIfInBounds_toArray, List.set_cons_zero, List.set_cons_succ]) | (refine Plan.plan_skip rfl rfl ?_; simp only [Act.put, List.setIfInBounds_toArray, List.set_cons_zero, List.set_cons_succ])))
      refine Plan.plan_write rfl (fun K hK => ?_)
      go_simp
      go_at_call 31
      (with_reducible refine (KJ1.out _ hBw.drew).mono ?_)
      rintro e1 w4 ⟨rfl, hb4⟩
      have kB := Plan.below_drew_go hb4
      have hz4 := kB.size
      refine hK.out _ _ kB ?_
      clear hK K
      try simp only [Act.put, List.setIfInBounds_toArray, List.set_cons_zero, List.set_cons_succ]
      (repeat (first | (refine Plan.plan_read (v := ?_) rfl rfl ?_ ?_; rotate_left; (focus ((intro wS hSw; have hkS := (bcell hSw).1; try (have hkT := fun (b o : Nat) (h : b < w.heap.size) => hkS b o (by first | omega | (simp; omega) | (simp; done))); go_simp); try with_reducible rfl)); simp only [Act.put, List.setIfInBounds_toArray, List.set_cons_zero, List.set_cons_succ]) | (refine Plan.plan_skip rfl rfl ?_; simp only [Act.put, List.setIfInBounds_toArray, List.set_cons_zero, List.set_cons_succ])))
      refine Plan.plan_last rfl (fun K hK => ?_)
      go_simp
      refine hK.out _ _ ?_
      clear hK K
      try simp only [Act.put, List.setIfInBounds_toArray, List.set_cons_zero, List.set_cons_succ]
      clear x0 x1 x2 x3 x4 x5 x6 x7 x8 x9 x10 p1 p2
      by_cases hy0 : y < 0
      · go_wp2_with fail
        go_ret
        have h1 := Htr.out
        rw [if_pos hy0] at h1
        exact ⟨ret_int (by rw [Ht.out, ← h1]; rfl), hBw.trans (kB.mono (by omega))⟩
      · obtain ⟨m, rfl⟩ := Int.eq_ofNat_of_zero_le (show 0 ≤ y by omega)
        have h1 := Htr.out
        rw [if_neg hy0, Int.toNat_natCast] at h1
        have H1 := Lib.hid h1
        clear h1 Htr
        go_wp2_with fail
        go_roundw
        case rel => exact ⟨i + 1, m, v, by go_num, rfl, by omega, by omega, by omega, Hv.out, H1.out, HBx.out.below kB hwz, hBw.trans (kB.mono (by omega))⟩
        case measure => simp [intOf]; omega
    · obtain rfl : i = l.length := by omega
      rw [List.drop_length] at htr
      simp only [trav] at htr
      have htn : TR = (now : Int) := htr.symm
      subst htn
      obtain ⟨j, hj⟩ : ∃ j, j = l.length - 1 := ⟨_, rfl⟩
      rw [← hj] at ha
      have p1 : wr.cell? ⟨b, off + j, none⟩ = some (.int .i64 a) := (hBw.cell (p := ⟨b, off + j, none⟩) hb).trans (Hcell.out j a ha)
      have q2 : (l.length : Int) - 1 = (j : Int) := by omega
      have hjl : j < l.length := by omega
      have hga : l.getD (l.length - 1) 0 = a := by rw [← hj]; exact getD_of ha
      have ht := Ht.out
      rw [hga, if_neg (by omega)] at ht
      have Ht2 := Lib.hid ht
      clear Ht ht hga ha hj htr HTR
      go_wp2_with fail
      all_goals
        go_ret
        refine ⟨ret_int ?_, hBw⟩
        rw [Ht2.out]
        by_cases hc : a < (X.T.length : Int) ∨ (X.N : Int) ≤ a
        · rw [if_pos hc]
          first
            | done
            | rfl
            | (exfalso; omega)
        · rw [if_neg hc]
          first
            | done
            | rfl
            | (exfalso; omega)
end Go.Proofs.Ytphebdmdbnpokaa
