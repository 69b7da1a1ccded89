/- RightKnown: for every input the law answers true. (Printed by gen_l4.py.) -/
import Derived.Deep.Cut
import Derived.Test.YtchmplnkddgncaaDoorL2
set_option linter.unusedSimpArgs false
set_option linter.unusedVariables false
namespace Go.Proofs.YtchmplnkddgncaaDoor
open Go.RowKit CM RG
attribute [local go_sem] alloc_drewN setCell_drewN shape_drewN

theorem rowD_one (A : List Dl) : ∀ u ∈ rowD A, u.oneCell' = true := fun u hu => by
  obtain ⟨e, _, h⟩ := List.mem_flatMap.1 hu
  exact dl_one e u h
theorem rowD_snoc (A : List Dl) (x : Dl) : rowD (A ++ [x]) = rowD A ++ x.cells := by simp [rowD]
theorem reads_deals {w : World} {B : Nat} {C : Option Addr} {A : List Dl} (h : DealsAt w B C A) : Reads w B 13 C A.length (rowD A) := reads_rowk dl_len h (by decide)
theorem deals_of_owns {w : World} {base e : Nat} {v : Value} {A : List Dl} (h : w.ownsRow base e 13 v A.length (rowD A)) : ∃ C cc, v = .slice C A.length cc ∧ DealsAt w w.heap.size C A ∧ ∀ a, C = some a → base ≤ a.block := rowk_of_owns dl_len h
/-- Those of other Ids. -/
def notId (i : Int) (A : List Rt) : List Rt := A.filter (fun r => decide (r.id ≠ i))
theorem notId_take (i : Int) (A : List Rt) {k : Nat} {x : Rt} (h : A[k]? = some x) : notId i (A.take (k + 1)) = if x.id = i then notId i (A.take k) else notId i (A.take k) ++ [x] := by
  unfold notId
  rw [List.take_add_one, h, List.filter_append]
  by_cases e : x.id = i <;> simp [List.filter, e]
set_option maxRecDepth 100000 in
set_option maxHeartbeats 16000000 in
theorem known_any (X : Bas) (pl : Pl) (L : List Dl) (D : Option Addr) (dc : Nat) (d : Dl) (day known : Int) (w : World) (hM : Months w) (hl2 : pl.length ≤ 9223372036854775807) (hl1 : X.l1 ≤ 9223372036854775807) (hD : DealsAt w w.heap.size D L) (hLl : L.length ≤ 9223372036854775807) (hI : DlsIn L) (hd : RtIn d.right) :
    Calls Tryd.prog 5 #[.agg #[.string X.nm, .slice X.a1 X.l1 X.c1, .int .i64 X.cl, .slice X.P pl.length X.cP, .slice X.a4 X.l4 X.c4, .slice X.a5 X.l5 X.c5, .slice X.a6 X.l6 X.c6, .slice X.a7 X.l7 X.c7, .slice X.a8 X.l8 X.c8, .slice X.a9 X.l9 X.c9, .int .i64 X.er], .slice D L.length dc, .agg #[.int .i64 d.kind, .int .i64 d.known, .int .i64 d.right.id, .int .i64 d.right.owner, .int .i64 d.right.date, .int .i64 d.right.place, .int .i64 d.right.rate, .int .i64 d.right.from1, .int .i64 d.right.until1, .int .i64 d.right.back, .int .i64 d.right.backTo, .int .i64 d.from1, .int .i64 d.until1], .int .i64 day, .int .i64 known] w (BoolIs true w) := by
  obtain ⟨j0, hj, hy0, hy1, hy2⟩ := info_parts Tryd.infoDeal
  obtain ⟨i0, hi, hv0, hv1, hv2⟩ := info_parts Tryd.infoRight
  have K0 := Lib.hid (fun wx (h : Below w.heap.size w wx) => small_any wx (hM.below hM.pos h))
  have hB0 : Below w.heap.size w ((w.alloc (.cells #[.string X.nm, .slice X.a1 X.l1 X.c1, .int .i64 X.cl, .slice X.P pl.length X.cP, .slice X.a4 X.l4 X.c4, .slice X.a5 X.l5 X.c5, .slice X.a6 X.l6 X.c6, .slice X.a7 X.l7 X.c7, .slice X.a8 X.l8 X.c8, .slice X.a9 X.l9 X.c9, .int .i64 X.er] 31)).alloc (.cells #[.int .i64 d.kind, .int .i64 d.known, .int .i64 d.right.id, .int .i64 d.right.owner, .int .i64 d.right.date, .int .i64 d.right.place, .int .i64 d.right.rate, .int .i64 d.right.from1, .int .i64 d.right.until1, .int .i64 d.right.back, .int .i64 d.right.backTo, .int .i64 d.from1, .int .i64 d.until1] 44)) := (below_new _ _).alloc (by simp) _
  have hbx0 : BoxR ((w.alloc (.cells #[.string X.nm, .slice X.a1 X.l1 X.c1, .int .i64 X.cl, .slice X.P pl.length X.cP, .slice X.a4 X.l4 X.c4, .slice X.a5 X.l5 X.c5, .slice X.a6 X.l6 X.c6, .slice X.a7 X.l7 X.c7, .slice X.a8 X.l8 X.c8, .slice X.a9 X.l9 X.c9, .int .i64 X.er] 31)).alloc (.cells #[.int .i64 d.kind, .int .i64 d.known, .int .i64 d.right.id, .int .i64 d.right.owner, .int .i64 d.right.date, .int .i64 d.right.place, .int .i64 d.right.rate, .int .i64 d.right.from1, .int .i64 d.right.until1, .int .i64 d.right.back, .int .i64 d.right.backTo, .int .i64 d.from1, .int .i64 d.until1] 44)) w.heap.size X pl := (Below.heap_alloc _ _ _ (by simp)).trans (heap_alloc_new w _)
  have hbd0 : BoxD ((w.alloc (.cells #[.string X.nm, .slice X.a1 X.l1 X.c1, .int .i64 X.cl, .slice X.P pl.length X.cP, .slice X.a4 X.l4 X.c4, .slice X.a5 X.l5 X.c5, .slice X.a6 X.l6 X.c6, .slice X.a7 X.l7 X.c7, .slice X.a8 X.l8 X.c8, .slice X.a9 X.l9 X.c9, .int .i64 X.er] 31)).alloc (.cells #[.int .i64 d.kind, .int .i64 d.known, .int .i64 d.right.id, .int .i64 d.right.owner, .int .i64 d.right.date, .int .i64 d.right.place, .int .i64 d.right.rate, .int .i64 d.right.from1, .int .i64 d.right.until1, .int .i64 d.right.back, .int .i64 d.right.backTo, .int .i64 d.from1, .int .i64 d.until1] 44)) (w.heap.size + 1) d := by
    have h := heap_alloc_new (w.alloc (.cells #[.string X.nm, .slice X.a1 X.l1 X.c1, .int .i64 X.cl, .slice X.P pl.length X.cP, .slice X.a4 X.l4 X.c4, .slice X.a5 X.l5 X.c5, .slice X.a6 X.l6 X.c6, .slice X.a7 X.l7 X.c7, .slice X.a8 X.l8 X.c8, .slice X.a9 X.l9 X.c9, .int .i64 X.er] 31)) (.cells #[.int .i64 d.kind, .int .i64 d.known, .int .i64 d.right.id, .int .i64 d.right.owner, .int .i64 d.right.date, .int .i64 d.right.place, .int .i64 d.right.rate, .int .i64 d.right.from1, .int .i64 d.right.until1, .int .i64 d.right.back, .int .i64 d.right.backTo, .int .i64 d.from1, .int .i64 d.until1] 44)
    rw [World.size_alloc] at h
    exact h
  have hs0 : ((w.alloc (.cells #[.string X.nm, .slice X.a1 X.l1 X.c1, .int .i64 X.cl, .slice X.P pl.length X.cP, .slice X.a4 X.l4 X.c4, .slice X.a5 X.l5 X.c5, .slice X.a6 X.l6 X.c6, .slice X.a7 X.l7 X.c7, .slice X.a8 X.l8 X.c8, .slice X.a9 X.l9 X.c9, .int .i64 X.er] 31)).alloc (.cells #[.int .i64 d.kind, .int .i64 d.known, .int .i64 d.right.id, .int .i64 d.right.owner, .int .i64 d.right.date, .int .i64 d.right.place, .int .i64 d.right.rate, .int .i64 d.right.from1, .int .i64 d.right.until1, .int .i64 d.right.back, .int .i64 d.right.backTo, .int .i64 d.from1, .int .i64 d.until1] 44)).heap.size = w.heap.size + 1 + 1 := by simp
  by_cases hall : L.length ≤ 40
  case neg =>
    have q : 40 < L.length := by omega
    clear hall
    go_enter Tryd.func5, Tryd.ntmps5
    go_wp2_with fail
    go_at_call 8
    (with_reducible refine (K0.out _ hB0).mono ?_)
    rintro e1 w1 ⟨rfl, hb1⟩
    go_wp2_with fail
    go_ret
    exact ⟨rfl, hB0.trans (hb1.mono (by omega))⟩
  have hLI2 : DlsIn (L ++ [d]) := fun x hx => by
    rcases List.mem_append.1 hx with c | c
    · exact hI x c
    · simp at c; subst c; exact hd
  obtain ⟨RL, hRL⟩ : ∃ R, rosterR X.l1 pl.length day known L = R := ⟨_, rfl⟩
  obtain ⟨ML, hML⟩ : ∃ R, rosterR X.l1 pl.length day known (L ++ [d]) = R := ⟨_, rfl⟩
  have hrl : RL.length ≤ 40 := by rw [← hRL]; exact Nat.le_trans roster_len hall
  have hml : ML.length ≤ RL.length + 1 := by rw [← hRL, ← hML]; exact roster_one
  have HLate : Hid (known < d.known → ML = RL) := fun h => by rw [← hRL, ← hML]; exact roster_later h
  have HOth : Hid (notId d.right.id RL = notId d.right.id ML) := by show _ = _; rw [← hRL, ← hML]; exact roster_others.symm
  have HEnd : Hid (d.known ≤ known → d.kind = 3 → d.from1 ≤ day → notId d.right.id ML = ML) := fun a b c => by rw [← hML]; exact roster_ended a b c
  have KT : Hid (∀ wx, Below w.heap.size w wx → Calls Tryd.prog 16 #[.agg #[.string X.nm, .slice X.a1 X.l1 X.c1, .int .i64 X.cl, .slice X.P pl.length X.cP, .slice X.a4 X.l4 X.c4, .slice X.a5 X.l5 X.c5, .slice X.a6 X.l6 X.c6, .slice X.a7 X.l7 X.c7, .slice X.a8 X.l8 X.c8, .slice X.a9 X.l9 X.c9, .int .i64 X.er], .slice D L.length dc, .int .i64 day, .int .i64 known] wx (fun e w' => ∃ C cc, e = .returned (.slice C RL.length cc) ∧ RightsAt w' w'.heap.size C RL ∧ Below wx.heap.size wx w')) := fun wx h =>
    roster_at X pl L D dc day known wx (hM.below hM.pos h) (hD.below h) h.size (by omega) hI hRL
  have KU : Hid (∀ C cc wx n, n = L.length + 1 → Below w.heap.size w wx → DealsAt wx wx.heap.size C (L ++ [d]) → Calls Tryd.prog 16 #[.agg #[.string X.nm, .slice X.a1 X.l1 X.c1, .int .i64 X.cl, .slice X.P pl.length X.cP, .slice X.a4 X.l4 X.c4, .slice X.a5 X.l5 X.c5, .slice X.a6 X.l6 X.c6, .slice X.a7 X.l7 X.c7, .slice X.a8 X.l8 X.c8, .slice X.a9 X.l9 X.c9, .int .i64 X.er], .slice C n cc, .int .i64 day, .int .i64 known] wx (fun e w' => ∃ C cc, e = .returned (.slice C ML.length cc) ∧ RightsAt w' w'.heap.size C ML ∧ Below wx.heap.size wx w')) := fun C cc wx n hn h hC => by
    have hlen : (L ++ [d]).length = n := by rw [hn]; simp
    rw [← hlen]
    exact roster_at X pl (L ++ [d]) C cc day known wx (hM.below hM.pos h) hC (Nat.le_refl _) (by rw [hlen]; omega) hLI2 hML
  have HD := Lib.hid hD
  clear hRL hML hM hI hLI2 hd hD
  go_enter Tryd.func5, Tryd.ntmps5
  go_wp2_with fail
  go_at_call 8
  (with_reducible refine (K0.out _ hB0).mono ?_)
  rintro e1 w1 ⟨rfl, hb1⟩
  have HB1 := hB0.trans (hb1.mono (by omega))
  have hbx1 := hbx0.below hb1 (by omega)
  have hbd1 := hbd0.below hb1 (by omega)
  obtain ⟨x0, x1, x2, x3, x4, x5, x6, x7, x8, x9, x10⟩ := hbx1.cells
  have hz1 := hb1.size
  rw [hs0] at hz1
  clear hb1 hbx0 hbd0 hs0 hB0 K0
  go_wp2_with fail
  go_at_call 16
  (with_reducible refine (KT.out _ HB1).mono ?_)
  rintro e2 W ⟨C1, c1, rfl, hC1, hb2⟩
  have HB := HB1.trans (hb2.mono HB1.size)
  have hbxW := hbx1.below hb2 (by omega)
  have hbdW := hbd1.below hb2 (by omega)
  have hz2 := hb2.size
  have z0 : w.heap.size < W.heap.size := by omega
  have z1 : w.heap.size + 1 < W.heap.size := by omega
  have hzW : w.heap.size ≤ W.heap.size := by omega
  obtain ⟨x0, x1, x2, x3, x4, x5, x6, x7, x8, x9, x10⟩ := hbxW.cells
  obtain ⟨y0, y1, y2, y3, y4, y5, y6, y7, y8, y9, y10, y11, y12⟩ := hbdW.cells
  clear hb2 hbx1 hbd1 HB1 KT
  go_wp2_with fail
  rename_i K0 hK0
  have REST : ∀ (v0 v1 v2 v5 v6 v8 v9 v14 v15 v16 v17 v18 v19 v20 v21 v22 v23 v24 v25 v26 v27 v28 v29 v30 v31 v32 v33 v34 v35 v36 v37 v38 v39 v40 v41 v42 v43 v44 v45 v46 v47 v48 v49 v50 v51 v52 v53 v54 v55 v56 v57 v58 v59 v60 v61 v62 v63 v64 v65 v66 v67 v68 v69 v70 v71 v72 v73 v74 v75 v76 v77 v78 v79 v80 v81 v82 v83 v84 v85 v86 v87 v88 v89 v90 v91 v92 v93 v94 v95 v96 v97 v98 v99 v100 v101 v102 v103 v104 v105 v106 v107 v108 v109 v110 v111 v112 v113 v114 v115 v116 v117 v118 v119 v120 v121 v122 v123 : Value) (C2 : Option Addr) (c2 : Nat) (wx : World), Below W.heap.size W wx → RightsAt wx wx.heap.size C2 ML → K0 { tmps := #[v0, v1, v2, .int .i64 day, .int .i64 known, v5, v6, .pointer (some ⟨w.heap.size + 1, 0, none⟩), v8, v9, .bool false, .bool true, .slice C1 RL.length c1, .slice C2 ML.length c2, v14, v15, v16, v17, v18, v19, v20, v21, v22, v23, v24, v25, v26, v27, v28, v29, v30, v31, v32, v33, v34, v35, v36, v37, v38, v39, v40, v41, v42, v43, v44, v45, v46, v47, v48, v49, v50, v51, v52, v53, v54, v55, v56, v57, v58, v59, v60, v61, v62, v63, v64, v65, v66, v67, v68, v69, v70, v71, v72, v73, v74, v75, v76, v77, v78, v79, v80, v81, v82, v83, v84, v85, v86, v87, v88, v89, v90, v91, v92, v93, v94, v95, v96, v97, v98, v99, v100, v101, v102, v103, v104, v105, v106, v107, v108, v109, v110, v111, v112, v113, v114, v115, v116, v117, v118, v119, v120, v121, v122, v123], defers := [] } wx := by
    intro v0 v1 v2 v5 v6 v8 v9 v14 v15 v16 v17 v18 v19 v20 v21 v22 v23 v24 v25 v26 v27 v28 v29 v30 v31 v32 v33 v34 v35 v36 v37 v38 v39 v40 v41 v42 v43 v44 v45 v46 v47 v48 v49 v50 v51 v52 v53 v54 v55 v56 v57 v58 v59 v60 v61 v62 v63 v64 v65 v66 v67 v68 v69 v70 v71 v72 v73 v74 v75 v76 v77 v78 v79 v80 v81 v82 v83 v84 v85 v86 v87 v88 v89 v90 v91 v92 v93 v94 v95 v96 v97 v98 v99 v100 v101 v102 v103 v104 v105 v106 v107 v108 v109 v110 v111 v112 v113 v114 v115 v116 v117 v118 v119 v120 v121 v122 v123 C2 c2 wx HBx hC2
    refine hK0 _ _ ?_
    clear hK0
    have hbdx := hbdW.below HBx (by omega)
    have hC1x := (RightsAt.below hC1 HBx).more HBx.size
    have hzx := HBx.size
    obtain ⟨y0, y1, y2, y3, y4, y5, y6, y7, y8, y9, y10, y11, y12⟩ := hbdx.cells
    have zx1 : w.heap.size + 1 < wx.heap.size := by omega
    by_cases hkn : known < d.known
    · obtain rfl := (HLate.out hkn).symm
      have KE := Lib.hid ((same_any RL RL C1 C2 c1 c2 wx hC1x hC2 (by omega) (by omega)).mono (fun e w' ⟨h3, k, h4⟩ => (⟨by rw [h3, sameL_refl], by rw [h4]; exact below_drewN (Below.refl _ _) k⟩ : e = Ending.returned (.bool true) ∧ Below wx.heap.size wx w')))
      go_wp2_with fail
      go_at_call 18
      (with_reducible refine KE.out.mono ?_)
      rintro e9 w9 ⟨rfl, hb9⟩
      go_wp2_with fail
      go_ret
      exact ⟨rfl, (HB.trans (HBx.mono hzW)).trans (hb9.mono (by omega))⟩
    have hkn2 : d.known ≤ known := by omega
    clear y0 y1 y2 y3 y4 y5 y6 y7 y8 y9 y10 y11 y12
    obtain ⟨wa, rfl⟩ : ∃ wa, wa = wx := ⟨_, rfl⟩
    have hbdwa := hbdx
    obtain ⟨y0, y1, y2, y3, y4, y5, y6, y7, y8, y9, y10, y11, y12⟩ := hbdwa.cells
    go_wp2_with fail
    go_loopw [14, 16] (fun out i wr => ∃ (k m : Nat) (w5 : World), k ≤ RL.length ∧ i = .int .i64 k ∧ wr = w5.drewN m ∧ w5.ownsRow wa.heap.size 33 9 out (notId d.right.id (RL.take k)).length (rowR (notId d.right.id (RL.take k))) ∧ Below wa.heap.size wa w5 ∧ wa.heap.size ≤ w5.heap.size) (fun _ i _ => RL.length - (intOf i).toNat)
    case atStart => exact ⟨0, 0, _, Nat.zero_le _, rfl, rfl, World.ownsRow_nil _ _ _ _, Below.refl _ _, Nat.le_refl _⟩
    case round =>
      obtain ⟨k, m, w5, hk, rfl, hwr, hown, hBo, hzo⟩ := hrel
      subst hwr
      by_cases hlt : k < RL.length
      · obtain ⟨x, hx⟩ : ∃ x, RL[k]? = some x := ⟨_, List.getElem?_eq_getElem hlt⟩
        obtain ⟨b, off, rfl, hb, r0, r1, r2, r3, r4, r5, r6, r7, r8⟩ := (RightsAt.below hC1x hBo).at_ hx
        obtain ⟨y0, y1, y2, y3, y4, y5, y6, y7, y8, y9, y10, y11, y12⟩ := (BoxD.below hbdwa hBo (by omega)).cells
        have hk0 : 0 ≤ (k : Int) ∧ (k : Int) < (RL.length : Int) := by omega
        have hbw : b < w5.heap.size := by omega
        have hzd : w.heap.size + 1 < w5.heap.size := by omega
        have HN := Lib.hid (notId_take d.right.id RL hx)
        have hlen : (notId d.right.id (RL.take k)).length ≤ RL.length := Nat.le_trans (List.length_filter_le _ _) (by rw [List.length_take]; omega)
        by_cases g : x.id = d.right.id
        · have HN2 : Hid (notId d.right.id (RL.take (k + 1)) = notId d.right.id (RL.take k)) := by show _ = _; rw [HN.out, if_pos g]
          have e1 : (x.id != d.right.id) = false := by simpa using g
          clear hx HN g
          go_upto_region 13 with fail
          go_quiet (fail)
          go_wp2_with fail
          go_roundw
          case rel => exact ⟨k + 1, _, w5, by omega, by go_num, rfl, by rw [HN2.out]; exact hown, hBo, hzo⟩
          case measure => simp [intOf]; omega
        · have HN2 : Hid (notId d.right.id (RL.take (k + 1)) = notId d.right.id (RL.take k) ++ [x]) := by show _ = _; rw [HN.out, if_neg g]
          have e1 : (x.id != d.right.id) = true := by simpa using g
          clear hx HN g
          go_upto_region 13 with fail
          go_quiet (fail)
          have hown6 : (w5.drewN (m + nq)).ownsRow wa.heap.size 33 9 _ _ _ := hown
          go_wp2_with (first | (at_builtin; go_loud (refine wpList_append_any _ rfl _ _ 34 rfl wa.heap.size 33 i0 _ 9 72 Tryd.underlying34 hi hv0 hv1 hv2 rfl (by decide) _ (notId d.right.id (RL.take k)).length _ rfl (hown6.alloc _) (_ + 1) (some ⟨w5.heap.size, 0, none⟩) 1 1 x.cells rfl ⟨rfl, fun _ => ⟨_, rfl, Nat.lt_succ_self _, cells_at (by rfl) _ _⟩⟩ (rt_one _) (by unfold maxLen; omega) (by omega) (by first | omega | (simp; omega)) ?_); intro v' w3 hown3 hgr3 _) | fail)
          have hb3 : Below wa.heap.size wa w3 := ((below_drewN hBo (m + nq)).alloc hzo _).trans (below_own (hown6.alloc _) (by simp; exact Nat.le_succ_of_le hzo) hgr3)
          go_roundw
          case rel => exact ⟨k + 1, 0, w3, by omega, by go_num, rfl, by rw [HN2.out, rowR_snoc, List.length_append]; exact hown3, hb3, hb3.size⟩
          case measure => simp [intOf]; omega
      · have hke : k = RL.length := by omega
        subst hke
        rw [List.take_length] at hown
        have hownX : (w5.drewN m).ownsRow wa.heap.size 33 9 _ _ _ := hown
        have hBx1 : Below wa.heap.size wa (w5.drewN m) := below_drewN hBo m
        have hzx1 : wa.heap.size ≤ (w5.drewN m).heap.size := hzo
        have hbdwb : BoxD (w5.drewN m) (w.heap.size + 1) d := BoxD.below hbdwa (below_drewN hBo m) (by omega)
        have hC2b := (RightsAt.below hC2 (below_drewN hBo m)).more (show wa.heap.size ≤ (w5.drewN m).heap.size from hzo)
        clear hown hBo hzo
        generalize w5.drewN m = wb at hownX hBx1 hzx1 hbdwb hC2b ⊢
        clear w5
        go_wp2_with fail
        go_loopw [15, 17] (fun out i wr => ∃ (k m : Nat) (w5 : World), k ≤ ML.length ∧ i = .int .i64 k ∧ wr = w5.drewN m ∧ w5.ownsRow wb.heap.size 33 9 out (notId d.right.id (ML.take k)).length (rowR (notId d.right.id (ML.take k))) ∧ Below wb.heap.size wb w5 ∧ wb.heap.size ≤ w5.heap.size) (fun _ i _ => ML.length - (intOf i).toNat)
        case atStart => exact ⟨0, 0, _, Nat.zero_le _, rfl, rfl, World.ownsRow_nil _ _ _ _, Below.refl _ _, Nat.le_refl _⟩
        case round =>
          obtain ⟨k, m, w5, hk, rfl, hwr, hown, hBo, hzo⟩ := hrel
          subst hwr
          by_cases hlt : k < ML.length
          · obtain ⟨x, hx⟩ : ∃ x, ML[k]? = some x := ⟨_, List.getElem?_eq_getElem hlt⟩
            obtain ⟨b, off, rfl, hb, r0, r1, r2, r3, r4, r5, r6, r7, r8⟩ := (RightsAt.below hC2b hBo).at_ hx
            obtain ⟨y0, y1, y2, y3, y4, y5, y6, y7, y8, y9, y10, y11, y12⟩ := (BoxD.below hbdwb hBo (by omega)).cells
            have hk0 : 0 ≤ (k : Int) ∧ (k : Int) < (ML.length : Int) := by omega
            have hbw : b < w5.heap.size := by omega
            have hzd : w.heap.size + 1 < w5.heap.size := by omega
            have HN := Lib.hid (notId_take d.right.id ML hx)
            have hlen : (notId d.right.id (ML.take k)).length ≤ ML.length := Nat.le_trans (List.length_filter_le _ _) (by rw [List.length_take]; omega)
            by_cases g : x.id = d.right.id
            · have HN2 : Hid (notId d.right.id (ML.take (k + 1)) = notId d.right.id (ML.take k)) := by show _ = _; rw [HN.out, if_pos g]
              have e1 : (x.id != d.right.id) = false := by simpa using g
              clear hx HN g
              go_upto_region 18 with fail
              go_quiet (fail)
              go_wp2_with fail
              go_roundw
              case rel => exact ⟨k + 1, _, w5, by omega, by go_num, rfl, by rw [HN2.out]; exact hown, hBo, hzo⟩
              case measure => simp [intOf]; omega
            · have HN2 : Hid (notId d.right.id (ML.take (k + 1)) = notId d.right.id (ML.take k) ++ [x]) := by show _ = _; rw [HN.out, if_neg g]
              have e1 : (x.id != d.right.id) = true := by simpa using g
              clear hx HN g
              go_upto_region 18 with fail
              go_quiet (fail)
              have hown6 : (w5.drewN (m + nq)).ownsRow wb.heap.size 33 9 _ _ _ := hown
              go_wp2_with (first | (at_builtin; go_loud (refine wpList_append_any _ rfl _ _ 34 rfl wb.heap.size 33 i0 _ 9 72 Tryd.underlying34 hi hv0 hv1 hv2 rfl (by decide) _ (notId d.right.id (ML.take k)).length _ rfl (hown6.alloc _) (_ + 1) (some ⟨w5.heap.size, 0, none⟩) 1 1 x.cells rfl ⟨rfl, fun _ => ⟨_, rfl, Nat.lt_succ_self _, cells_at (by rfl) _ _⟩⟩ (rt_one _) (by unfold maxLen; omega) (by omega) (by first | omega | (simp; omega)) ?_); intro v' w3 hown3 hgr3 _) | fail)
              have hb3 : Below wb.heap.size wb w3 := ((below_drewN hBo (m + nq)).alloc hzo _).trans (below_own (hown6.alloc _) (by simp; exact Nat.le_succ_of_le hzo) hgr3)
              go_roundw
              case rel => exact ⟨k + 1, 0, w3, by omega, by go_num, rfl, by rw [HN2.out, rowR_snoc, List.length_append]; exact hown3, hb3, hb3.size⟩
              case measure => simp [intOf]; omega
          · have hke : k = ML.length := by omega
            subst hke
            rw [List.take_length] at hown
            obtain ⟨E1, ec1, hv1', hE1, _⟩ := rights_of_owns hownX
            obtain ⟨E2, ec2, hv2', hE2, _⟩ := rights_of_owns hown
            subst hv1'
            subst hv2'
            have hX2 := (RightsAt.below hE1 hBo).more hzo
            have HNL : Hid (notId d.right.id RL = notId d.right.id ML) := HOth
            obtain ⟨NL, hNL⟩ : ∃ N, notId d.right.id ML = N := ⟨_, rfl⟩
            rw [HOth.out, hNL] at hX2
            rw [hNL] at hE2
            have hn1 : (notId d.right.id RL).length = NL.length := by rw [HOth.out, hNL]
            have hnm : NL.length ≤ ML.length := by rw [← hNL]; exact List.length_filter_le _ _
            have hnz : NL.length ≤ 41 := by omega
            have HEQ : Hid (d.kind = 3 → d.from1 ≤ day → NL.length = ML.length) := fun a b => by rw [← hNL, HEnd.out hkn2 a b]
            obtain ⟨y0, y1, y2, y3, y4, y5, y6, y7, y8, y9, y10, y11, y12⟩ := (BoxD.below hbdwb hBo (by omega)).cells
            have hzd : w.heap.size + 1 < w5.heap.size := by omega
            rw [hn1, hNL]
            have KE := Lib.hid (fun wy (h : Below w5.heap.size w5 wy) => (same_any NL NL E1 E2 ec1 ec2 wy (hX2.below h) (hE2.below h) (by omega) (by omega)).mono (fun e w' ⟨h3, k, h4⟩ => (⟨by rw [h3, sameL_refl], by rw [h4]; exact below_drewN (Below.refl _ _) k⟩ : e = Ending.returned (.bool true) ∧ Below wy.heap.size wy w')))
            have hml2 : (ML.length : Int) ≤ (RL.length : Int) + 1 := by omega
            have hml3 : decide ((ML.length : Int) ≤ (RL.length : Int) + 1) = true := decide_eq_true hml2
            have HB5 : Below w.heap.size w (w5.drewN m) := below_drewN ((HB.trans (HBx.mono hzW)).trans ((hBx1.trans (hBo.mono (by omega))).mono (by omega))) m
            by_cases k3 : d.kind = 3
            · have e3 : (d.kind != 3) = false := by simpa using k3
              by_cases hf : d.from1 ≤ day
              · have e4 : decide (day < d.from1) = false := decide_eq_false (by omega)
                have hq := HEQ.out k3 hf
                have e5 : ((NL.length : Int) == (ML.length : Int)) = true := by rw [hq]; simp
                clear hq
                clear HEQ
                go_wp2_with fail
                go_at_call 18
                (with_reducible refine (KE.out _ (below_drewN (Below.refl _ _) m)).mono ?_)
                rintro e9 w9 ⟨rfl, hb9⟩
                have hb9' : Below w5.heap.size w5 w9 := (below_drewN (Below.refl _ _) m).trans hb9
                obtain ⟨t0, t1, t2, t3, t4, t5, t6, t7, t8, t9, t10, t11, t12⟩ := (BoxD.below (BoxD.below hbdwb hBo (by omega)) hb9' (by omega)).cells
                go_wp2_with fail
                go_ret
                exact ⟨rfl, HB5.trans (hb9.mono HB5.size)⟩
              · have e4 : decide (day < d.from1) = true := decide_eq_true (by omega)
                clear HEQ
                go_wp2_with fail
                go_at_call 18
                (with_reducible refine (KE.out _ (below_drewN (Below.refl _ _) m)).mono ?_)
                rintro e9 w9 ⟨rfl, hb9⟩
                have hb9' : Below w5.heap.size w5 w9 := (below_drewN (Below.refl _ _) m).trans hb9
                obtain ⟨t0, t1, t2, t3, t4, t5, t6, t7, t8, t9, t10, t11, t12⟩ := (BoxD.below (BoxD.below hbdwb hBo (by omega)) hb9' (by omega)).cells
                go_wp2_with fail
                go_ret
                exact ⟨rfl, HB5.trans (hb9.mono HB5.size)⟩
            · have e3 : (d.kind != 3) = true := by simpa using k3
              clear HEQ
              go_wp2_with fail
              go_at_call 18
              (with_reducible refine (KE.out _ (below_drewN (Below.refl _ _) m)).mono ?_)
              rintro e9 w9 ⟨rfl, hb9⟩
              have hb9' : Below w5.heap.size w5 w9 := (below_drewN (Below.refl _ _) m).trans hb9
              obtain ⟨t0, t1, t2, t3, t4, t5, t6, t7, t8, t9, t10, t11, t12⟩ := (BoxD.below (BoxD.below hbdwb hBo (by omega)) hb9' (by omega)).cells
              go_wp2_with fail
              go_ret
              exact ⟨rfl, HB5.trans (hb9.mono HB5.size)⟩
  clear hK0
  refine Plan.wp_region_tree (.rd 0 (.rd 2 (.rd 4 (.rd 7 (.rd 8 (.two 1 (.two 3 (.wr 5 (.wr 6 (.wr 9 (.rd 10 .done)))) 5 (.wr 3 (.wr 6 (.wr 9 (.rd 10 .done))))) 5 (.wr 1 (.wr 3 (.wr 6 (.wr 9 (.rd 10 .done))))))))))) (by kernel_rfl) (by kernel_rfl) ?_
  (repeat (first | (refine Plan.tree_read (v := ?_) rfl rfl ?_ ?_; rotate_left; (focus ((intro wS hSw; have hkS := (bcell hSw).1; try (have hkT := fun (b o : Nat) (h : b < w.heap.size) => hkS b o (by first | omega | (simp; omega) | (simp; done))); go_simp); try with_reducible rfl)); simp only [Act.put, List.setIfInBounds_toArray, List.set_cons_zero, List.set_cons_succ]) | (refine Plan.tree_skip rfl rfl ?_; simp only [Act.put, List.setIfInBounds_toArray, List.set_cons_zero, List.set_cons_succ])))
  refine Plan.tree_two rfl rfl (fun K hK => ?_) (fun K hK => ?_)
  · (try go_simp)
    have k0 : Below W.heap.size W (W.alloc (.cells #[] 44)).drew := ((Below.refl _ _).alloc (Nat.le_refl _) _).drew
    have kO0 : ((W.alloc (.cells #[] 44)).drew).ownsRow W.heap.size 44 13 (.slice (some ⟨W.heap.size, 0, none⟩) 0 0) 0 [] := (World.ownsRow_made W #[] 0 (Nat.le_refl _) (by unfold maxLen; omega) (by simp)).drew
    (refine hK.out _ _ (k0) ?_; clear hK K; try simp only [Act.put, List.setIfInBounds_toArray, List.set_cons_zero, List.set_cons_succ])
    (repeat (first | (refine Plan.tree_read (v := ?_) rfl rfl ?_ ?_; rotate_left; (focus ((intro wS hSw; have hkS := (bcell hSw).1; try (have hkT := fun (b o : Nat) (h : b < w.heap.size) => hkS b o (by first | omega | (simp; omega) | (simp; done))); go_simp); try with_reducible rfl)); simp only [Act.put, List.setIfInBounds_toArray, List.set_cons_zero, List.set_cons_succ]) | (refine Plan.tree_skip rfl rfl ?_; simp only [Act.put, List.setIfInBounds_toArray, List.set_cons_zero, List.set_cons_succ])))
    refine Plan.tree_two rfl rfl (fun K hK => ?_) (fun K hK => ?_)
    · refine step_append_any _ (by rfl) _ _ _ (by rfl) W.heap.size 44 j0 _ 13 104 Tryd.underlying35 hj hy0 hy1 hy2 rfl (by omega) _ (0) ([]) (by rfl) kO0 w.heap.size D L.length dc (rowD L) (by rfl) (by have := reads_deals (HD.out.below (HB.trans (k0.mono hzW))); exact this) (rowD_one _) (by unfold maxLen; omega) (by omega) k0.size ?_
      intro v3 w3 hown3 hgr3 _
      have k3 : Below W.heap.size W w3 := k0.trans (below_own kO0 k0.size hgr3)
      (refine hK.out _ _ (k3) ?_; clear hK K; try simp only [Act.put, List.setIfInBounds_toArray, List.set_cons_zero, List.set_cons_succ])
      (repeat (first | (refine Plan.tree_read (v := ?_) rfl rfl ?_ ?_; rotate_left; (focus ((intro wS hSw; have hkS := (bcell hSw).1; try (have hkT := fun (b o : Nat) (h : b < w.heap.size) => hkS b o (by first | omega | (simp; omega) | (simp; done))); go_simp); try with_reducible rfl)); simp only [Act.put, List.setIfInBounds_toArray, List.set_cons_zero, List.set_cons_succ]) | (refine Plan.tree_skip rfl rfl ?_; simp only [Act.put, List.setIfInBounds_toArray, List.set_cons_zero, List.set_cons_succ])))
      (refine Plan.tree_write rfl (fun K hK => ?_); try go_simp)
      have k5 : Below W.heap.size W (w3.alloc (.cells #[.int .i64 d.kind, .int .i64 d.known, .int .i64 d.right.id, .int .i64 d.right.owner, .int .i64 d.right.date, .int .i64 d.right.place, .int .i64 d.right.rate, .int .i64 d.right.from1, .int .i64 d.right.until1, .int .i64 d.right.back, .int .i64 d.right.backTo, .int .i64 d.from1, .int .i64 d.until1] 44)) := k3.alloc k3.size _
      have kR5 : Reads (w3.alloc (.cells #[.int .i64 d.kind, .int .i64 d.known, .int .i64 d.right.id, .int .i64 d.right.owner, .int .i64 d.right.date, .int .i64 d.right.place, .int .i64 d.right.rate, .int .i64 d.right.from1, .int .i64 d.right.until1, .int .i64 d.right.back, .int .i64 d.right.backTo, .int .i64 d.from1, .int .i64 d.until1] 44)) (w3.heap.size + 1) 13 (some ⟨w3.heap.size, 0, none⟩) 1 d.cells := ⟨rfl, fun _ => ⟨_, rfl, Nat.lt_succ_self _, cells_at rfl _ _⟩⟩
      (refine hK.out _ _ (k5) ?_; clear hK K; try simp only [Act.put, List.setIfInBounds_toArray, List.set_cons_zero, List.set_cons_succ])
      (repeat (first | (refine Plan.tree_read (v := ?_) rfl rfl ?_ ?_; rotate_left; (focus ((intro wS hSw; have hkS := (bcell hSw).1; try (have hkT := fun (b o : Nat) (h : b < w.heap.size) => hkS b o (by first | omega | (simp; omega) | (simp; done))); go_simp); try with_reducible rfl)); simp only [Act.put, List.setIfInBounds_toArray, List.set_cons_zero, List.set_cons_succ]) | (refine Plan.tree_skip rfl rfl ?_; simp only [Act.put, List.setIfInBounds_toArray, List.set_cons_zero, List.set_cons_succ])))
      refine Plan.tree_write rfl (fun K hK => ?_)
      refine step_append_any _ (by rfl) _ _ _ (by rfl) W.heap.size 44 j0 _ 13 104 Tryd.underlying35 hj hy0 hy1 hy2 rfl (by omega) v3 (0 + L.length) ([] ++ rowD L) (by rfl) (hown3.alloc _) (w3.heap.size + 1) (some ⟨w3.heap.size, 0, none⟩) 1 1 d.cells (by rfl) kR5 (dl_one d) (by unfold maxLen; omega) (by omega) k5.size ?_
      intro v6 w6 hown6 hgr6 _
      have k6 : Below W.heap.size W w6 := k5.trans (below_own (hown3.alloc _) k5.size hgr6)
      obtain ⟨E, ec, hev, hE, _⟩ := deals_of_owns (A := L ++ [d]) (by rw [rowD_snoc, List.length_append]; simpa using hown6)
      subst hev
      have hlenE : (L ++ [d]).length = L.length + 1 := by simp
      rw [hlenE]
      (refine hK.out _ _ (k6) ?_; clear hK K; try simp only [Act.put, List.setIfInBounds_toArray, List.set_cons_zero, List.set_cons_succ])
      (repeat (first | (refine Plan.tree_read (v := ?_) rfl rfl ?_ ?_; rotate_left; (focus ((intro wS hSw; have hkS := (bcell hSw).1; try (have hkT := fun (b o : Nat) (h : b < w.heap.size) => hkS b o (by first | omega | (simp; omega) | (simp; done))); go_simp); try with_reducible rfl)); simp only [Act.put, List.setIfInBounds_toArray, List.set_cons_zero, List.set_cons_succ]) | (refine Plan.tree_skip rfl rfl ?_; simp only [Act.put, List.setIfInBounds_toArray, List.set_cons_zero, List.set_cons_succ])))
      (refine Plan.tree_write rfl (fun K hK => ?_); try go_simp)
      go_at_call 16
      (with_reducible refine (KU.out _ _ _ _ rfl (HB.trans (k6.mono hzW)) hE).mono ?_)
      rintro e9 w9 ⟨C9, c9, rfl, hC9, hb9⟩
      have k9 : Below W.heap.size W w9 := k6.trans (hb9.mono k6.size)
      (refine hK.out _ _ (k9) ?_; clear hK K; try simp only [Act.put, List.setIfInBounds_toArray, List.set_cons_zero, List.set_cons_succ])
      (repeat (first | (refine Plan.tree_read (v := ?_) rfl rfl ?_ ?_; rotate_left; (focus ((intro wS hSw; have hkS := (bcell hSw).1; try (have hkT := fun (b o : Nat) (h : b < w.heap.size) => hkS b o (by first | omega | (simp; omega) | (simp; done))); go_simp); try with_reducible rfl)); simp only [Act.put, List.setIfInBounds_toArray, List.set_cons_zero, List.set_cons_succ]) | (refine Plan.tree_skip rfl rfl ?_; simp only [Act.put, List.setIfInBounds_toArray, List.set_cons_zero, List.set_cons_succ])))
      refine Plan.tree_done ?_
      exact REST _ _ _ _ _ _ _ _ _ _ _ _ _ _ _ _ _ _ _ _ _ _ _ _ _ _ _ _ _ _ _ _ _ _ _ _ _ _ _ _ _ _ _ _ _ _ _ _ _ _ _ _ _ _ _ _ _ _ _ _ _ _ _ _ _ _ _ _ _ _ _ _ _ _ _ _ _ _ _ _ _ _ _ _ _ _ _ _ _ _ _ _ _ _ _ _ _ _ _ _ _ _ _ _ _ _ _ _ _ _ _ _ _ _ _ _ _ C9 c9 w9 k9 hC9
    · (try go_simp)
      clear kO0 k0
      have k0 : Below W.heap.size W ((W.alloc (.cells #[] 44)).alloc (.cells #[.int .i64 d.kind, .int .i64 d.known, .int .i64 d.right.id, .int .i64 d.right.owner, .int .i64 d.right.date, .int .i64 d.right.place, .int .i64 d.right.rate, .int .i64 d.right.from1, .int .i64 d.right.until1, .int .i64 d.right.back, .int .i64 d.right.backTo, .int .i64 d.from1, .int .i64 d.until1] 44)).drew := (((Below.refl _ _).alloc (Nat.le_refl _) _).alloc (by simp) _).drew
      have kO0 : (((W.alloc (.cells #[] 44)).alloc (.cells #[.int .i64 d.kind, .int .i64 d.known, .int .i64 d.right.id, .int .i64 d.right.owner, .int .i64 d.right.date, .int .i64 d.right.place, .int .i64 d.right.rate, .int .i64 d.right.from1, .int .i64 d.right.until1, .int .i64 d.right.back, .int .i64 d.right.backTo, .int .i64 d.from1, .int .i64 d.until1] 44)).drew).ownsRow W.heap.size 44 13 (.slice (some ⟨W.heap.size, 0, none⟩) 0 0) 0 [] := ((World.ownsRow_made W #[] 0 (Nat.le_refl _) (by unfold maxLen; omega) (by simp)).alloc _).drew
      have kR5 : Reads (((W.alloc (.cells #[] 44)).alloc (.cells #[.int .i64 d.kind, .int .i64 d.known, .int .i64 d.right.id, .int .i64 d.right.owner, .int .i64 d.right.date, .int .i64 d.right.place, .int .i64 d.right.rate, .int .i64 d.right.from1, .int .i64 d.right.until1, .int .i64 d.right.back, .int .i64 d.right.backTo, .int .i64 d.from1, .int .i64 d.until1] 44)).drew) (W.heap.size + 1 + 1) 13 (some ⟨W.heap.size + 1, 0, none⟩) 1 d.cells := ⟨rfl, fun _ => ⟨_, rfl, Nat.lt_succ_self _, cells_at (w := W.alloc (.cells #[] 44)) (by simp) _ _⟩⟩
      (refine hK.out _ _ (k0) ?_; clear hK K; try simp only [Act.put, List.setIfInBounds_toArray, List.set_cons_zero, List.set_cons_succ])
      (repeat (first | (refine Plan.tree_read (v := ?_) rfl rfl ?_ ?_; rotate_left; (focus ((intro wS hSw; have hkS := (bcell hSw).1; try (have hkT := fun (b o : Nat) (h : b < w.heap.size) => hkS b o (by first | omega | (simp; omega) | (simp; done))); go_simp); try with_reducible rfl)); simp only [Act.put, List.setIfInBounds_toArray, List.set_cons_zero, List.set_cons_succ]) | (refine Plan.tree_skip rfl rfl ?_; simp only [Act.put, List.setIfInBounds_toArray, List.set_cons_zero, List.set_cons_succ])))
      refine Plan.tree_write rfl (fun K hK => ?_)
      refine step_append_any _ (by rfl) _ _ _ (by rfl) W.heap.size 44 j0 _ 13 104 Tryd.underlying35 hj hy0 hy1 hy2 rfl (by omega) _ (0) ([]) (by rfl) kO0 w.heap.size D L.length dc (rowD L) (by rfl) (by have := reads_deals (HD.out.below (HB.trans (k0.mono hzW))); exact this) (rowD_one _) (by unfold maxLen; omega) (by omega) k0.size ?_
      intro v3 w3 hown3 hgr3 _
      have k3 : Below W.heap.size W w3 := k0.trans (below_own kO0 k0.size hgr3)
      have kR4 : Reads w3 w3.heap.size 13 (some ⟨W.heap.size + 1, 0, none⟩) 1 d.cells := kR5.grown_off (by simp) hgr3 (by simp [Value.ownBlock])
      (refine hK.out _ _ (k3) ?_; clear hK K; try simp only [Act.put, List.setIfInBounds_toArray, List.set_cons_zero, List.set_cons_succ])
      (repeat (first | (refine Plan.tree_read (v := ?_) rfl rfl ?_ ?_; rotate_left; (focus ((intro wS hSw; have hkS := (bcell hSw).1; try (have hkT := fun (b o : Nat) (h : b < w.heap.size) => hkS b o (by first | omega | (simp; omega) | (simp; done))); go_simp); try with_reducible rfl)); simp only [Act.put, List.setIfInBounds_toArray, List.set_cons_zero, List.set_cons_succ]) | (refine Plan.tree_skip rfl rfl ?_; simp only [Act.put, List.setIfInBounds_toArray, List.set_cons_zero, List.set_cons_succ])))
      refine Plan.tree_write rfl (fun K hK => ?_)
      refine step_append_any _ (by rfl) _ _ _ (by rfl) W.heap.size 44 j0 _ 13 104 Tryd.underlying35 hj hy0 hy1 hy2 rfl (by omega) v3 (0 + L.length) ([] ++ rowD L) (by rfl) hown3 w3.heap.size (some ⟨W.heap.size + 1, 0, none⟩) 1 1 d.cells (by rfl) kR4 (dl_one d) (by unfold maxLen; omega) (by omega) k3.size ?_
      intro v6 w6 hown6 hgr6 _
      have k6 : Below W.heap.size W w6 := k3.trans (below_own hown3 k3.size hgr6)
      obtain ⟨E, ec, hev, hE, _⟩ := deals_of_owns (A := L ++ [d]) (by rw [rowD_snoc, List.length_append]; simpa using hown6)
      subst hev
      have hlenE : (L ++ [d]).length = L.length + 1 := by simp
      rw [hlenE]
      (refine hK.out _ _ (k6) ?_; clear hK K; try simp only [Act.put, List.setIfInBounds_toArray, List.set_cons_zero, List.set_cons_succ])
      (repeat (first | (refine Plan.tree_read (v := ?_) rfl rfl ?_ ?_; rotate_left; (focus ((intro wS hSw; have hkS := (bcell hSw).1; try (have hkT := fun (b o : Nat) (h : b < w.heap.size) => hkS b o (by first | omega | (simp; omega) | (simp; done))); go_simp); try with_reducible rfl)); simp only [Act.put, List.setIfInBounds_toArray, List.set_cons_zero, List.set_cons_succ]) | (refine Plan.tree_skip rfl rfl ?_; simp only [Act.put, List.setIfInBounds_toArray, List.set_cons_zero, List.set_cons_succ])))
      (refine Plan.tree_write rfl (fun K hK => ?_); try go_simp)
      go_at_call 16
      (with_reducible refine (KU.out _ _ _ _ rfl (HB.trans (k6.mono hzW)) hE).mono ?_)
      rintro e9 w9 ⟨C9, c9, rfl, hC9, hb9⟩
      have k9 : Below W.heap.size W w9 := k6.trans (hb9.mono k6.size)
      (refine hK.out _ _ (k9) ?_; clear hK K; try simp only [Act.put, List.setIfInBounds_toArray, List.set_cons_zero, List.set_cons_succ])
      (repeat (first | (refine Plan.tree_read (v := ?_) rfl rfl ?_ ?_; rotate_left; (focus ((intro wS hSw; have hkS := (bcell hSw).1; try (have hkT := fun (b o : Nat) (h : b < w.heap.size) => hkS b o (by first | omega | (simp; omega) | (simp; done))); go_simp); try with_reducible rfl)); simp only [Act.put, List.setIfInBounds_toArray, List.set_cons_zero, List.set_cons_succ]) | (refine Plan.tree_skip rfl rfl ?_; simp only [Act.put, List.setIfInBounds_toArray, List.set_cons_zero, List.set_cons_succ])))
      refine Plan.tree_done ?_
      exact REST _ _ _ _ _ _ _ _ _ _ _ _ _ _ _ _ _ _ _ _ _ _ _ _ _ _ _ _ _ _ _ _ _ _ _ _ _ _ _ _ _ _ _ _ _ _ _ _ _ _ _ _ _ _ _ _ _ _ _ _ _ _ _ _ _ _ _ _ _ _ _ _ _ _ _ _ _ _ _ _ _ _ _ _ _ _ _ _ _ _ _ _ _ _ _ _ _ _ _ _ _ _ _ _ _ _ _ _ _ _ _ _ _ _ _ _ _ C9 c9 w9 k9 hC9
  · (try go_simp)
    have k0 : Below W.heap.size W (W.alloc (.cells #[.int .i64 d.kind, .int .i64 d.known, .int .i64 d.right.id, .int .i64 d.right.owner, .int .i64 d.right.date, .int .i64 d.right.place, .int .i64 d.right.rate, .int .i64 d.right.from1, .int .i64 d.right.until1, .int .i64 d.right.back, .int .i64 d.right.backTo, .int .i64 d.from1, .int .i64 d.until1] 44)).drew := ((Below.refl _ _).alloc (Nat.le_refl _) _).drew
    (refine hK.out _ _ (k0) ?_; clear hK K; try simp only [Act.put, List.setIfInBounds_toArray, List.set_cons_zero, List.set_cons_succ])
    (repeat (first | (refine Plan.tree_read (v := ?_) rfl rfl ?_ ?_; rotate_left; (focus ((intro wS hSw; have hkS := (bcell hSw).1; try (have hkT := fun (b o : Nat) (h : b < w.heap.size) => hkS b o (by first | omega | (simp; omega) | (simp; done))); go_simp); try with_reducible rfl)); simp only [Act.put, List.setIfInBounds_toArray, List.set_cons_zero, List.set_cons_succ]) | (refine Plan.tree_skip rfl rfl ?_; simp only [Act.put, List.setIfInBounds_toArray, List.set_cons_zero, List.set_cons_succ])))
    (refine Plan.tree_write rfl (fun K hK => ?_); try go_simp)
    clear k0
    have k0 : Below W.heap.size W ((W.alloc (.cells #[.int .i64 d.kind, .int .i64 d.known, .int .i64 d.right.id, .int .i64 d.right.owner, .int .i64 d.right.date, .int .i64 d.right.place, .int .i64 d.right.rate, .int .i64 d.right.from1, .int .i64 d.right.until1, .int .i64 d.right.back, .int .i64 d.right.backTo, .int .i64 d.from1, .int .i64 d.until1] 44)).alloc (.cells #[] 44)).drew := (((Below.refl _ _).alloc (Nat.le_refl _) _).alloc (by simp) _).drew
    have kO0 : (((W.alloc (.cells #[.int .i64 d.kind, .int .i64 d.known, .int .i64 d.right.id, .int .i64 d.right.owner, .int .i64 d.right.date, .int .i64 d.right.place, .int .i64 d.right.rate, .int .i64 d.right.from1, .int .i64 d.right.until1, .int .i64 d.right.back, .int .i64 d.right.backTo, .int .i64 d.from1, .int .i64 d.until1] 44)).alloc (.cells #[] 44)).drew).ownsRow W.heap.size 44 13 (.slice (some ⟨W.heap.size + 1, 0, none⟩) 0 0) 0 [] := by
      have h := (World.ownsRow_made (size := 13) (base := W.heap.size) (e := 44) (W.alloc (.cells #[.int .i64 d.kind, .int .i64 d.known, .int .i64 d.right.id, .int .i64 d.right.owner, .int .i64 d.right.date, .int .i64 d.right.place, .int .i64 d.right.rate, .int .i64 d.right.from1, .int .i64 d.right.until1, .int .i64 d.right.back, .int .i64 d.right.backTo, .int .i64 d.from1, .int .i64 d.until1] 44)) #[] 0 (by simp) (by unfold maxLen; omega) (by simp)).drew
      rw [World.size_alloc] at h
      exact h
    have kR5 : Reads (((W.alloc (.cells #[.int .i64 d.kind, .int .i64 d.known, .int .i64 d.right.id, .int .i64 d.right.owner, .int .i64 d.right.date, .int .i64 d.right.place, .int .i64 d.right.rate, .int .i64 d.right.from1, .int .i64 d.right.until1, .int .i64 d.right.back, .int .i64 d.right.backTo, .int .i64 d.from1, .int .i64 d.until1] 44)).alloc (.cells #[] 44)).drew) (W.heap.size + 1) 13 (some ⟨W.heap.size, 0, none⟩) 1 d.cells := ⟨rfl, fun _ => ⟨_, rfl, Nat.lt_succ_self _, fun j u hj => by
      have := cells_at (w := W) rfl 44 d.cells j u hj
      rw [← this]
      exact World.cell?_alloc_lt (W.alloc (.cells #[.int .i64 d.kind, .int .i64 d.known, .int .i64 d.right.id, .int .i64 d.right.owner, .int .i64 d.right.date, .int .i64 d.right.place, .int .i64 d.right.rate, .int .i64 d.right.from1, .int .i64 d.right.until1, .int .i64 d.right.back, .int .i64 d.right.backTo, .int .i64 d.from1, .int .i64 d.until1] 44)) _ _ (by rw [block_of_add]; simp)⟩⟩
    (refine hK.out _ _ (k0) ?_; clear hK K; try simp only [Act.put, List.setIfInBounds_toArray, List.set_cons_zero, List.set_cons_succ])
    (repeat (first | (refine Plan.tree_read (v := ?_) rfl rfl ?_ ?_; rotate_left; (focus ((intro wS hSw; have hkS := (bcell hSw).1; try (have hkT := fun (b o : Nat) (h : b < w.heap.size) => hkS b o (by first | omega | (simp; omega) | (simp; done))); go_simp); try with_reducible rfl)); simp only [Act.put, List.setIfInBounds_toArray, List.set_cons_zero, List.set_cons_succ]) | (refine Plan.tree_skip rfl rfl ?_; simp only [Act.put, List.setIfInBounds_toArray, List.set_cons_zero, List.set_cons_succ])))
    refine Plan.tree_write rfl (fun K hK => ?_)
    refine step_append_any _ (by rfl) _ _ _ (by rfl) W.heap.size 44 j0 _ 13 104 Tryd.underlying35 hj hy0 hy1 hy2 rfl (by omega) _ (0) ([]) (by rfl) kO0 w.heap.size D L.length dc (rowD L) (by rfl) (by have := reads_deals (HD.out.below (HB.trans (k0.mono hzW))); exact this) (rowD_one _) (by unfold maxLen; omega) (by omega) k0.size ?_
    intro v3 w3 hown3 hgr3 _
    have k3 : Below W.heap.size W w3 := k0.trans (below_own kO0 k0.size hgr3)
    have kR4 : Reads w3 w3.heap.size 13 (some ⟨W.heap.size, 0, none⟩) 1 d.cells := kR5.grown_off (by simp) hgr3 (by simp [Value.ownBlock])
    (refine hK.out _ _ (k3) ?_; clear hK K; try simp only [Act.put, List.setIfInBounds_toArray, List.set_cons_zero, List.set_cons_succ])
    (repeat (first | (refine Plan.tree_read (v := ?_) rfl rfl ?_ ?_; rotate_left; (focus ((intro wS hSw; have hkS := (bcell hSw).1; try (have hkT := fun (b o : Nat) (h : b < w.heap.size) => hkS b o (by first | omega | (simp; omega) | (simp; done))); go_simp); try with_reducible rfl)); simp only [Act.put, List.setIfInBounds_toArray, List.set_cons_zero, List.set_cons_succ]) | (refine Plan.tree_skip rfl rfl ?_; simp only [Act.put, List.setIfInBounds_toArray, List.set_cons_zero, List.set_cons_succ])))
    refine Plan.tree_write rfl (fun K hK => ?_)
    refine step_append_any _ (by rfl) _ _ _ (by rfl) W.heap.size 44 j0 _ 13 104 Tryd.underlying35 hj hy0 hy1 hy2 rfl (by omega) v3 (0 + L.length) ([] ++ rowD L) (by rfl) hown3 w3.heap.size (some ⟨W.heap.size, 0, none⟩) 1 1 d.cells (by rfl) kR4 (dl_one d) (by unfold maxLen; omega) (by omega) k3.size ?_
    intro v6 w6 hown6 hgr6 _
    have k6 : Below W.heap.size W w6 := k3.trans (below_own hown3 k3.size hgr6)
    obtain ⟨E, ec, hev, hE, _⟩ := deals_of_owns (A := L ++ [d]) (by rw [rowD_snoc, List.length_append]; simpa using hown6)
    subst hev
    have hlenE : (L ++ [d]).length = L.length + 1 := by simp
    rw [hlenE]
    (refine hK.out _ _ (k6) ?_; clear hK K; try simp only [Act.put, List.setIfInBounds_toArray, List.set_cons_zero, List.set_cons_succ])
    (repeat (first | (refine Plan.tree_read (v := ?_) rfl rfl ?_ ?_; rotate_left; (focus ((intro wS hSw; have hkS := (bcell hSw).1; try (have hkT := fun (b o : Nat) (h : b < w.heap.size) => hkS b o (by first | omega | (simp; omega) | (simp; done))); go_simp); try with_reducible rfl)); simp only [Act.put, List.setIfInBounds_toArray, List.set_cons_zero, List.set_cons_succ]) | (refine Plan.tree_skip rfl rfl ?_; simp only [Act.put, List.setIfInBounds_toArray, List.set_cons_zero, List.set_cons_succ])))
    (refine Plan.tree_write rfl (fun K hK => ?_); try go_simp)
    go_at_call 16
    (with_reducible refine (KU.out _ _ _ _ rfl (HB.trans (k6.mono hzW)) hE).mono ?_)
    rintro e9 w9 ⟨C9, c9, rfl, hC9, hb9⟩
    have k9 : Below W.heap.size W w9 := k6.trans (hb9.mono k6.size)
    (refine hK.out _ _ (k9) ?_; clear hK K; try simp only [Act.put, List.setIfInBounds_toArray, List.set_cons_zero, List.set_cons_succ])
    (repeat (first | (refine Plan.tree_read (v := ?_) rfl rfl ?_ ?_; rotate_left; (focus ((intro wS hSw; have hkS := (bcell hSw).1; try (have hkT := fun (b o : Nat) (h : b < w.heap.size) => hkS b o (by first | omega | (simp; omega) | (simp; done))); go_simp); try with_reducible rfl)); simp only [Act.put, List.setIfInBounds_toArray, List.set_cons_zero, List.set_cons_succ]) | (refine Plan.tree_skip rfl rfl ?_; simp only [Act.put, List.setIfInBounds_toArray, List.set_cons_zero, List.set_cons_succ])))
    refine Plan.tree_done ?_
    exact REST _ _ _ _ _ _ _ _ _ _ _ _ _ _ _ _ _ _ _ _ _ _ _ _ _ _ _ _ _ _ _ _ _ _ _ _ _ _ _ _ _ _ _ _ _ _ _ _ _ _ _ _ _ _ _ _ _ _ _ _ _ _ _ _ _ _ _ _ _ _ _ _ _ _ _ _ _ _ _ _ _ _ _ _ _ _ _ _ _ _ _ _ _ _ _ _ _ _ _ _ _ _ _ _ _ _ _ _ _ _ _ _ _ _ _ _ _ C9 c9 w9 k9 hC9

end Go.Proofs.YtchmplnkddgncaaDoor
