/- The walk of FlowTurns. -/
import Derived.Test.YtanhhdfffggdmaaLGrows
namespace Go.Proofs.Ytanhhdfffggdmaa
open Go.RowKit FM
attribute [local go_sem] alloc_drewN setCell_drewN shape_drewN
/-- Two rows of arcs of the call's own, in blocks apart from one another and from a block that is named. -/
structure Two (w : World) (B g7 : Nat) (vb : Value) (xb : List Arc) (vs : Value) (xs : List Arc) : Prop where
  a : w.ownsRow B 37 3 vb xb.length (arcCells xb)
  b : w.ownsRow B 37 3 vs xs.length (arcCells xs)
  sep : ∀ k, vb.ownBlock = some k → vs.ownBlock ≠ some k
  fa : vb.ownBlock ≠ some g7
  fb : vs.ownBlock ≠ some g7
section
variable {w w' : World} {B g7 : Nat} {vb vs : Value} {xb xs : List Arc}
theorem Two.swap (h : Two w B g7 vb xb vs xs) : Two w B g7 vs xs vb xb := ⟨h.b, h.a, fun k e1 e2 => h.sep k e2 e1, h.fb, h.fa⟩
theorem Two.alloc (h : Two w B g7 vb xb vs xs) (o : Obj) : Two (w.alloc o) B g7 vb xb vs xs := ⟨h.a.alloc o, h.b.alloc o, h.sep, h.fa, h.fb⟩
theorem Two.begin (h : Two w B g7 vb xb vs xs) : Two w B w.heap.size vb xb vs xs := ⟨h.a, h.b, h.sep, fun e => by have := (h.a.lt _ e).2; omega, fun e => by have := (h.b.lt _ e).2; omega⟩
theorem Two.set (h : Two w B g7 vb xb vs xs) (o : Nat) (u : Value) : Two (w.setCell ⟨g7, o, none⟩ u) B g7 vb xb vs xs :=
  ⟨owns_keep h.a fun k e => Below.heap_setCell _ _ _ _ (fun c => h.fa (by rw [e]; exact congrArg some c)), owns_keep h.b fun k e => Below.heap_setCell _ _ _ _ (fun c => h.fb (by rw [e]; exact congrArg some c)), h.sep, h.fa, h.fb⟩
theorem Two.append (h : Two w B g7 vb xb vs xs) (h7 : g7 < w.heap.size) {g n cap : Nat} {xb' : List Arc} (hg : w.grownBy w' vb.ownBlock) (hn : n = xb'.length) (ho : w'.ownsRow B 37 3 (.slice (some ⟨g, 0, none⟩) n cap) n (arcCells xb')) (hat : vb.ownBlock = some g ∨ g = w.heap.size) :
    Two w' B g7 (.slice (some ⟨g, 0, none⟩) n cap) xb' vs xs := by
  subst hn
  refine ⟨ho, owns_keep h.b fun k e => hg.block k (h.b.lt k e).2 (fun c => h.sep k c.symm e), fun k e c => ?_, fun e => ?_, h.fb⟩
  · obtain rfl : g = k := by simpa [Value.ownBlock] using e
    rcases hat with q | q
    · exact h.sep g q c
    · have := (h.b.lt g c).2; omega
  · obtain rfl : g = g7 := by simpa [Value.ownBlock] using e
    rcases hat with q | q
    · exact h.fa q
    · omega
end
theorem arc_new {w : World} {o : Nat} (x y z : Int) : ∀ j u, [Value.int .i64 x, .int .i64 y, .int .i64 z][j]? = some u → (w.alloc (.cells #[.int .i64 x, .int .i64 y, .int .i64 z] 37)).cell? ((⟨w.heap.size, 0, none⟩ : Addr).add j) = some u := fun j u hj => by
  rw [Addr.add_lit, new_cell rfl, Nat.zero_add]
  exact (by simpa using hj)
theorem three_one (x y z : Int) : ∀ u ∈ [Value.int .i64 x, .int .i64 y, .int .i64 z], u.oneCell' = true := by
  intro u hu; simp at hu; rcases hu with rfl | rfl | rfl <;> rfl

theorem turns_inv (n s t : Int) (C : Option Addr) (cc : Nat) (A : List Arc) (at_ part : Int) (w : World) (hC : ArcsAt w w.heap.size C A) (hlA : A.length ≤ 9223372036854775807) (hV : ¬ Valid n A s t) :
    Calls Try.prog 7 #[.int .i64 n, .slice C A.length cc, .int .i64 s, .int .i64 t, .int .i64 at_, .int .i64 part] w (SmallSaid w) := by
  have Hl := Lib.hid hlA
  have Hv := Lib.hid (validB_false hV)
  clear hV hlA
  go_enter Try.func7, Try.ntmps7
  go_wp2_with (go_at_call 8; refine (small_any _).mono ?_; rintro e0 w0 ⟨rfl, hb0⟩)
  have K1 := Lib.hid (max_no n s t C cc A w0 (hC.step hb0) Hl.out Hv.out)
  go_wp2_with (go_at_call 10; refine K1.out.mono ?_; rintro e1 w1 ⟨rfl, hb1⟩)
  have K2 := Lib.hid (few_any n C cc A w1 Hl.out)
  obtain ⟨q, hq⟩ : ∃ q, q = fewB n A := ⟨_, rfl⟩
  rw [← hq] at K2
  clear hq
  cases q
  all_goals
    go_wp2_with (go_at_call 9; refine K2.out.mono ?_; rintro e2 w2 ⟨rfl, rfl⟩)
    go_ret
    exact ⟨rfl, hb0.trans (hb1.mono hb0.size)⟩
theorem turns_big (n s t : Nat) (C : Option Addr) (cc : Nat) (A : List Arc) (at_ part : Int) (w : World) (hC : ArcsAt w w.heap.size C A) (hV : Valid n A s t) (hf : fewB n A = false) :
    Calls Try.prog 7 #[.int .i64 n, .slice C A.length cc, .int .i64 s, .int .i64 t, .int .i64 at_, .int .i64 part] w (SmallSaid w) := by
  have HV := Lib.hid hV
  have Hf := Lib.hid hf
  clear hV hf
  go_enter Try.func7, Try.ntmps7
  go_wp2_with (go_at_call 8; refine (small_any _).mono ?_; rintro e0 w0 ⟨rfl, hb0⟩)
  have K1 := Lib.hid (max_yes n s t C cc A w0 (hC.step hb0) HV.out)
  go_wp2_with (go_at_call 10; refine K1.out.mono ?_; rintro e1 w1 ⟨f1, v1, R1, vs1, rfl, hm1, g0, g1, hs1, hb1⟩)
  have K2 := Lib.hid (few_any n C cc A w1 (by have := HV.out.2.2.1; omega))
  rw [Hf.out] at K2
  go_wp2_with (go_at_call 9; refine K2.out.mono ?_; rintro e2 w2 ⟨rfl, rfl⟩)
  go_ret
  exact ⟨rfl, hb0.trans (hb1.mono hb0.size)⟩

set_option maxHeartbeats 2000000 in
set_option maxRecDepth 10000 in
theorem turns_main (n s t : Nat) (C : Option Addr) (cc : Nat) (A : List Arc) (at_ part : Int) (w : World) (hC : ArcsAt w w.heap.size C A) (hV : Valid n A s t) (hf : fewB n A = true) :
    Calls Try.prog 7 #[.int .i64 n, .slice C A.length cc, .int .i64 s, .int .i64 t, .int .i64 at_, .int .i64 part] w (SmallSaid w) := by
  obtain ⟨i7, ki, kz0, kz1, kz2⟩ := info_parts info37
  have hA24 : A.length ≤ 24 := by
    have h : (decide ((n : Int) ≤ 10) && decide (A.length ≤ 24)) = true := hf
    simp at h; omega
  have HV := Lib.hid hV
  have Hf := Lib.hid hf
  obtain ⟨v1, v2, v3, _, v4, v5, v6, v7, v8⟩ := id hV
  obtain ⟨hA, hcap⟩ := valid_facts hV
  clear hV hf
  go_enter Try.func7, Try.ntmps7
  go_wp2_with (go_at_call 8; refine (small_any _).mono ?_; rintro e0 w0 ⟨rfl, hb0⟩)
  have hC0 := hC.step hb0
  have K1 := Lib.hid (max_yes n s t C cc A w0 hC0 HV.out)
  go_wp2_with (go_at_call 10; refine K1.out.mono ?_; rintro e1 w1 ⟨f1, v, R, vs1, rfl, hm1, g0, g1, hs1, hb1⟩; obtain ⟨ao1, c1, rfl, hi1⟩ := hs1)
  have hC1 := hC0.step hb1
  have K2 := Lib.hid (few_any n C cc A w1 (by omega))
  rw [Hf.out] at K2
  have hbw1 : Below w.heap.size w w1 := hb0.trans (hb1.mono hb0.size)
  have hln := sideL_len n R
  go_wp2_with (go_at_call 9; refine K2.out.mono ?_; rintro e2 w2 ⟨rfl, rfl⟩)
  go_loopw [17, 18, 19] (fun vb vs i wr => ∃ (k : Nat) (z : Int), k ≤ A.length ∧ z + 1 = k ∧ i = .int .i64 z ∧ Two wr w1.heap.size wr.heap.size vb (backA (A.drop k)) vs (splitO at_ part k (A.drop k)) ∧ Below w1.heap.size w1 wr) (fun _ _ i _ => (intOf i + 1).toNat)
  case atStart => exact ⟨A.length, _, Nat.le_refl _, by omega, rfl, by rw [List.drop_length]; exact ⟨⟨rfl, .inl ⟨rfl, rfl⟩⟩, ⟨rfl, .inl ⟨rfl, rfl⟩⟩, fun k e => by simp [Value.ownBlock] at e, fun e => by simp [Value.ownBlock] at e, fun e => by simp [Value.ownBlock] at e⟩, Below.refl _ _⟩
  case round =>
    obtain ⟨k, i, hk, hik, rfl, hT, hbr⟩ := hrel
    by_cases hi0 : 0 ≤ i
    · obtain ⟨j, rfl⟩ := Int.eq_ofNat_of_zero_le hi0
      obtain rfl : k = j + 1 := by omega
      obtain ⟨b, off, x, y, z, hCe, hbb, ha, c0, c1', c2⟩ := (hC1.below hbr).at_ (show j < A.length by omega)
      subst hCe
      have hj0 : 0 ≤ (j : Int) ∧ (j : Int) < (A.length : Int) := by omega
      have hz : 0 ≤ z ∧ z ≤ 1125899906842624 := hcap _ (List.mem_of_getElem? ha.out)
      have hbl : (backA (A.drop (j + 1))).length ≤ 24 := by simp [backA]; omega
      have hdl : (A.drop (j + 1)).length ≤ 24 := by simp; omega
      have hsl : (splitO at_ part (j + 1) (A.drop (j + 1))).length ≤ 25 := Nat.le_trans (splitO_len _ _) (by omega)
      have hbd := backA_drop ha.out
      have hsd := splitO_drop (at_ := at_) (part := part) ha.out
      obtain ⟨lb, hlb⟩ : ∃ l, l = backA (A.drop (j + 1)) := ⟨_, rfl⟩
      obtain ⟨ls, hls⟩ : ∃ l, l = splitO at_ part (j + 1) (A.drop (j + 1)) := ⟨_, rfl⟩
      rw [← hlb] at hbd hbl hT
      rw [← hls] at hsd hsl hT
      have HD := Lib.hid (And.intro hbd hsd)
      clear hbd hsd hlb hls
      have hT0 := hT.alloc (.cells #[.int .i64 x, .int .i64 y, .int .i64 z] 37)
      have hT1 := hT0.alloc (.cells #[.int .i64 y, .int .i64 x, .int .i64 z] 37)
      have n7 : some wr.heap.size ≠ u17.ownBlock := fun e => hT.fa e.symm
      have hnw := arc_new (w := wr.alloc (.cells #[.int .i64 x, .int .i64 y, .int .i64 z] 37)) (o := 0) y x z
      have hsz := hbr.size
      go_upto_region 12 with (at_builtin; refine wpList_append_lies _ rfl (.tmp 57) (.tmp 65) 22 rfl w1.heap.size 37 i7 (.agg #[.int .i64 0, .int .i64 0, .int .i64 0]) 3 24 Try.underlying22 ki kz0 kz1 kz2 rfl (by decide) _ lb.length (arcCells lb) rfl hT1.a ⟨wr.heap.size + 1, 0, none⟩ 1 1 [.int .i64 y, .int .i64 x, .int .i64 z] rfl rfl (by simpa using hnw) (three_one _ _ _) (by omega) (by unfold maxLen; omega) (by omega) (by simp; omega) (wr.heap.size + 1 + 1) (by simp) ?_; intro g cap w3 hown hgrow hat hlt)
      have hx1 : arcCells lb ++ [.int .i64 y, .int .i64 x, .int .i64 z] = arcCells (lb ++ [(y, x, z)]) := by rw [arcCells_app]; rfl
      rw [hx1] at hown
      have hT2 := hT1.append (by simp; omega) hgrow (by simp) hown (hat.imp id (fun h => by rw [h]; simp))
      have hb3 : Below w1.heap.size w1 w3 := (((hbr.alloc hbr.size (.cells #[.int .i64 x, .int .i64 y, .int .i64 z] 37)).alloc (by simp; omega) (.cells #[.int .i64 y, .int .i64 x, .int .i64 z] 37)).grown hgrow (by simp; omega) (fun q h => (hT.a.lt q h).1))
      have hcf := fun o => hgrow.cell_far ⟨wr.heap.size, o, none⟩ (by simp; omega) n7
      have d0 : w3.cell? ⟨wr.heap.size, 0, none⟩ = some (.int .i64 x) := (hcf 0).trans (by rw [old_cell _ (by simp), new_cell rfl]; rfl)
      have d1 : w3.cell? ⟨wr.heap.size, 1, none⟩ = some (.int .i64 y) := (hcf 1).trans (by rw [old_cell _ (by simp), new_cell rfl]; rfl)
      have d2 : w3.cell? ⟨wr.heap.size, 2, none⟩ = some (.int .i64 z) := (hcf 2).trans (by rw [old_cell _ (by simp), new_cell rfl]; rfl)
      have d3 : w3.frozen? ⟨wr.heap.size, 2, none⟩ = false := (hgrow.frozen_far ⟨wr.heap.size, 2, none⟩ (by simp; omega) n7).trans (by rw [old_free _ (by simp), new_free rfl])
      have hg7 : wr.heap.size < w3.heap.size := by have := hgrow.size; simp at this; omega
      have hg17 : w1.heap.size ≤ wr.heap.size := hsz
      obtain ⟨g7, hg7e⟩ : ∃ g7, g7 = wr.heap.size := ⟨_, rfl⟩
      have hw13 := hb3.size
      rw [← hg7e] at hT2 d0 d1 d2 d3 hg7 hg17 ⊢
      clear hcf hx1 hown hgrow hat hlt hT1 hT0 hT n7 hnw hsz hg7e hbr c0 c1' c2
      have hnx := arc_new (w := w3) (o := 0) x y z
      have hTx := (hT2.alloc (.cells #[.int .i64 x, .int .i64 y, .int .i64 z] 37)).swap
      by_cases hyes : (j : Int) = at_ ∧ 0 ≤ part ∧ part ≤ z
      · obtain ⟨p0, p1, p2⟩ := hyes
        subst p0
        have hnp := arc_new (w := w3) (o := 0) x y part
        have hTp := (hT2.alloc (.cells #[.int .i64 x, .int .i64 y, .int .i64 part] 37)).swap
        have m7 : some g7 ≠ u18.ownBlock := fun e => hT2.fb e.symm
        go_upto_region 14 with (at_builtin; refine wpList_append_lies _ rfl (.tmp 80) (.tmp 87) 22 rfl w1.heap.size 37 i7 (.agg #[.int .i64 0, .int .i64 0, .int .i64 0]) 3 24 Try.underlying22 ki kz0 kz1 kz2 rfl (by decide) _ ls.length (arcCells ls) rfl hTp.a ⟨w3.heap.size, 0, none⟩ 1 1 [.int .i64 x, .int .i64 y, .int .i64 part] rfl rfl (by simpa using hnp) (three_one _ _ _) (by omega) (by unfold maxLen; omega) (by omega) (by simp; omega) (w3.heap.size + 1) (by simp) ?_; intro g2 cap2 w4 hown2 hgrow2 hat2 hlt2)
        have hx2 : arcCells ls ++ [.int .i64 x, .int .i64 y, .int .i64 part] = arcCells (ls ++ [(x, y, part)]) := by rw [arcCells_app]; rfl
        rw [hx2] at hown2
        have hT4 := hTp.append (by simp; omega) hgrow2 (by simp) hown2 (hat2.imp id (fun h => by rw [h]; simp))
        have hb4 : Below w1.heap.size w1 w4 := ((hb3.alloc hb3.size (.cells #[.int .i64 x, .int .i64 y, .int .i64 part] 37)).grown hgrow2 (by simp; omega) (fun q h => (hT2.b.lt q h).1))
        have hcf := fun o => hgrow2.cell_far ⟨g7, o, none⟩ (by simp; omega) m7
        have e0 : w4.cell? ⟨g7, 0, none⟩ = some (.int .i64 x) := (hcf 0).trans ((old_cell _ hg7).trans d0)
        have e1 : w4.cell? ⟨g7, 1, none⟩ = some (.int .i64 y) := (hcf 1).trans ((old_cell _ hg7).trans d1)
        have e2 : w4.cell? ⟨g7, 2, none⟩ = some (.int .i64 z) := (hcf 2).trans ((old_cell _ hg7).trans d2)
        have e3 : w4.frozen? ⟨g7, 2, none⟩ = false := (hgrow2.frozen_far ⟨g7, 2, none⟩ (by simp; omega) m7).trans ((old_free _ hg7).trans d3)
        have hg74 : g7 < w4.heap.size := by have := hgrow2.size; simp at this; omega
        have hw14 := hb4.size
        have hT5 := hT4.set 2 (.int .i64 (z - part))
        have hT6 := hT5.alloc (.cells #[.int .i64 x, .int .i64 y, .int .i64 (z - part)] 37)
        have hT6a : ((w4.setCell ⟨g7, 2, none⟩ (.int .i64 (z - part))).alloc (.cells #[.int .i64 x, .int .i64 y, .int .i64 (z - part)] 37)).ownsRow w1.heap.size 37 3 (.slice (some ⟨g2, 0, none⟩) (ls.length + 1) cap2) (ls.length + 1) (arcCells (ls ++ [(x, y, part)])) := by
          have h := hT6.a
          simpa only [List.length_append, List.length_cons, List.length_nil, Nat.zero_add] using h
        have hnq := arc_new (w := w4.setCell ⟨g7, 2, none⟩ (.int .i64 (z - part))) (o := 0) x y (z - part)
        clear hcf hx2 hown2 hgrow2 hat2 hlt2 hT2 hTp hTx hnp hnx m7 d0 d1 d2 d3 hT5 hT4
        go_upto_region 15 with fail
        go_wp2_with (at_builtin; refine wpList_append_lies _ rfl (.tmp 94) (.tmp 96) 22 rfl w1.heap.size 37 i7 (.agg #[.int .i64 0, .int .i64 0, .int .i64 0]) 3 24 Try.underlying22 ki kz0 kz1 kz2 rfl (by decide) _ (ls.length + 1) (arcCells (ls ++ [(x, y, part)])) rfl hT6a ⟨w4.heap.size, 0, none⟩ 1 1 [.int .i64 x, .int .i64 y, .int .i64 (z - part)] rfl rfl (by simpa using hnq) (three_one _ _ _) (by omega) (by unfold maxLen; omega) (by omega) (by simp; omega) (w4.heap.size + 1) (by simp) ?_; intro g3 cap3 w5 hown3 hgrow3 hat3 hlt3)
        have hx3 : arcCells (ls ++ [(x, y, part)]) ++ [.int .i64 x, .int .i64 y, .int .i64 (z - part)] = arcCells (ls ++ [(x, y, part), (x, y, z - part)]) := by rw [show ls ++ [(x, y, part), (x, y, z - part)] = (ls ++ [(x, y, part)]) ++ [(x, y, z - part)] by simp, arcCells_app (ls ++ [(x, y, part)])]; rfl
        rw [hx3] at hown3
        have hT7 := hT6.append (by simp; omega) hgrow3 (by simp) hown3 (hat3.imp id (fun h => by rw [h]; simp))
        have hb5 : Below w1.heap.size w1 w5 := (((hb4.setCell (p := ⟨g7, 2, none⟩) hg17 (.int .i64 (z - part))).alloc (by simp; omega) (.cells #[.int .i64 x, .int .i64 y, .int .i64 (z - part)] 37)).grown hgrow3 (by simp; omega) (fun q h => (hT6.a.lt q h).1))
        clear hx3 hown3 hgrow3 hat3 hlt3 hT6 hT6a hnq e0 e1 e2 e3
        go_roundw
        case rel =>
          refine ⟨j, (j : Int) - 1, by omega, by omega, rfl, ?_, hb5⟩
          rw [HD.out.1, HD.out.2, show pieces (j : Int) part j (x, y, z) = [(x, y, part), (x, y, z - part)] by unfold pieces; exact if_pos ⟨rfl, p1, p2⟩]
          exact Two.begin hT7.swap
        case measure => simp [intOf]
      · have hno : Hid (¬ ((j : Int) = at_ ∧ 0 ≤ part ∧ part ≤ z)) := hyes
        by_cases p0 : (j : Int) = at_
        · subst p0
          by_cases p1 : 0 ≤ part
          · have p2 : z < part := by omega
            clear hyes
            go_wp2_with (at_builtin; refine wpList_append_lies _ rfl (.tmp 94) (.tmp 96) 22 rfl w1.heap.size 37 i7 (.agg #[.int .i64 0, .int .i64 0, .int .i64 0]) 3 24 Try.underlying22 ki kz0 kz1 kz2 rfl (by decide) _ ls.length (arcCells ls) rfl hTx.a ⟨w3.heap.size, 0, none⟩ 1 1 [.int .i64 x, .int .i64 y, .int .i64 z] rfl rfl (by simpa using hnx) (three_one _ _ _) (by omega) (by unfold maxLen; omega) (by omega) (by simp; omega) (w3.heap.size + 1) (by simp) ?_; intro g3 cap3 w5 hown3 hgrow3 hat3 hlt3)
            have hx3 : arcCells ls ++ [.int .i64 x, .int .i64 y, .int .i64 z] = arcCells (ls ++ [(x, y, z)]) := by rw [arcCells_app]; rfl
            rw [hx3] at hown3
            have hT7 := hTx.append (by simp; omega) hgrow3 (by simp) hown3 (hat3.imp id (fun h => by rw [h]; simp))
            have hb5 : Below w1.heap.size w1 w5 := ((hb3.alloc hb3.size (.cells #[.int .i64 x, .int .i64 y, .int .i64 z] 37)).grown hgrow3 (by simp; omega) (fun q h => (hTx.a.lt q h).1))
            clear hx3 hown3 hgrow3 hat3 hlt3 hT2 hTx hnx
            go_roundw
            case rel =>
              refine ⟨j, (j : Int) - 1, by omega, by omega, rfl, ?_, hb5⟩
              rw [HD.out.1, HD.out.2, show pieces (j : Int) part j (x, y, z) = [(x, y, z)] by unfold pieces; exact if_neg hno.out]
              exact Two.begin hT7.swap
            case measure => simp [intOf]
          · have p2 : part < 0 := by omega
            clear hyes
            go_wp2_with (at_builtin; refine wpList_append_lies _ rfl (.tmp 94) (.tmp 96) 22 rfl w1.heap.size 37 i7 (.agg #[.int .i64 0, .int .i64 0, .int .i64 0]) 3 24 Try.underlying22 ki kz0 kz1 kz2 rfl (by decide) _ ls.length (arcCells ls) rfl hTx.a ⟨w3.heap.size, 0, none⟩ 1 1 [.int .i64 x, .int .i64 y, .int .i64 z] rfl rfl (by simpa using hnx) (three_one _ _ _) (by omega) (by unfold maxLen; omega) (by omega) (by simp; omega) (w3.heap.size + 1) (by simp) ?_; intro g3 cap3 w5 hown3 hgrow3 hat3 hlt3)
            have hx3 : arcCells ls ++ [.int .i64 x, .int .i64 y, .int .i64 z] = arcCells (ls ++ [(x, y, z)]) := by rw [arcCells_app]; rfl
            rw [hx3] at hown3
            have hT7 := hTx.append (by simp; omega) hgrow3 (by simp) hown3 (hat3.imp id (fun h => by rw [h]; simp))
            have hb5 : Below w1.heap.size w1 w5 := ((hb3.alloc hb3.size (.cells #[.int .i64 x, .int .i64 y, .int .i64 z] 37)).grown hgrow3 (by simp; omega) (fun q h => (hTx.a.lt q h).1))
            clear hx3 hown3 hgrow3 hat3 hlt3 hT2 hTx hnx
            go_roundw
            case rel =>
              refine ⟨j, (j : Int) - 1, by omega, by omega, rfl, ?_, hb5⟩
              rw [HD.out.1, HD.out.2, show pieces (j : Int) part j (x, y, z) = [(x, y, z)] by unfold pieces; exact if_neg hno.out]
              exact Two.begin hT7.swap
            case measure => simp [intOf]
        · have p0' : ((j : Int) == at_) = false := by simp; exact p0
          clear hyes p0
          go_wp2_with (at_builtin; refine wpList_append_lies _ rfl (.tmp 94) (.tmp 96) 22 rfl w1.heap.size 37 i7 (.agg #[.int .i64 0, .int .i64 0, .int .i64 0]) 3 24 Try.underlying22 ki kz0 kz1 kz2 rfl (by decide) _ ls.length (arcCells ls) rfl hTx.a ⟨w3.heap.size, 0, none⟩ 1 1 [.int .i64 x, .int .i64 y, .int .i64 z] rfl rfl (by simpa using hnx) (three_one _ _ _) (by omega) (by unfold maxLen; omega) (by omega) (by simp; omega) (w3.heap.size + 1) (by simp) ?_; intro g3 cap3 w5 hown3 hgrow3 hat3 hlt3)
          have hx3 : arcCells ls ++ [.int .i64 x, .int .i64 y, .int .i64 z] = arcCells (ls ++ [(x, y, z)]) := by rw [arcCells_app]; rfl
          rw [hx3] at hown3
          have hT7 := hTx.append (by simp; omega) hgrow3 (by simp) hown3 (hat3.imp id (fun h => by rw [h]; simp))
          have hb5 : Below w1.heap.size w1 w5 := ((hb3.alloc hb3.size (.cells #[.int .i64 x, .int .i64 y, .int .i64 z] 37)).grown hgrow3 (by simp; omega) (fun q h => (hTx.a.lt q h).1))
          clear hx3 hown3 hgrow3 hat3 hlt3 hT2 hTx hnx
          go_roundw
          case rel =>
            refine ⟨j, (j : Int) - 1, by omega, by omega, rfl, ?_, hb5⟩
            rw [HD.out.1, HD.out.2, show pieces at_ part j (x, y, z) = [(x, y, z)] by unfold pieces; exact if_neg hno.out]
            exact Two.begin hT7.swap
          case measure => simp [intOf]
    · obtain rfl : i = -1 := by omega
      obtain rfl : k = 0 := by omega
      rw [List.drop_zero] at hT
      obtain ⟨Cb, cb, rfl, hAb⟩ := arcs_of_owns hT.a
      obtain ⟨Cs, cs, rfl, hAs⟩ := arcs_of_owns hT.b
      have hbw := hbw1.trans (hbr.mono hbw1.size)
      have hVb := back_valid HV.out
      have hVs := split_valid (at_ := at_) (part := part) HV.out (by omega)
      have K3 := Lib.hid (max_yes n t s Cb cb (backA A) wr hAb hVb)
      have hsm := split_max (at_ := at_) (part := part) hm1
      obtain ⟨g, hg⟩ := hsm
      have hAn := (valid_facts hVs).1
      have hi12 := ints_step hi1 hbr
      clear hT hVb
      go_wp2_with (go_at_call 10; ((with_reducible refine K3.out.mono ?_); rintro e3 w3 ⟨f3, u3, R3, vs3, rfl, hm3, _, _, hs3, hb3⟩))
      have e3 : v = u3 := turn_back hA v4 v5 v6 v7 v8 hm1 hm3
      subst e3
      have K4 := Lib.hid (max_yes n s t Cs cs (splitO at_ part 0 A) w3 (hAs.step hb3) hVs)
      go_wp2_with (go_at_call 10; ((with_reducible refine K4.out.mono ?_); rintro e4 w4 ⟨f4, u4, R4, vs4, rfl, hm4, _, _, hs4, hb4⟩; obtain ⟨rfl, rfl⟩ := hg.same hAn v4 v5 hm4; obtain ⟨ao4, c4, rfl, hi4⟩ := hs4))
      have hi14 := ints_step (ints_step hi12 hb3) hb4
      have k5 := same_any ao1 ao4 c1 c4 (sideL n R) (sideL n R) w4 hi14 hi4 (by omega) (by omega)
      have K5 := Lib.hid k5
      have Hs : Hid (sameB (sideL n R) (sideL n R) = true) := by show decide _ = true; simp
      clear k5
      go_wp2_with (go_at_call 13; refine K5.out.mono ?_; rintro e5 w5 ⟨rfl, hb5⟩; rw [Hs.out])
      go_ret
      exact ⟨rfl, hbw.trans ((hb3.trans ((hb4.mono hb3.size).trans (hb5.mono (Nat.le_trans hb3.size hb4.size)))).mono hbw.size)⟩
theorem turns_any (n s t : Int) (C : Option Addr) (cc : Nat) (A : List Arc) (at_ part : Int) (w : World) (hC : ArcsAt w w.heap.size C A) (hlA : A.length ≤ 9223372036854775807) :
    Calls Try.prog 7 #[.int .i64 n, .slice C A.length cc, .int .i64 s, .int .i64 t, .int .i64 at_, .int .i64 part] w (SmallSaid w) := by
  by_cases hV : Valid n A s t
  · obtain ⟨n, rfl⟩ := Int.eq_ofNat_of_zero_le (show 0 ≤ n by have := hV.1; omega)
    obtain ⟨s, rfl⟩ := Int.eq_ofNat_of_zero_le hV.2.2.2.2.1
    obtain ⟨t, rfl⟩ := Int.eq_ofNat_of_zero_le hV.2.2.2.2.2.2.1
    cases hf : fewB n A
    · exact turns_big n s t C cc A at_ part w hC hV hf
    · exact turns_main n s t C cc A at_ part w hC hV hf
  · exact turns_inv n s t C cc A at_ part w hC hlA hV
end Go.Proofs.Ytanhhdfffggdmaa
