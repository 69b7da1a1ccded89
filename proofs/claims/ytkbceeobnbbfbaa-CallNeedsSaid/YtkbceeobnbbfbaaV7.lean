/- Walks of both Short. -/
import Derived.Test.YtkbceeobnbbfbaaV5
set_option linter.unusedSimpArgs false
set_option linter.unusedVariables false
namespace Go.Proofs.Ytkbceeobnbbfbaa
open Go.RowKit CM
attribute [local go_sem] alloc_drewN setCell_drewN shape_drewN

/-- The Ids of the short ones below k. -/
def shortT (pl : Pl) (R : List Rt) (G : List (Int × Int)) (k : Nat) : List Int := ((List.range k).filter (shortF pl R G)).map fun i => (rtN R i).id
theorem shortT_end (pl : Pl) (R : List Rt) (G : List (Int × Int)) : shortT pl R G R.length = shortL pl R G := rfl
theorem shortT_succ (pl : Pl) (R : List Rt) (G : List (Int × Int)) (k : Nat) : shortT pl R G (k + 1) = if shortF pl R G k = true then shortT pl R G k ++ [(rtN R k).id] else shortT pl R G k := by
  unfold shortT
  rw [List.range_succ, List.filter_append, List.map_append]
  cases h : shortF pl R G k <;> simp [h]
theorem shortT_len (pl : Pl) (R : List Rt) (G : List (Int × Int)) (k : Nat) : (shortT pl R G k).length ≤ k := by
  unfold shortT
  rw [List.length_map]
  exact Nat.le_trans (List.length_filter_le _ _) (by simp)
theorem map_snoc (l : List Int) (n : Int) : (l ++ [n]).map (Value.int .i64) = l.map (Value.int .i64) ++ [.int .i64 n] := by simp
/-- A list of integers that the call has made. -/
def IntsRes (l : List Int) (w : World) (e : Ending) (w' : World) : Prop := ∃ C cc, e = .returned (.slice C l.length cc) ∧ IntsAt w' w'.heap.size C l ∧ Below w.heap.size w w'
set_option maxHeartbeats 4000000 in
theorem shorts_any (X : Bas) (pl : Pl) (R : List Rt) (G : List (Int × Int)) (C : Option Addr) (cr : Nat) (D : Option Addr) (cg : Nat) (w : World) {B : Nat} (hR : RightsAt w B C R) (hG : PairsAt w B D G) (hB : B ≤ w.heap.size)
    (hl : pl.length ≤ 1000000) (hr : R.length ≤ 1000000) (hg : G.length ≤ 1000000) :
    Calls Try.prog 13 #[.agg #[.string X.nm, .slice X.a1 X.l1 X.c1, .int .i64 X.cl, .slice X.P pl.length X.cP, .slice X.a4 X.l4 X.c4, .slice X.a5 X.l5 X.c5, .slice X.a6 X.l6 X.c6, .slice X.a7 X.l7 X.c7, .slice X.a8 X.l8 X.c8, .slice X.a9 X.l9 X.c9, .int .i64 X.er], .slice C R.length cr, .slice D G.length cg] w (IntsRes (shortL pl R G) w) := by
  obtain ⟨i0, hi, hz0, hz1, hz2⟩ := info_parts Try.infoInt
  have K1 := Lib.hid (fun (k : Nat) (wx : World) (hk : k < R.length) (h : Below w.heap.size w wx) => short_any X pl R G C cr D cg k wx (B := B) (hR.below (h.mono hB)) (hG.below (h.mono hB)) (by have := h.size; omega) hl hr hg hk)
  go_enter Try.func13, Try.ntmps13
  go_wp2_with fail
  go_loopw [7, 12] (fun out c wr => ∃ k : Nat, k ≤ R.length ∧ c = .int .i64 k ∧ wr.ownsRow (w.heap.size + 1) 3 1 out (shortT pl R G k).length ((shortT pl R G k).map (Value.int .i64)) ∧ BoxB wr w.heap.size X pl ∧ Below w.heap.size w wr ∧ w.heap.size + 1 ≤ wr.heap.size) (fun _ c _ => R.length - (intOf c).toNat)
  case atStart => exact ⟨0, Nat.zero_le _, rfl, World.ownsRow_nil _ _ _ _, BoxB.new w X pl, (Below.refl _ _).alloc (Nat.le_refl _) _, by simp⟩
  case round =>
    obtain ⟨k, hk, rfl, hrow, hX, hBw, hz⟩ := hrel
    obtain ⟨x0, x1, x2, x3, x4, x5, x6, x7, x8, x9, x10⟩ := hX.cells
    by_cases hlt : k < R.length
    case neg =>
      have hke : k = R.length := by omega
      subst hke
      rw [shortT_end] at hrow
      obtain ⟨E, cc, rfl, hI⟩ := ints_of_owns hrow
      clear hrow K1
      go_wp2_with fail
      go_ret
      exact ⟨E, cc, rfl, hI, hBw⟩
    have hwl := shortT_len pl R G k
    obtain ⟨r, hx⟩ : ∃ r, R[k]? = some r := ⟨_, List.getElem?_eq_getElem hlt⟩
    have K2 := Lib.hid (fun wx h => K1.out k wx hlt h)
    clear K1
    obtain ⟨b, off, rfl, hb, r0, r1, r2, r3, r4, r5, r6, r7, r8⟩ := (RightsAt.below hR (hBw.mono hB)).at_ hx
    have hrt := Lib.hid (rtN_of hx)
    have hbw : b < wr.heap.size := by omega
    have hzw : w.heap.size < wr.heap.size := by omega
    clear hx
    cases hF : shortF pl R G k
    · have hs : Hid (shortT pl R G (k + 1) = shortT pl R G k) := by show _ = _; rw [shortT_succ, hF]; rfl
      have K2 := fun wx h => (K2.out wx h)
      unfold BoolIs at K2
      rw [hF] at K2
      have K2 := Lib.hid K2
      clear hF
      go_wp2_with (first | (go_at_call 31; ((with_reducible refine (K2.out _ (hBw.alloc (by omega) _)).mono ?_); rintro e1 w1 ⟨rfl, hb1⟩)) | fail)
      have hb9 : Below wr.heap.size wr w1 := ((Below.refl _ _).alloc (Nat.le_refl _) _).trans (hb1.mono (by simp))
      have hrow1 := row_below hrow hb9
      have hX1 := hX.below hb9 hzw
      have hB1 := hBw.trans (hb9.mono (by omega))
      have hz1' : w.heap.size + 1 ≤ w1.heap.size := by have := hb9.size; omega
      clear hrow hX hBw hb9 hb1
      go_roundw
      case rel => exact ⟨k + 1, by omega, by go_num, by rw [hs.out]; exact hrow1, hX1, hB1, hz1'⟩
      case measure => simp [intOf]; omega
    · have hs : Hid (shortT pl R G (k + 1) = shortT pl R G k ++ [r.id]) := by show _ = _; rw [shortT_succ, hF, hrt.out]; rfl
      have K2 := fun wx h => (K2.out wx h)
      unfold BoolIs at K2
      rw [hF] at K2
      have K2 := Lib.hid K2
      clear hF
      go_wp2_with (first | (go_at_call 31; ((with_reducible refine (K2.out _ (hBw.alloc (by omega) _)).mono ?_); rintro e1 w1 ⟨rfl, hb1⟩; have kc := (bcell hb1).1; have hb9 : Below wr.heap.size wr w1 := ((Below.refl _ _).alloc (Nat.le_refl _) _).trans (hb1.mono (by simp)); have hrow1 := row_below hrow hb9; have hz9 := hb9.size)) | (at_builtin; refine wpList_append_own _ rfl _ _ 29 rfl (w.heap.size + 1) 3 i0 (.int .i64 0) 1 8 Try.underlying29 hi hz0 hz1 hz2 rfl (by decide) _ (shortT pl R G k).length _ rfl (hrow1.alloc _) ⟨w1.heap.size, 0, none⟩ 1 1 [.int .i64 r.id] rfl rfl (cell_one_at (by simp) _ _) (by simp [Value.oneCell']) (by unfold maxLen; omega) (by omega) (by simp; omega) ?_; intro v' w2 hown' hgrow _) | fail)
      obtain ⟨g', cap', rfl, hg1, hg2⟩ := hown'.form (by omega)
      have hb2 := below_app hrow1 (by omega) hgrow
      have hrow2 : w2.ownsRow (w.heap.size + 1) 3 1 (.slice (some ⟨g', 0, none⟩) ((shortT pl R G k).length + 1) cap') (shortT pl R G (k + 1)).length ((shortT pl R G (k + 1)).map (Value.int .i64)) := by rw [hs.out, map_snoc, List.length_append]; exact hown'
      have hX2 := (hX.below hb9 hzw).below hb2 (by omega)
      have hB2 := (hBw.trans (hb9.mono (by omega))).trans (hb2.mono (by omega))
      have hz2 : w.heap.size + 1 ≤ w2.heap.size := by have := hb2.size; omega
      clear hown' hgrow hb2 hrow1 hrow hX hBw hb9 hb1 kc
      go_roundw
      case rel => exact ⟨k + 1, by omega, by go_num, hrow2, hX2, hB2, hz2⟩
      case measure => simp [intOf]; omega
set_option maxHeartbeats 4000000 in
theorem rshorts_any (X : Bas) (pl : Pl) (R : List Rt) (G : List (Int × Int)) (C : Option Addr) (cr : Nat) (D : Option Addr) (cg : Nat) (w : World) {B : Nat} (hR : RightsAt w B C R) (hG : PairsAt w B D G) (hB : B ≤ w.heap.size)
    (hl : pl.length ≤ 1000000) (hr : R.length ≤ 1000000) (hg : G.length ≤ 1000000) :
    Calls Try.prog 14 #[.agg #[.string X.nm, .slice X.a1 X.l1 X.c1, .int .i64 X.cl, .slice X.P pl.length X.cP, .slice X.a4 X.l4 X.c4, .slice X.a5 X.l5 X.c5, .slice X.a6 X.l6 X.c6, .slice X.a7 X.l7 X.c7, .slice X.a8 X.l8 X.c8, .slice X.a9 X.l9 X.c9, .int .i64 X.er], .slice C R.length cr, .slice D G.length cg] w (IntsRes (shortL pl R G) w) := by
  obtain ⟨i0, hi, hz0, hz1, hz2⟩ := info_parts Try.infoInt
  have K1 := Lib.hid (fun (k : Nat) (wx : World) (hk : k < R.length) (h : Below w.heap.size w wx) => is_any X pl R G C cr D cg k wx (B := B) (hR.below (h.mono hB)) (hG.below (h.mono hB)) (by have := h.size; omega) hl hr hg hk)
  go_enter Try.func14, Try.ntmps14
  go_wp2_with fail
  go_loopw [7, 8] (fun out c wr => ∃ k : Nat, k ≤ R.length ∧ c = .int .i64 k ∧ wr.ownsRow (w.heap.size + 1) 3 1 out (shortT pl R G k).length ((shortT pl R G k).map (Value.int .i64)) ∧ BoxB wr w.heap.size X pl ∧ Below w.heap.size w wr ∧ w.heap.size + 1 ≤ wr.heap.size) (fun _ c _ => R.length - (intOf c).toNat)
  case atStart => exact ⟨0, Nat.zero_le _, rfl, World.ownsRow_nil _ _ _ _, BoxB.new w X pl, (Below.refl _ _).alloc (Nat.le_refl _) _, by simp⟩
  case round =>
    obtain ⟨k, hk, rfl, hrow, hX, hBw, hz⟩ := hrel
    obtain ⟨x0, x1, x2, x3, x4, x5, x6, x7, x8, x9, x10⟩ := hX.cells
    by_cases hlt : k < R.length
    case neg =>
      have hke : k = R.length := by omega
      subst hke
      rw [shortT_end] at hrow
      obtain ⟨E, cc, rfl, hI⟩ := ints_of_owns hrow
      clear hrow K1
      go_wp2_with fail
      go_ret
      exact ⟨E, cc, rfl, hI, hBw⟩
    have hwl := shortT_len pl R G k
    obtain ⟨r, hx⟩ : ∃ r, R[k]? = some r := ⟨_, List.getElem?_eq_getElem hlt⟩
    have K2 := Lib.hid (fun wx h => K1.out k wx hlt h)
    clear K1
    obtain ⟨b, off, rfl, hb, r0, r1, r2, r3, r4, r5, r6, r7, r8⟩ := (RightsAt.below hR (hBw.mono hB)).at_ hx
    have hrt := Lib.hid (rtN_of hx)
    have hbw : b < wr.heap.size := by omega
    have hzw : w.heap.size < wr.heap.size := by omega
    clear hx
    cases hF : shortF pl R G k
    · have hs : Hid (shortT pl R G (k + 1) = shortT pl R G k) := by show _ = _; rw [shortT_succ, hF]; rfl
      have K2 := fun wx h => (K2.out wx h)
      unfold BoolIs at K2
      rw [hF] at K2
      have K2 := Lib.hid K2
      clear hF
      go_wp2_with (first | (go_at_call 32; ((with_reducible refine (K2.out _ hBw).mono ?_); rintro e1 w1 ⟨rfl, hb9⟩)) | fail)
      have hrow1 := row_below hrow hb9
      have hX1 := hX.below hb9 hzw
      have hB1 := hBw.trans (hb9.mono (by omega))
      have hz1' : w.heap.size + 1 ≤ w1.heap.size := by have := hb9.size; omega
      clear hrow hX hBw hb9
      go_roundw
      case rel => exact ⟨k + 1, by omega, by go_num, by rw [hs.out]; exact hrow1, hX1, hB1, hz1'⟩
      case measure => simp [intOf]; omega
    · have hs : Hid (shortT pl R G (k + 1) = shortT pl R G k ++ [r.id]) := by show _ = _; rw [shortT_succ, hF, hrt.out]; rfl
      have K2 := fun wx h => (K2.out wx h)
      unfold BoolIs at K2
      rw [hF] at K2
      have K2 := Lib.hid K2
      clear hF
      go_wp2_with (first | (go_at_call 32; ((with_reducible refine (K2.out _ hBw).mono ?_); rintro e1 w1 ⟨rfl, hb9⟩; have kc := (bcell hb9).1; have hrow1 := row_below hrow hb9; have hz9 := hb9.size)) | (at_builtin; refine wpList_append_own _ rfl _ _ 29 rfl (w.heap.size + 1) 3 i0 (.int .i64 0) 1 8 Try.underlying29 hi hz0 hz1 hz2 rfl (by decide) _ (shortT pl R G k).length _ rfl (hrow1.alloc _) ⟨w1.heap.size, 0, none⟩ 1 1 [.int .i64 r.id] rfl rfl (cell_one_at (by simp) _ _) (by simp [Value.oneCell']) (by unfold maxLen; omega) (by omega) (by simp; omega) ?_; intro v' w2 hown' hgrow _) | fail)
      obtain ⟨g', cap', rfl, hg1, hg2⟩ := hown'.form (by omega)
      have hb2 := below_app hrow1 (by omega) hgrow
      have hrow2 : w2.ownsRow (w.heap.size + 1) 3 1 (.slice (some ⟨g', 0, none⟩) ((shortT pl R G k).length + 1) cap') (shortT pl R G (k + 1)).length ((shortT pl R G (k + 1)).map (Value.int .i64)) := by rw [hs.out, map_snoc, List.length_append]; exact hown'
      have hX2 := (hX.below hb9 hzw).below hb2 (by omega)
      have hB2 := (hBw.trans (hb9.mono (by omega))).trans (hb2.mono (by omega))
      have hz2 : w.heap.size + 1 ≤ w2.heap.size := by have := hb2.size; omega
      clear hown' hgrow hb2 hrow1 hrow hX hBw hb9 kc
      go_roundw
      case rel => exact ⟨k + 1, by omega, by go_num, hrow2, hX2, hB2, hz2⟩
      case measure => simp [intOf]; omega
end Go.Proofs.Ytkbceeobnbbfbaa
