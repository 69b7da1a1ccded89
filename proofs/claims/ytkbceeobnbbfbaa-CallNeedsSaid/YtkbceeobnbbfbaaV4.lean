/- Walks of wet and of its closure. -/
import Derived.Test.YtkbceeobnbbfbaaW5
set_option linter.unusedSimpArgs false
set_option linter.unusedVariables false
namespace Go.Proofs.Ytkbceeobnbbfbaa
open Go.RowKit CM
attribute [local go_sem] alloc_drewN setCell_drewN shape_drewN

def wetB (G : List (Int × Int)) (j : Nat) : Bool := decide (j < G.length) && decide (0 < gotG G j)
def WetB (G : List (Int × Int)) (j : Nat) (w : World) (e : Ending) (w' : World) : Prop := e = .returned (.bool (wetB G j)) ∧ w = w'
theorem wetc_any (G : List (Int × Int)) (D : Option Addr) (cg g j : Nat) (w : World) {B : Nat} (hG : PairsAt w B D G) (hg : G.length ≤ 1000000) (hc : w.cell? ⟨g, 0, none⟩ = some (.slice D G.length cg)) :
    Calls Try.prog 44 #[.int .i64 j, .pointer (some ⟨g, 0, none⟩)] w (WetB G j w) := by
  by_cases h1 : j < G.length
  · obtain ⟨x, hx⟩ : ∃ x, G[j]? = some x := ⟨_, List.getElem?_eq_getElem h1⟩
    obtain ⟨b, off, rfl, hb, c0, c1⟩ := hG.at_ hx
    have hR : Hid (wetB G j = decide (0 < x.2)) := by show _ = _; unfold wetB; rw [gotG_of hx, decide_eq_true h1]; rfl
    clear hx
    go_enter Try.func44, Try.ntmps44
    go_wp2_with fail
    go_ret
    exact ⟨ret_bool hR.out.symm, rfl⟩
  · have hR : Hid (wetB G j = false) := by show _ = _; unfold wetB; rw [decide_eq_false h1]; rfl
    have d1 : decide (j < G.length) = false := decide_eq_false h1
    go_enter Try.func44, Try.ntmps44
    go_wp2_with fail
    go_ret
    exact ⟨ret_bool hR.out.symm, rfl⟩
/-- The wet ones from i on, below k. -/
def wetT (G : List (Int × Int)) (i k : Nat) : List Nat := (List.range k).filter fun j => decide (i ≤ j) && wetB G j
theorem wetT_end (G : List (Int × Int)) (m i : Nat) : wetT G i m = wetF G m i := rfl
theorem wetT_succ (G : List (Int × Int)) (i k : Nat) : wetT G i (k + 1) = if i ≤ k ∧ wetB G k = true then wetT G i k ++ [k] else wetT G i k := by
  unfold wetT
  rw [List.range_succ, List.filter_append]
  by_cases h : i ≤ k
  · cases hw : wetB G k <;> simp [h, hw]
  · simp [h]
theorem wetT_start (G : List (Int × Int)) (i : Nat) : wetT G i i = [] := by
  unfold wetT
  rw [List.filter_eq_nil_iff]
  intro a ha
  have := List.mem_range.1 ha
  simp; omega
theorem wetT_len (G : List (Int × Int)) (i k : Nat) : (wetT G i k).length ≤ k := by
  unfold wetT
  exact Nat.le_trans (List.length_filter_le _ _) (by simp)
theorem wetF_far (G : List (Int × Int)) {m i : Nat} (h : m ≤ i) : wetF G m i = [] := by
  unfold wetF
  rw [List.filter_eq_nil_iff]
  intro a ha
  have := List.mem_range.1 ha
  simp; omega
set_option maxHeartbeats 2000000 in
theorem wet_any (R : List Rt) (G : List (Int × Int)) (C : Option Addr) (cr : Nat) (D : Option Addr) (cg : Nat) (i : Nat) (w : World) {B : Nat} (hG : PairsAt w B D G) (hB : B ≤ w.heap.size)
    (hr : R.length ≤ 1000000) (hg : G.length ≤ 1000000) (hi1 : i ≤ 1000000) :
    Calls Try.prog 35 #[.slice C R.length cr, .slice D G.length cg, .int .i64 i] w (ReachIs (wetF G R.length i) w) := by
  obtain ⟨i0, hi, hz0, hz1, hz2⟩ := info_parts Try.infoInt
  have K1 := Lib.hid (fun (j : Nat) (wx : World) (hq : PairsAt wx B D G) (hc : wx.cell? ⟨w.heap.size, 0, none⟩ = some (.slice D G.length cg)) => wetc_any G D cg w.heap.size j wx hq hg hc)
  go_enter Try.func35, Try.ntmps35
  go_wp2_with fail
  go_loopw [8, 9] (fun out c wr => ∃ (k : Nat), c = .int .i64 k ∧ i ≤ k ∧ (k ≤ R.length ∨ k = i) ∧ lenV out = (wetT G i k).length ∧ wr.ownsRow (w.heap.size + 1) 3 1 out (wetT G i k).length (natsV (wetT G i k)) ∧
      wr.cell? ⟨w.heap.size, 0, none⟩ = some (.slice D G.length cg) ∧ Below w.heap.size w wr ∧ w.heap.size + 1 ≤ wr.heap.size) (fun _ c _ => R.length - (intOf c).toNat)
  case atStart =>
    refine ⟨i, rfl, Nat.le_refl _, .inr rfl, ?_, ?_, ?_, (Below.refl _ _).alloc (Nat.le_refl _) _, by simp⟩
    · rw [wetT_start]; rfl
    · rw [wetT_start]; exact World.ownsRow_nil _ _ _ _
    · go_simp
  case round =>
    obtain ⟨k, rfl, hik, hk, hlo, hrow, hcb, hBw, hz⟩ := hrel
    have hwl := wetT_len G i k
    by_cases hlt : k < R.length
    · have hG2 := Lib.hid (PairsAt.below hG (hBw.mono hB))
      have hcb2 := Lib.hid hcb
      have K2 := Lib.hid (K1.out k wr hG2.out hcb2.out)
      cases hw : wetB G k
      · have hs : wetT G i (k + 1) = wetT G i k := by rw [wetT_succ, hw]; simp
        have K2 : Hid (Calls Try.prog 44 #[.int .i64 k, .pointer (some ⟨w.heap.size, 0, none⟩)] wr fun e w' => e = .returned (.bool false) ∧ wr = w') := by
          have := K2.out; unfold WetB at this; rw [hw] at this; exact this
        have hs := Lib.hid hs
        clear hw K1
        go_wp2_with (first | (go_at_call 44; ((with_reducible refine K2.out.mono ?_); rintro e1 w1 ⟨rfl, rfl⟩)) | fail)
        go_roundw
        case rel => exact ⟨k + 1, by go_num, by omega, by omega, by rw [hs.out]; exact hlo, by rw [hs.out]; exact hrow, hcb, hBw, hz⟩
        case measure => simp [intOf]; omega
      · have hs : wetT G i (k + 1) = wetT G i k ++ [k] := by rw [wetT_succ, hw]; simp [hik]
        have K2 : Hid (Calls Try.prog 44 #[.int .i64 k, .pointer (some ⟨w.heap.size, 0, none⟩)] wr fun e w' => e = .returned (.bool true) ∧ wr = w') := by
          have := K2.out; unfold WetB at this; rw [hw] at this; exact this
        have hs := Lib.hid hs
        clear hw K1
        go_wp2_with (first | (go_at_call 44; ((with_reducible refine K2.out.mono ?_); rintro e1 w1 ⟨rfl, rfl⟩)) | (at_builtin; refine wpList_append_own _ rfl _ _ 29 rfl (w.heap.size + 1) 3 i0 (.int .i64 0) 1 8 Try.underlying29 hi hz0 hz1 hz2 rfl (by decide) _ (wetT G i k).length _ rfl (hrow.alloc _) ⟨wr.heap.size, 0, none⟩ 1 1 [.int .i64 k] rfl rfl (cell_one_at (by simp) _ _) (by simp [Value.oneCell']) (by unfold maxLen; omega) (by omega) (by simp; omega) ?_; intro v' w2 hown' hgrow _) | fail)
        obtain ⟨g', cap', rfl, hg1, hg2⟩ := hown'.form (by omega)
        have hb2 := below_app hrow (by omega) hgrow
        have hrow2 : w2.ownsRow (w.heap.size + 1) 3 1 (.slice (some ⟨g', 0, none⟩) ((wetT G i k).length + 1) cap') (wetT G i (k + 1)).length (natsV (wetT G i (k + 1))) := by rw [hs.out, natsV_snoc, List.length_append]; exact hown'
        have hcb3 := (hb2.cell (p := ⟨w.heap.size, 0, none⟩) (by show w.heap.size < _; omega)).trans hcb
        have hBw2 := hBw.trans (hb2.mono (by omega))
        have hz2 : w.heap.size + 1 ≤ w2.heap.size := by have := hb2.size; omega
        clear hown' hgrow hb2 hrow hcb hBw
        go_roundw
        case rel => exact ⟨k + 1, by go_num, by omega, by omega, by rw [hs.out]; simp [lenV], hrow2, hcb3, hBw2, hz2⟩
        case measure => simp [intOf]; omega
    · have hF : wetT G i k = wetF G R.length i := by
        rcases hk with h | h
        · obtain rfl : k = R.length := by omega
          rfl
        · subst h; rw [wetT_start, wetF_far G (by omega)]
      rw [hF] at hrow hlo
      clear hF
      obtain ⟨E, cc, rfl, hI, hFr⟩ := nats_of_owns hrow
      go_wp2_with fail
      go_ret
      exact ⟨E, cc, rfl, hI, fun a ha => by have := hFr a ha; omega, hBw⟩
end Go.Proofs.Ytkbceeobnbbfbaa
