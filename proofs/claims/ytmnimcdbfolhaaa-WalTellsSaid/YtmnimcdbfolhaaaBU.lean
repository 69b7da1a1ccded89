/- strings.Builder: copyCheck and WriteString at a builder of the call's own, walked; String by the kit's contract. -/
import Derived.Test.YtmnimcdbfolhaaaShelfB
import Derived.Test.YtmnimcdbfolhaaaH1
set_option linter.unusedSimpArgs false
set_option linter.unusedVariables false
namespace Go.Proofs.Ytmnimcdbfolhaaa
open Go.RowKit Go.Shelf
set_option maxRecDepth 100000 in
theorem check_any (B b : Nat) (l : List Value) (w : World) (h : Lib.IsBuilder 85 5 B b l w) :
    Calls Try.prog 69 #[.pointer (some ⟨b, 0, none⟩)] w fun e w' => e = .returned (.tuple #[]) ∧ Lib.BuilderAt 85 5 B b (.pointer (some ⟨b, 0, none⟩)) l w' ∧ Below B w w' := by
  obtain ⟨j, hj, hjs⟩ := Option.map_eq_some_iff.1 Try.Builder_Extra_169.sizeBuilder
  rcases h with h | h
  · have h0 := h.cell0
    have hsh := h.shape
    have hfz := h.frozen0
    go_enter Try.func69, Try.ntmps69
    go_wp2
    rw [Lib.run_to_unsafe w ⟨b, 0, none⟩ Try.underlying83 Try.underlying122 hj (by rw [hjs]; decide) hsh (Nat.zero_lt_succ 1)]
    simp only [Result.andThen]
    rw [Oper.upon_value]
    go_wp2
    rw [run_callFunc_extern Try.func84 (by kernel_rfl) (by kernel_rfl) (by kernel_rfl) (e := Extern.AbiNoEscape.same) (by kernel_rfl)]
    rw [Lib.run_noEscape]
    simp only [Result.andThen]
    rw [Oper.upon_value]
    go_wp2
    rw [Lib.run_from_unsafe w ⟨b, 0, none⟩ Try.underlying122 Try.underlying83 hj hsh Try.Builder_Extra_169.liesBuilder]
    simp only [Result.andThen]
    rw [Oper.upon_value]
    go_wp2
    go_end0
    exact ⟨rfl, h.used _, (Below.refl B w).setCell (p := ⟨b, 0, none⟩) h.1 _⟩
  · have h0 := h.cell0
    go_enter Try.func69, Try.ntmps69
    go_wp2
    rw [Lib.run_neq_ptr_same w _ Try.underlying83 hj]
    go_wp2
    go_end0
    exact ⟨rfl, h, Below.refl B _⟩
/-- A builder of the call's own that holds the bytes. -/
def BldAt (B b : Nat) (l : List UInt8) (w : World) : Prop := Lib.IsBuilder 85 5 B b (bytesV l) w
theorem BldAt.new (w : World) : BldAt w.heap.size w.heap.size [] (w.alloc (.cells #[.pointer none, .slice none 0 0] 85)) := Lib.fresh_isBuilder _ _ w
set_option maxRecDepth 100000 in
theorem write_any (B b : Nat) (l x : List UInt8) (w : World) (h : BldAt B b l w) (hl : l.length + x.length ≤ 140737488355328) (hBw : B ≤ w.heap.size) :
    Calls Try.prog 44 #[.pointer (some ⟨b, 0, none⟩), .string (bs x)] w fun e w' => e = .returned (.tuple #[.int .i64 (x.length : Nat), .nilIface]) ∧ BldAt B b (l ++ x) w' ∧ Below B w w' := by
  obtain ⟨i0, hi, hy0, hy1, hy2⟩ := Try.infoU8
  have z1 := bs_size x
  have hx2 : byteCells (bs x) = bytesV x := byteCells_bs x
  have hSrc : ∀ w, Src Try.prog 1 9 (.string (bs x)) x.length (bytesV x) w := fun w => by
    rw [← hx2, ← z1]; exact Src.ofString (P := Try.prog) w Try.underlying9 (bs x)
  have K := Lib.hid (check_any B b (bytesV l) w h)
  go_enter Try.func44, Try.ntmps44
  go_wp2_with fail
  go_at_call 69
  refine K.out.mono ?_
  rintro e w1 ⟨rfl, h1, hb1⟩
  obtain ⟨hB, v, hbk, hown, hne⟩ := h1
  have c1 : w1.cell? ⟨b, 1, none⟩ = some v := by rw [Lib.cell_of_heap hbk]; rfl
  rw [bytesV_len] at hown
  have hlt : b < w1.heap.size := (Array.getElem?_eq_some_iff.1 hbk).1
  replace hown := Lib.hid hown
  replace hSrc := Lib.hid hSrc
  go_wp2_with (at_builtin; refine wpList_append_src _ (by rfl) _ _ 69 9 (by rfl) B 5 i0 (.int .u8 0) 1 1 Try.underlying69 hi hy0 hy1 hy2 rfl _ _ _ (by rfl) hown.out _ x.length _ (by rfl) (hSrc.out _) (by unfold maxLen; omega) (by omega) (by have := hb1.size; omega) ?_; intro v' w2 hO2 hG2 hob2; obtain ⟨o2, c2, hv2, _⟩ := ad_of_owns hO2; subst hv2; rw [← bytesV_app] at hO2; have hb2 := (hG2.block b hlt (fun e => hne e.symm)).trans hbk; have d1 : w2.cell? ⟨b, 1, none⟩ = some v := (by rw [Lib.cell_of_heap hb2]; rfl); have f1 : w2.frozen? ⟨b, 1, none⟩ = false := Lib.frozen_of_heap hb2 1; replace hO2 := Lib.hid hO2; replace hb2 := Lib.hid hb2)
  go_ret2
  refine ⟨rfl, .inr (Lib.BuilderAt.put hB hb2.out (bs' := bytesV (l ++ x)) ?_ (by decide)), (hb1.grown hG2 (by have := hb1.size; omega) (fun k hk => (hown.out.lt k hk).1)).setCell (p := ⟨b, 1, none⟩) hB _⟩
  rw [bytesV_len, List.length_append]; exact hO2.out
theorem grown_freeze (w : World) (g n : Nat) : w.grownBy (w.drew.freeze ⟨g, 0, none⟩ n) (some g) := by
  unfold World.freeze
  split
  · exact ⟨rfl, rfl, rfl, Nat.le_refl _, fun _ _ _ => rfl⟩
  · refine ⟨rfl, rfl, rfl, by simp, fun k _ hk => ?_⟩
    have : g ≠ k := fun e => hk (by rw [e])
    simp only [Array.getElem?_modify, if_neg this]
    rfl
/-- String: nothing turns but the builder's own row. -/
theorem string_any (B b : Nat) (l : List UInt8) (p v : Value) (w : World) (hbk : w.heap[b]? = some (.cells #[p, v] 85 (0, 0))) (hown : w.ownsRow B 5 1 v l.length (bytesV l)) :
    Calls Try.prog 46 #[.pointer (some ⟨b, 0, none⟩)] w fun e w' => e = .returned (.string (bs l)) ∧ w.grownBy w' v.ownBlock := by
  have hlt : b < w.heap.size := (Array.getElem?_eq_some_iff.1 hbk).1
  have c0 : w.cell? ⟨b, 1, none⟩ = some v := by rw [Lib.cell_of_heap hbk]; rfl
  have c1 : w.drew.cell? ⟨b, 1, none⟩ = some v := c0
  have hUN := fun (W : World) (q : Option Addr) => Lib.run_unsafeString_none (P := Try.prog) W 114 3 9 q
  rcases hown.2 with ⟨rfl, h0⟩ | ⟨g, cap, cur, rfl, hbg, hg, hnc, hcm, hcs, htake⟩
  · obtain rfl : l = [] := List.eq_nil_of_length_eq_zero h0
    have hSD : (Builtin.unsafeSliceData_ #[69] 114 #[.slice none 0 0]).run Try.prog w.drew = .ok (.pointer none) w.drew := rfl
    go_enter Try.func46, Try.ntmps46
    go_wp2
    go_region
    all_goals (go_wp2; go_ret; exact ⟨rfl, ⟨rfl, rfl, rfl, Nat.le_refl _, fun _ _ _ => rfl⟩⟩)
  · have hg' : w.drew.heap[g]? = some (.cells cur 5 (0, 0)) := hg
    by_cases hl0 : l = []
    · subst hl0
      have c1' : w.drew.cell? ⟨b, 1, none⟩ = some (.slice (some ⟨g, 0, none⟩) 0 cap) := c1
      have c0' : w.cell? ⟨b, 1, none⟩ = some (.slice (some ⟨g, 0, none⟩) 0 cap) := c0
      clear c0 c1
      by_cases hc0 : cap = 0
      · subst hc0
        have hSD : (Builtin.unsafeSliceData_ #[69] 114 #[.slice (some ⟨g, 0, none⟩) 0 0]).run Try.prog w.drew = .ok (.pointer (some ⟨w.drew.heap.size, 0, none⟩)) (w.drew.alloc (.view ⟨g, 0, none⟩ 5)) :=
          Lib.run_unsafeSliceData_zero w.drew _ _ 5 Try.underlying114 ⟨g, 0, none⟩ 0 (5, cur.size) (by simp [World.shape?, hg'])
        have c2 : (w.drew.alloc (.view ⟨g, 0, none⟩ 5)).cell? ⟨b, 1, none⟩ = some (.slice (some ⟨g, 0, none⟩) 0 0) := by
          have : (w.drew.alloc (.view ⟨g, 0, none⟩ 5)).heap[b]? = _ := (Lib.alloc_old w.drew _ b hlt).trans hbk
          rw [Lib.cell_of_heap this]; rfl
        have c3 : (w.alloc (.view ⟨g, 0, none⟩ 5)).drew.cell? ⟨b, 1, none⟩ = some (.slice (some ⟨g, 0, none⟩) 0 0) := c2
        go_enter Try.func46, Try.ntmps46
        go_wp2
        go_region
        all_goals (go_wp2; go_ret; exact ⟨rfl, ⟨rfl, rfl, rfl, (by simp), fun k hk _ => Lib.alloc_old w.drew _ k hk⟩⟩)
      · have hSD : (Builtin.unsafeSliceData_ #[69] 114 #[.slice (some ⟨g, 0, none⟩) 0 cap]).run Try.prog w.drew = .ok (.pointer (some ⟨g, 0, none⟩)) w.drew :=
          Lib.run_unsafeSliceData_row _ _ _ _ _ _ hc0
        clear hc0
        go_enter Try.func46, Try.ntmps46
        go_wp2
        go_region
        all_goals (go_wp2; go_ret; exact ⟨rfl, ⟨rfl, rfl, rfl, Nat.le_refl _, fun _ _ _ => rfl⟩⟩)
    · have hSD : (Builtin.unsafeSliceData_ #[69] 114 #[.slice (some ⟨g, 0, none⟩) l.length cap]).run Try.prog w.drew = .ok (.pointer (some ⟨g, 0, none⟩)) w.drew :=
        Lib.run_unsafeSliceData_row _ _ _ _ _ _ (by have := List.length_pos_iff.2 hl0; omega)
      have hUS : (Builtin.unsafeString_ #[114, 3] 9 #[.pointer (some ⟨g, 0, none⟩), .int .i64 l.length]).run Try.prog w.drew = .ok (.string ⟨l.toArray⟩) (w.drew.freeze ⟨g, 0, none⟩ l.length) := by
        refine Lib.run_unsafeString_row w.drew 114 3 9 5 Try.underlying114 Try.Builder_Extra_169.cellsByte g cur.size (by simp [World.shape?, hg']) l hl0 (by omega) (by unfold maxLen at hcm; omega) ?_
        intro j x hx
        exact hown.cells (g := g) rfl j (.int .u8 x.toNat) (by simp [bytesV, hx])
      clear hUN hcm hnc hcs
      go_enter Try.func46, Try.ntmps46
      go_wp2
      go_region
      all_goals (go_wp2; go_ret; exact ⟨rfl, grown_freeze w g l.length⟩)
end Go.Proofs.Ytmnimcdbfolhaaa
