/- Joined of: BU BU2. -/
import Derived.Test.YtminphldifncaaaDoorShelf
import Derived.Test.YtminphldifncaaaDoorBS
/- strings.Builder: copyCheck and WriteString at a builder of the call's own, walked; String by the kit's contract. -/
set_option linter.unusedSimpArgs false
set_option linter.unusedVariables false
namespace Go.Proofs.YtminphldifncaaaDoor
open Go.RowKit Go.Shelf
set_option maxRecDepth 100000 in
theorem check_any (B b : Nat) (l : List Value) (w : World) (h : Lib.IsBuilder 72 5 B b l w) :
    Calls Tryd.prog 60 #[.pointer (some ⟨b, 0, none⟩)] w fun e w' => e = .returned (.tuple #[]) ∧ Lib.BuilderAt 72 5 B b (.pointer (some ⟨b, 0, none⟩)) l w' ∧ Below B w w' := by
  obtain ⟨j, hj, hjs⟩ := Option.map_eq_some_iff.1 Tryd.Builder_Extra_169.sizeBuilder
  rcases h with h | h
  · have h0 := h.cell0
    have hsh := h.shape
    have hfz := h.frozen0
    go_enter Tryd.func60, Tryd.ntmps60
    go_wp2
    rw [Lib.run_to_unsafe w ⟨b, 0, none⟩ Tryd.underlying69 Tryd.underlying107 hj (by rw [hjs]; decide) hsh (Nat.zero_lt_succ 1)]
    simp only [Result.andThen]
    rw [Oper.upon_value]
    go_wp2
    rw [run_callFunc_extern Tryd.func71 (by kernel_rfl) (by kernel_rfl) (by kernel_rfl) (e := Extern.AbiNoEscape.same) (by kernel_rfl)]
    rw [Lib.run_noEscape]
    simp only [Result.andThen]
    rw [Oper.upon_value]
    go_wp2
    rw [Lib.run_from_unsafe w ⟨b, 0, none⟩ Tryd.underlying107 Tryd.underlying69 hj hsh Tryd.Builder_Extra_169.liesBuilder]
    simp only [Result.andThen]
    rw [Oper.upon_value]
    go_wp2
    go_end0
    exact ⟨rfl, h.used _, (Below.refl B w).setCell (p := ⟨b, 0, none⟩) h.1 _⟩
  · have h0 := h.cell0
    go_enter Tryd.func60, Tryd.ntmps60
    go_wp2
    rw [Lib.run_neq_ptr_same w _ Tryd.underlying69 hj]
    go_wp2
    go_end0
    exact ⟨rfl, h, Below.refl B _⟩
/-- A builder of the call's own that holds the bytes. -/
def BldAt (B b : Nat) (l : List UInt8) (w : World) : Prop := Lib.IsBuilder 72 5 B b (bytesV l) w
theorem BldAt.new (w : World) : BldAt w.heap.size w.heap.size [] (w.alloc (.cells #[.pointer none, .slice none 0 0] 72)) := Lib.fresh_isBuilder _ _ w
set_option maxRecDepth 100000 in
theorem write_any (B b : Nat) (l x : List UInt8) (w : World) (h : BldAt B b l w) (hl : l.length + x.length ≤ 140737488355328) (hBw : B ≤ w.heap.size) :
    Calls Tryd.prog 37 #[.pointer (some ⟨b, 0, none⟩), .string (bs x)] w fun e w' => e = .returned (.tuple #[.int .i64 (x.length : Nat), .nilIface]) ∧ BldAt B b (l ++ x) w' ∧ Below B w w' := by
  obtain ⟨i0, hi, hy0, hy1, hy2⟩ := Tryd.infoU8
  have z1 := bs_size x
  have hx2 : byteCells (bs x) = bytesV x := byteCells_bs x
  have hSrc : ∀ w, Src Tryd.prog 1 9 (.string (bs x)) x.length (bytesV x) w := fun w => by
    rw [← hx2, ← z1]; exact Src.ofString (P := Tryd.prog) w Tryd.underlying9 (bs x)
  have K := Lib.hid (check_any B b (bytesV l) w h)
  go_enter Tryd.func37, Tryd.ntmps37
  go_wp2_with fail
  go_at_call 60
  refine K.out.mono ?_
  rintro e w1 ⟨rfl, h1, hb1⟩
  obtain ⟨hB, v, hbk, hown, hne⟩ := h1
  have c1 : w1.cell? ⟨b, 1, none⟩ = some v := by rw [Lib.cell_of_heap hbk]; rfl
  rw [bytesV_len] at hown
  have hlt : b < w1.heap.size := (Array.getElem?_eq_some_iff.1 hbk).1
  replace hown := Lib.hid hown
  replace hSrc := Lib.hid hSrc
  go_wp2_with (at_builtin; refine wpList_append_src _ (by rfl) _ _ 70 9 (by rfl) B 5 i0 (.int .u8 0) 1 1 Tryd.underlying70 hi hy0 hy1 hy2 rfl _ _ _ (by rfl) hown.out _ x.length _ (by rfl) (hSrc.out _) (by unfold maxLen; omega) (by omega) (by have := hb1.size; omega) ?_; intro v' w2 hO2 hG2 hob2; obtain ⟨o2, c2, hv2, _⟩ := ad_of_owns hO2; subst hv2; rw [← bytesV_app] at hO2; have hb2 := (hG2.block b hlt (fun e => hne e.symm)).trans hbk; have d1 : w2.cell? ⟨b, 1, none⟩ = some v := (by rw [Lib.cell_of_heap hb2]; rfl); have f1 : w2.frozen? ⟨b, 1, none⟩ = false := Lib.frozen_of_heap hb2 1; replace hO2 := Lib.hid hO2; replace hb2 := Lib.hid hb2)
  go_ret2
  refine ⟨rfl, .inr (Lib.BuilderAt.put hB hb2.out (bs' := bytesV (l ++ x)) ?_ (by decide)), (hb1.grown hG2 (by have := hb1.size; omega) (fun k hk => (hown.out.lt k hk).1)).setCell (p := ⟨b, 1, none⟩) hB _⟩
  rw [bytesV_len, List.length_append]; exact hO2.out
theorem grown_freeze (w : World) (g n : Nat) : w.grownBy (w.drew.freeze ⟨g, 0, none⟩ n) (some g) := by
  unfold World.freeze
  split
  · exact ⟨rfl, rfl, rfl, Nat.le_refl _, fun _ _ _ => rfl⟩
  · refine ⟨rfl, rfl, rfl, by simp, fun k _ hk => ?_⟩
    have : g ≠ k := fun e => hk (by rw [e])
    simp only [Array.getElem?_modify, if_neg this]
    rfl
/-- String: nothing turns but the builder's own row. -/
theorem string_any (B b : Nat) (l : List UInt8) (p v : Value) (w : World) (hbk : w.heap[b]? = some (.cells #[p, v] 72 (0, 0))) (hown : w.ownsRow B 5 1 v l.length (bytesV l)) :
    Calls Tryd.prog 43 #[.pointer (some ⟨b, 0, none⟩)] w fun e w' => e = .returned (.string (bs l)) ∧ w.grownBy w' v.ownBlock := by
  have hlt : b < w.heap.size := (Array.getElem?_eq_some_iff.1 hbk).1
  have c0 : w.cell? ⟨b, 1, none⟩ = some v := by rw [Lib.cell_of_heap hbk]; rfl
  have c1 : w.drew.cell? ⟨b, 1, none⟩ = some v := c0
  have hUN := fun (W : World) (q : Option Addr) => Lib.run_unsafeString_none (P := Tryd.prog) W 100 3 9 q
  rcases hown.2 with ⟨rfl, h0⟩ | ⟨g, cap, cur, rfl, hbg, hg, hnc, hcm, hcs, htake⟩
  · obtain rfl : l = [] := List.eq_nil_of_length_eq_zero h0
    have hSD : (Builtin.unsafeSliceData_ #[70] 100 #[.slice none 0 0]).run Tryd.prog w.drew = .ok (.pointer none) w.drew := rfl
    go_enter Tryd.func43, Tryd.ntmps43
    go_wp2
    go_region
    all_goals (go_wp2; go_ret; exact ⟨rfl, ⟨rfl, rfl, rfl, Nat.le_refl _, fun _ _ _ => rfl⟩⟩)
  · have hg' : w.drew.heap[g]? = some (.cells cur 5 (0, 0)) := hg
    by_cases hl0 : l = []
    · subst hl0
      have c1' : w.drew.cell? ⟨b, 1, none⟩ = some (.slice (some ⟨g, 0, none⟩) 0 cap) := c1
      have c0' : w.cell? ⟨b, 1, none⟩ = some (.slice (some ⟨g, 0, none⟩) 0 cap) := c0
      clear c0 c1
      by_cases hc0 : cap = 0
      · subst hc0
        have hSD : (Builtin.unsafeSliceData_ #[70] 100 #[.slice (some ⟨g, 0, none⟩) 0 0]).run Tryd.prog w.drew = .ok (.pointer (some ⟨w.drew.heap.size, 0, none⟩)) (w.drew.alloc (.view ⟨g, 0, none⟩ 5)) :=
          Lib.run_unsafeSliceData_zero w.drew _ _ 5 Tryd.underlying100 ⟨g, 0, none⟩ 0 (5, cur.size) (by simp [World.shape?, hg'])
        have c2 : (w.drew.alloc (.view ⟨g, 0, none⟩ 5)).cell? ⟨b, 1, none⟩ = some (.slice (some ⟨g, 0, none⟩) 0 0) := by
          have : (w.drew.alloc (.view ⟨g, 0, none⟩ 5)).heap[b]? = _ := (Lib.alloc_old w.drew _ b hlt).trans hbk
          rw [Lib.cell_of_heap this]; rfl
        have c3 : (w.alloc (.view ⟨g, 0, none⟩ 5)).drew.cell? ⟨b, 1, none⟩ = some (.slice (some ⟨g, 0, none⟩) 0 0) := c2
        go_enter Tryd.func43, Tryd.ntmps43
        go_wp2
        go_region
        all_goals (go_wp2; go_ret; exact ⟨rfl, ⟨rfl, rfl, rfl, (by simp), fun k hk _ => Lib.alloc_old w.drew _ k hk⟩⟩)
      · have hSD : (Builtin.unsafeSliceData_ #[70] 100 #[.slice (some ⟨g, 0, none⟩) 0 cap]).run Tryd.prog w.drew = .ok (.pointer (some ⟨g, 0, none⟩)) w.drew :=
          Lib.run_unsafeSliceData_row _ _ _ _ _ _ hc0
        clear hc0
        go_enter Tryd.func43, Tryd.ntmps43
        go_wp2
        go_region
        all_goals (go_wp2; go_ret; exact ⟨rfl, ⟨rfl, rfl, rfl, Nat.le_refl _, fun _ _ _ => rfl⟩⟩)
    · have hSD : (Builtin.unsafeSliceData_ #[70] 100 #[.slice (some ⟨g, 0, none⟩) l.length cap]).run Tryd.prog w.drew = .ok (.pointer (some ⟨g, 0, none⟩)) w.drew :=
        Lib.run_unsafeSliceData_row _ _ _ _ _ _ (by have := List.length_pos_iff.2 hl0; omega)
      have hUS : (Builtin.unsafeString_ #[100, 3] 9 #[.pointer (some ⟨g, 0, none⟩), .int .i64 l.length]).run Tryd.prog w.drew = .ok (.string ⟨l.toArray⟩) (w.drew.freeze ⟨g, 0, none⟩ l.length) := by
        refine Lib.run_unsafeString_row w.drew 100 3 9 5 Tryd.underlying100 Tryd.Builder_Extra_169.cellsByte g cur.size (by simp [World.shape?, hg']) l hl0 (by omega) (by unfold maxLen at hcm; omega) ?_
        intro j x hx
        exact hown.cells (g := g) rfl j (.int .u8 x.toNat) (by simp [bytesV, hx])
      clear hUN hcm hnc hcs
      go_enter Tryd.func43, Tryd.ntmps43
      go_wp2
      go_region
      all_goals (go_wp2; go_ret; exact ⟨rfl, grown_freeze w g l.length⟩)
theorem bld_below {B b : Nat} {l : Bts} {w w' : World} (h : BldAt B b l w) (hb : Below w.heap.size w w') : BldAt B b l w' := by
  have go : ∀ p, Lib.BuilderAt 72 5 B b p (bytesV l) w → Lib.BuilderAt 72 5 B b p (bytesV l) w' := fun p ⟨h1, v, h2, h3, h4⟩ =>
    ⟨h1, v, (hb.block b (Array.getElem?_eq_some_iff.1 h2).1).trans h2, row_heap h3 fun k e => hb.block k (h3.lt k e).2, h4⟩
  exact h.imp (go _) (go _)
/-- The builder's parts. -/
theorem bld_parts {B b : Nat} {l : Bts} {w : World} (h : BldAt B b l w) : ∃ p v, w.heap[b]? = some (.cells #[p, v] 72 (0, 0)) ∧ w.ownsRow B 5 1 v l.length (bytesV l) := by
  rcases h with ⟨h1, v, h2, h3, h4⟩ | ⟨h1, v, h2, h3, h4⟩
  · rw [bytesV_len] at h3; exact ⟨_, v, h2, h3⟩
  · rw [bytesV_len] at h3; exact ⟨_, v, h2, h3⟩
end Go.Proofs.YtminphldifncaaaDoor

/- strings.Builder once more: what a write turns is the builder and its row alone. -/
namespace Go.Proofs.YtminphldifncaaaDoor
open Go.RowKit Go.Shelf
/-- A builder whose buffer is v. -/
structure Bld (B b : Nat) (v : Value) (l : Bts) (w : World) : Prop where
  hB : B ≤ b
  cell : ∃ p, (p = .pointer none ∨ p = .pointer (some ⟨b, 0, none⟩)) ∧ w.heap[b]? = some (.cells #[p, v] 72 (0, 0))
  own : w.ownsRow B 5 1 v l.length (bytesV l)
  ne : v.ownBlock ≠ some b
theorem Bld.new (w : World) : Bld w.heap.size w.heap.size (.slice none 0 0) [] (w.alloc (.cells #[.pointer none, .slice none 0 0] 72)) :=
  ⟨Nat.le_refl _, ⟨_, .inl rfl, heap_alloc_new _ _⟩, World.ownsRow_nil _ _ _ _, by simp [Value.ownBlock]⟩
theorem Bld.lt {B b : Nat} {v : Value} {l : Bts} {w : World} (h : Bld B b v l w) : b < w.heap.size := by obtain ⟨p, _, h2⟩ := h.cell; exact (Array.getElem?_eq_some_iff.1 h2).1
theorem Bld.below {B b : Nat} {v : Value} {l : Bts} {w w' : World} (h : Bld B b v l w) (hb : Below w.heap.size w w') : Bld B b v l w' := by
  obtain ⟨p, h1, h2⟩ := h.cell
  exact ⟨h.hB, ⟨p, h1, (hb.block b h.lt).trans h2⟩, row_heap h.own fun k e => hb.block k (h.own.lt k e).2, h.ne⟩
set_option maxRecDepth 100000 in
theorem check2 (B b : Nat) (v : Value) (l : Bts) (w : World) (h : Bld B b v l w) :
    Calls Tryd.prog 60 #[.pointer (some ⟨b, 0, none⟩)] w fun e w' => e = .returned (.tuple #[]) ∧ w'.heap[b]? = some (.cells #[.pointer (some ⟨b, 0, none⟩), v] 72 (0, 0)) ∧ w.grownBy w' (some b) := by
  obtain ⟨p, hp, hbk⟩ := h.cell
  have hat : Lib.BuilderAt 72 5 B b p (bytesV l) w := ⟨h.hB, v, hbk, by rw [bytesV_len]; exact h.own, h.ne⟩
  obtain ⟨j, hj, hjs⟩ := Option.map_eq_some_iff.1 Tryd.Builder_Extra_169.sizeBuilder
  rcases hp with rfl | rfl
  · have h0 := hat.cell0
    have hsh := hat.shape
    have hfz := hat.frozen0
    go_enter Tryd.func60, Tryd.ntmps60
    go_wp2
    rw [Lib.run_to_unsafe w ⟨b, 0, none⟩ Tryd.underlying69 Tryd.underlying107 hj (by rw [hjs]; decide) hsh (Nat.zero_lt_succ 1)]
    simp only [Result.andThen]
    rw [Oper.upon_value]
    go_wp2
    rw [run_callFunc_extern Tryd.func71 (by kernel_rfl) (by kernel_rfl) (by kernel_rfl) (e := Extern.AbiNoEscape.same) (by kernel_rfl)]
    rw [Lib.run_noEscape]
    simp only [Result.andThen]
    rw [Oper.upon_value]
    go_wp2
    rw [Lib.run_from_unsafe w ⟨b, 0, none⟩ Tryd.underlying107 Tryd.underlying69 hj hsh Tryd.Builder_Extra_169.liesBuilder]
    simp only [Result.andThen]
    rw [Oper.upon_value]
    go_wp2
    go_end0
    exact ⟨rfl, by simp [World.setCell, Array.getElem?_modify, hbk], ⟨rfl, rfl, rfl, by simp, fun k _ hk => Below.heap_setCell _ _ _ _ (fun e => hk (by rw [e]))⟩⟩
  · have h0 := hat.cell0
    go_enter Tryd.func60, Tryd.ntmps60
    go_wp2
    rw [Lib.run_neq_ptr_same w _ Tryd.underlying69 hj]
    go_wp2
    go_end0
    exact ⟨rfl, hbk, ⟨rfl, rfl, rfl, Nat.le_refl _, fun _ _ _ => rfl⟩⟩
set_option maxRecDepth 100000 in
theorem write2 (B b : Nat) (v : Value) (l x : List UInt8) (w : World) (h : Bld B b v l w) (hl : l.length + x.length ≤ 140737488355328) (hBw : B ≤ w.heap.size) :
    Calls Tryd.prog 37 #[.pointer (some ⟨b, 0, none⟩), .string (bs x)] w fun e w' => e = .returned (.tuple #[.int .i64 (x.length : Nat), .nilIface]) ∧ ∃ v', Bld B b v' (l ++ x) w' ∧ (v'.ownBlock = v.ownBlock ∨ ∃ g, v'.ownBlock = some g ∧ w.heap.size ≤ g) ∧ w'.os = w.os ∧ w'.tape = w.tape ∧ w'.output = w.output ∧ w.heap.size ≤ w'.heap.size ∧ ∀ k, k < w.heap.size → k ≠ b → v.ownBlock ≠ some k → w'.heap[k]? = w.heap[k]? := by
  obtain ⟨i0, hi, hy0, hy1, hy2⟩ := Tryd.infoU8
  have z1 := bs_size x
  have hx2 : byteCells (bs x) = bytesV x := byteCells_bs x
  have hSrc : ∀ w, Src Tryd.prog 1 9 (.string (bs x)) x.length (bytesV x) w := fun w => by
    rw [← hx2, ← z1]; exact Src.ofString (P := Tryd.prog) w Tryd.underlying9 (bs x)
  have hB := h.hB
  have hne := h.ne
  have hB0 : B ≤ w.heap.size := hBw
  have hown0 := h.own
  have K := Lib.hid (check2 B b v l w h)
  go_enter Tryd.func37, Tryd.ntmps37
  go_wp2_with fail
  go_at_call 60
  refine K.out.mono ?_
  rintro e w1 ⟨rfl, hbk, hb1⟩
  have hown := row_heap (w' := w1) hown0 fun k e => hb1.block k (hown0.lt k e).2 (fun q => hne (by rw [e]; exact q))
  have c1 : w1.cell? ⟨b, 1, none⟩ = some v := by rw [Lib.cell_of_heap hbk]; rfl
  have hlt : b < w1.heap.size := (Array.getElem?_eq_some_iff.1 hbk).1
  replace hown := Lib.hid hown
  replace hSrc := Lib.hid hSrc
  go_wp2_with (at_builtin; refine wpList_append_src _ (by rfl) _ _ 70 9 (by rfl) B 5 i0 (.int .u8 0) 1 1 Tryd.underlying70 hi hy0 hy1 hy2 rfl _ _ _ (by rfl) hown.out _ x.length _ (by rfl) (hSrc.out _) (by unfold maxLen; omega) (by omega) (by have := hb1.size; omega) ?_; intro v' w2 hO2 hG2 hob2; obtain ⟨o2, c2, hv2, _⟩ := ad_of_owns hO2; subst hv2; rw [← bytesV_app] at hO2; have hb2 := (hG2.block b hlt (fun e => hne e.symm)).trans hbk; have d1 : w2.cell? ⟨b, 1, none⟩ = some v := (by rw [Lib.cell_of_heap hb2]; rfl); have f1 : w2.frozen? ⟨b, 1, none⟩ = false := Lib.frozen_of_heap hb2 1; replace hO2 := Lib.hid hO2; replace hb2 := Lib.hid hb2)
  go_ret2
  have hb2' := hb2.out
  have hlt2 : b < w2.heap.size := (Array.getElem?_eq_some_iff.1 hb2').1
  have hO2' := hO2.out
  have hn2 : o2 ≠ some b := by
    rcases hob2 with q | q
    · rw [ad_block] at q; rw [q]; exact hne
    · rw [ad_block] at q; rw [q]; intro q2; injection q2 with q2; omega
  have hz1 := hb1.size
  have hz2 := hG2.size
  refine ⟨rfl, _, ⟨hB, ⟨_, .inr rfl, by simp [World.setCell, Array.getElem?_modify, hb2']; rfl⟩, row_heap (w := w2) (by rw [List.length_append]; exact hO2') fun k e => Below.heap_setCell _ _ _ _ (fun q => hn2 (by rw [ad_block] at e; rw [e, q])), by rw [ad_block]; exact hn2⟩, ?_, hG2.os.trans hb1.os, hG2.tape.trans hb1.tape, hG2.output.trans hb1.output, by simpa using Nat.le_trans hz1 hz2, fun k hk h1 h2 => ?_⟩
  · rcases hob2 with q | q
    · exact .inl q
    · exact .inr ⟨_, q, hz1⟩
  · rw [Below.heap_setCell _ _ _ _ h1, hG2.block k (by omega) (fun q => h2 q.symm), hb1.block k hk (by simp; omega)]
/-- The builder's row keeps off the blocks from lo to hi. -/
def Off (v : Value) (b lo hi : Nat) : Prop := b < lo ∧ ∀ g, v.ownBlock = some g → g < lo ∨ hi ≤ g
end Go.Proofs.YtminphldifncaaaDoor

