/- Lists of strings in memory. -/
import Derived.Test.YtmnimcdbfolhaaaV6
set_option linter.unusedSimpArgs false
set_option linter.unusedVariables false
namespace Go.Proofs.Ytmnimcdbfolhaaa
open Go.RowKit DK
def strF (l : List Bts) (j : Nat) : Value := .string (bs (l.getD j []))
def StrsAt (w : World) (B : Nat) (A : Option Addr) (l : List Bts) : Prop := CellsAt w B A l.length (strF l)
/-- .. whose block is of a set that stays. -/
def StrsP (P : Nat → Prop) (w : World) (A : Option Addr) (l : List Bts) : Prop := 0 < l.length → ∃ b off, A = some ⟨b, off, none⟩ ∧ P b ∧ b < w.heap.size ∧ ∀ j, j < l.length → w.cell? ⟨b, off + j, none⟩ = some (strF l j)
section
variable {w w' : World} {B : Nat} {A : Option Addr} {l : List Bts} {P Q : Nat → Prop}
theorem StrsAt.at_ (h : StrsAt w B A l) {k : Nat} {x : Bts} (hk : l[k]? = some x) : ∃ b off, A = some ⟨b, off, none⟩ ∧ b < B ∧ w.cell? ⟨b, off + k, none⟩ = some (.string (bs x)) := by
  have hlt := (List.getElem?_eq_some_iff.1 hk).1
  obtain ⟨b, off, e, hb, hc⟩ := h (by omega)
  refine ⟨b, off, e, hb, ?_⟩
  rw [hc k hlt]
  simp [strF, List.getD_eq_getElem?_getD, hk]
theorem StrsAt.below (h : StrsAt w B A l) (hb : Below B w w') : StrsAt w' B A l := CellsAt.below h hb
theorem StrsAt.more {B' : Nat} (h : StrsAt w B A l) (hB : B ≤ B') : StrsAt w' B' A l → True := fun _ => trivial
theorem StrsAt.nil (w : World) (B : Nat) (A : Option Addr) : StrsAt w B A [] := fun h => absurd h (by simp)
theorem StrsP.nil (P : Nat → Prop) (w : World) (A : Option Addr) : StrsP P w A [] := fun h => absurd h (by simp)
theorem StrsP.keep (h : StrsP P w A l) (k : Keep P w w') : StrsP P w' A l := fun hl => by
  obtain ⟨b, off, e, hp, hb, hc⟩ := h hl
  exact ⟨b, off, e, hp, Nat.lt_of_lt_of_le hb k.size, fun j hj => (World.cell?_of_block (a := ⟨b, off + j, none⟩) (k.block b hb hp)).trans (hc j hj)⟩
theorem StrsP.below (h : StrsP P w A l) (k : Below w.heap.size w w') : StrsP P w' A l := h.keep (Keep.of_below k)
theorem StrsP.sub (h : StrsP P w A l) (hq : ∀ k, k < w.heap.size → P k → Q k) : StrsP Q w A l := fun hl => by
  obtain ⟨b, off, e, hp, hb, hc⟩ := h hl
  exact ⟨b, off, e, hq b hb hp, hb, hc⟩
theorem StrsP.at_ (h : StrsP P w A l) : StrsAt w w.heap.size A l := fun hl => by
  obtain ⟨b, off, e, hp, hb, hc⟩ := h hl
  exact ⟨b, off, e, hb, hc⟩
theorem StrsP.of_at (h : StrsAt w B A l) (hB : B ≤ w.heap.size) (hP : ∀ k, k < B → P k) : StrsP P w A l := fun hl => by
  obtain ⟨b, off, e, hb, hc⟩ := h hl
  exact ⟨b, off, e, hP b hb, by omega, hc⟩
theorem reads_strs (h : StrsAt w B A l) : Reads w B 1 A l.length (strV l) := by
  refine ⟨by rw [strV_len, Nat.mul_one], fun hl => ?_⟩
  obtain ⟨b, off, e, hb, hc⟩ := h hl
  refine ⟨_, e, hb, fun j u hu => ?_⟩
  have hj : j < l.length := by have := (List.getElem?_eq_some_iff.1 hu).1; rwa [strV_len] at this
  rw [Addr.add_lit, hc j hj]
  simp [strV, strF, List.getD_eq_getElem?_getD, hj] at hu ⊢
  exact hu
theorem strs_of_owns {base c : Nat} {o : Option Nat} (h : w.ownsRow base 9 1 (.slice (ad o) l.length c) l.length (strV l)) : StrsP (fun k => base ≤ k) w (ad o) l := fun hl => by
  obtain ⟨h1, ⟨q, h0⟩ | ⟨g, cap, cur, q, h2, h3, h4, h5, h6, h7⟩⟩ := h
  · omega
  · injection q with q
    refine ⟨g, 0, q, h2, ?_, fun j hj => ?_⟩
    · exact (Array.getElem?_eq_some_iff.1 h3).1
    · rw [Nat.zero_add, cell_of_row w g j cur 9 (0, 0) h3]
      have : (strV l)[j]? = some (strF l j) := by simp [strV, strF, List.getD_eq_getElem?_getD, hj]
      rw [← h7, List.getElem?_take_of_lt (by omega)] at this
      simpa using this
end
/-- The list that All hands out. -/
def StrsNew (w0 : World) (l : List Bts) (e : Ending) (w : World) : Prop := Below w0.heap.size w0 w ∧ ∃ o c, e = .returned (.slice (ad o) l.length c) ∧ w.ownsRow w0.heap.size 9 1 (.slice (ad o) l.length c) l.length (strV l)
theorem clone_strs (A : Option Addr) (c : Nat) (l : List Bts) (w : World) (h : StrsAt w w.heap.size A l) (hl : l.length ≤ 1000000000000) :
    Calls Try.prog 48 #[.slice A l.length c] w (StrsNew w l) := by
  obtain ⟨i0, hi, hz0, hz1, hz2⟩ := info_parts (show (Try.prog.info? 9).map (fun i => (i.zero, i.size, i.bytes)) = some (some (.string ⟨#[]⟩), 1, 16) by kernel_rfl)
  have qT : ∀ (w : World) (a : Option Addr) (n c : Nat), (binOp .eql 22 (.slice a n c) (.slice none 0 0)).run Try.prog w = .ok (.bool a.isNone) w := fun w a n c => Lib.run_eql_slice_nil w _ _ a n c 0 0 Try.underlying22
  cases A with
  | none =>
    have hl0 : l = [] := by
      rcases l with _ | ⟨x, r⟩
      · rfl
      · obtain ⟨b, off, e, _⟩ := h (by simp)
        cases e
    subst hl0
    clear h
    go_enter Try.func48, Try.ntmps48
    go_wp2_with fail
    go_ret
    exact ⟨Below.refl _ _, none, 0, rfl, World.ownsRow_nil _ _ _ _⟩
  | some a =>
    have hr := Lib.hid (reads_strs h)
    obtain ⟨n, hn⟩ : ∃ n, Hid (n = l.length) := ⟨_, rfl⟩
    rw [← hn.out] at hr hl
    rw [← hn.out]
    clear h
    have hO : (w.alloc (.cells #[] 9)).ownsRow w.heap.size 9 1 (.slice (some ⟨w.heap.size, 0, none⟩) 0 0) 0 [] := World.ownsRow_made w #[] 0 (Nat.le_refl _) (Nat.zero_le _) rfl
    replace hO := Lib.hid hO
    go_enter Try.func48, Try.ntmps48
    go_wp2_with (at_builtin; refine wpList_append_any _ (by rfl) _ _ 22 (by rfl) w.heap.size 9 i0 _ 1 16 Try.underlying22 hi hz0 hz1 hz2 rfl (by decide) _ 0 [] (by rfl) hO.out _ (some a) n c _ (by rfl) (hr.out.alloc (Nat.le_refl _) _) (fun u hu => by obtain ⟨x, _, rfl⟩ := List.mem_map.1 hu; rfl) (by unfold maxLen; omega) (by omega) (by simp) ?_; intro v' w2 hO2 hG2 hob2)
    go_ret
    rw [List.nil_append, Nat.zero_add, hn.out] at hO2
    obtain ⟨o, c', e1, _⟩ := ad_of_owns hO2
    subst e1
    exact ⟨(below_new w _).trans (below_own hO.out (by simp) hG2), o, c', rfl, hO2⟩
section
variable {w0 w w' : World} {b lb : Nat} {f : Int} {P : Nat → Prop} {n : Nat} {s : St} {R : List Bts}
theorem Wal.rows (h : Wal w0 b lb f P n w s R) : ∃ o c, LogAt w b lb f o c R ∧ StrsAt w w.heap.size (ad o) R := by
  obtain ⟨o, c, hL, _⟩ := h.at_
  exact ⟨o, c, hL, (strs_of_owns hL.row).at_⟩
theorem all_any (h : Wal w0 b lb f P n w s R) (hR : R.length ≤ 1000000000) : Calls Try.prog 25 #[lp lb] w (StrsNew w R) := by
  obtain ⟨o, c, hL, hS⟩ := h.rows
  obtain ⟨c0, c1, c2, f2⟩ := logO_cells hL.obj
  have KC := Lib.hid (clone_strs (ad o) c R w hS (by omega))
  unfold lp
  go_enter Try.func25, Try.ntmps25
  go_wp2_with fail
  go_at_call 48
  refine KC.out.mono ?_
  rintro e w1 ⟨hb, o1, k1, rfl, hO⟩
  go_wp2_with fail
  go_ret
  exact ⟨hb, o1, k1, rfl, hO⟩
theorem len_any (h : Wal w0 b lb f P n w s R) : Calls Try.prog 32 #[lp lb] w fun e w' => e = .returned (.int .i64 (R.length : Nat)) ∧ w = w' := by
  obtain ⟨o, c, hL, hS⟩ := h.rows
  obtain ⟨c0, c1, c2, f2⟩ := logO_cells hL.obj
  unfold lp
  go_enter Try.func32, Try.ntmps32
  go_wp2_with fail
  go_ret
  exact ⟨rfl, rfl⟩
theorem wflush_any (h : Wal w0 b lb f P n w s R) (hn : n ≤ 999999) {v : Int} {s' : St} (hv : DK.flush s f = (v, s')) :
    Calls Try.prog 22 #[lp lb] w fun e w' => e = .returned (.int .i64 v) ∧ Wal w0 b lb f P n w' s' R ∧ Keep P w w' := by
  obtain ⟨o, c, hL, hP, H⟩ := h.at_
  obtain ⟨c0, c1, c2, f2⟩ := logO_cells hL.obj
  have hbase := h.base
  have KA := Lib.hid fun wx (hb : Below w.heap.size w wx) => (H.below_ hb).flush f hn (v := v) (s' := s') (by rw [hv]) (by rw [hv])
  unfold dp at KA c0
  unfold lp
  go_enter Try.func22, Try.ntmps22
  go_upto_region 3 with fail
  refine Plan.wp_region_treeS (fun wx => wx.cell? ⟨lb, 0, none⟩ = some (.pointer (some ⟨b, 0, none⟩)) ∧ wx.cell? ⟨lb, 1, none⟩ = some (.int .i64 f)) (.rd 0 (.rd 1 (.rd 2 (.rd 3 (.rd 4 (.rd 5 (.rd 6 (.rd 7 (.wr 8 (.rd 9 .done)))))))))) (by kernel_rfl) (by kernel_rfl) ⟨c0, c1⟩ ?_
  (repeat (refine Plan.tree_read (v := ?_) rfl rfl ?_ ?_; rotate_left; (focus ((intro wS hSw; (try dsimp only at hSw); go_simp); try with_reducible rfl)); simp only [Act.put, List.setIfInBounds_toArray, List.set_cons_zero, List.set_cons_succ]))
  (refine Plan.tree_write rfl (fun K hK => ?_); try go_simp)
  go_at_call 43
  refine (KA.out _ (Below.refl _ _).drew).mono ?_
  rintro e wb ⟨rfl, H2, k2⟩
  have hL2 := (hL.below (Below.refl _ _).drew).keep k2 (.inr (.inl rfl)) (fun g e => .inr (.inr e))
  obtain ⟨d0, d1, d2, d3⟩ := logO_cells hL2.obj
  (refine hK.out _ _ (⟨d0, d1⟩) ?_; clear hK K; try simp only [Act.put, List.setIfInBounds_toArray, List.set_cons_zero, List.set_cons_succ])
  (repeat (refine Plan.tree_read (v := ?_) rfl rfl ?_ ?_; rotate_left; (focus ((intro wS hSw; (try dsimp only at hSw); go_simp); try with_reducible rfl)); simp only [Act.put, List.setIfInBounds_toArray, List.set_cons_zero, List.set_cons_succ]))
  refine Plan.tree_done ?_
  have kk : Keep (fun k => P k ∨ k = lb ∨ o = some k) w wb := (Keep.of_below (Below.refl _ _).drew).trans k2
  go_wp2_with fail
  go_ret
  exact ⟨rfl, ⟨⟨o, c, hL2, hP, H2⟩, hbase⟩, kk.sub fun k q => .inl q⟩
theorem Wal.with_ (h : Wal w0 b lb f P n w s R) (hb : Below w.heap.size w w') : Wal w0 b lb f (fun k => P k ∨ (w.heap.size ≤ k ∧ k < w'.heap.size)) n w' s R := by
  obtain ⟨o, c, hL, hP, H⟩ := h.at_
  refine ⟨⟨o, c, hL.below hb, fun k q => ?_, (H.with_ hb (Q := fun k => w.heap.size ≤ k ∧ k < w'.heap.size) fun _ q => q).sub fun k q => ?_⟩, h.base⟩
  · rcases q with q | q
    · exact hP k q
    · have := hL.lt
      exact ⟨by omega, fun e => by have := hL.olt e; omega⟩
  · rcases q with (q | q) | q
    · exact .inl (.inl q)
    · exact .inr q
    · exact .inl (.inr q)
end
end Go.Proofs.Ytmnimcdbfolhaaa
