/- The walk of the reference's Order. (Printed by gen_rw10.py.) -/
import Derived.Test.YtchmplnkddgncaaDoorRW8
set_option linter.unusedSimpArgs false
set_option linter.unusedVariables false
namespace Go.Proofs.YtchmplnkddgncaaDoor
open Go.RowKit CM RG
attribute [local go_sem] alloc_drewN setCell_drewN shape_drewN

theorem rights_of_owns {w : World} {base e : Nat} {v : Value} {A : List Rt} (h : w.ownsRow base e 9 v A.length (rowR A)) : ∃ C cc, v = .slice C A.length cc ∧ RightsAt w w.heap.size C A ∧ ∀ a, C = some a → base ≤ a.block := rowk_of_owns rt_len h
theorem rights_take {w : World} {B : Nat} {C : Option Addr} {L : List Rt} (h : RightsAt w B C L) (c : Nat) : RightsAt w B C (L.take c) := rowk_take (enc := Rt.cells) (k := 9) h c
theorem rights_drop {w : World} {B b o : Nat} {L : List Rt} (h : RightsAt w B (some ⟨b, o, none⟩) L) {k cf : Nat} (hk : k ≤ L.length) (hcf : L.length ≤ cf) :
    RightsAt w B (if cf = k then some ⟨b, o, none⟩ else some ⟨b, o + k * 9, none⟩) (L.drop k) := rowk_drop (enc := Rt.cells) (n := 9) h hk hcf
set_option maxHeartbeats 16000000 in
set_option maxRecDepth 100000 in
theorem rorder_any (l : List Rt) (C : Option Addr) (cc : Nat) (w : World) {B : Nat} (hC : RightsAt w B C l) (hB : B ≤ w.heap.size) (hl : l.length ≤ 1000000) :
    Calls Tryd.prog 15 #[.slice C l.length cc] w (RightsRes (orderR l) w) := by
  obtain ⟨i0, hi, hz0, hz1, hz2⟩ := info_parts Tryd.infoRight
  obtain ⟨acc, hacc⟩ : ∃ f : Nat → List Rt, f = fun k => orderR (l.take k) := ⟨_, rfl⟩
  have hL : Hid (orderR l = acc l.length) := by show _ = _; rw [hacc]; show _ = orderR (l.take l.length); rw [List.take_length]
  have hstep : Hid (∀ k e, l[k]? = some e → acc (k + 1) = ST.merge ltR (acc k) [e]) := fun k e h => by
    rw [hacc]
    show orderR (l.take (k + 1)) = _
    rw [List.take_add_one, h]
    exact ST.insSort_snoc ltR _ e
  have hasc : Hid (∀ k, ST.Asc ltR (acc k)) := fun k => by rw [hacc]; exact (ST.insSort_stab ltR swoR _).asc
  have hlenA : Hid (∀ k, (acc k).length ≤ l.length) := fun k => by rw [hacc]; show (orderR _).length ≤ _; rw [order_len, List.length_take]; omega
  have h0A : Hid (acc 0 = []) := by show _ = _; rw [hacc]; rfl
  clear hacc
  go_enter Tryd.func15, Tryd.ntmps15
  go_wp2_with fail
  go_loopw [3, 4] (fun out i wr => ∃ (k : Nat) (D : Option Addr) (dc : Nat) (A : List Rt), k ≤ l.length ∧ i = .int .i64 k ∧ out = .slice D A.length dc ∧ Hid (A = acc k) ∧ A.length ≤ dc ∧ RightsAt wr wr.heap.size D A ∧ Below w.heap.size w wr ∧ w.heap.size ≤ wr.heap.size ∧ Hid ((A = [] ∧ D = none ∧ dc = 0) ∨ ∃ bo oo, D = some ⟨bo, oo, none⟩)) (fun _ i _ => l.length - (intOf i).toNat)
  case atStart => exact ⟨0, none, 0, [], Nat.zero_le _, rfl, rfl, h0A.out.symm, Nat.le_refl _, RightsAt.nil _ _ _, Below.refl _ _, Nat.le_refl _, Or.inl ⟨rfl, rfl, rfl⟩⟩
  case round =>
    obtain ⟨k, D, dc, A, hk, rfl, rfl, hA, hcap, hD, hBw, hz, hSh⟩ := hrel
    by_cases hlt : k < l.length
    · obtain ⟨e, hx⟩ : ∃ e, l[k]? = some e := ⟨_, List.getElem?_eq_getElem hlt⟩
      obtain ⟨b, off, rfl, hb, r0, r1, r2, r3, r4, r5, r6, r7, r8⟩ := (hC.below (hBw.mono hB)).at_ hx
      have hlen : A.length ≤ l.length := by rw [hA.out]; exact hlenA.out k
      have HX := Lib.hid hx
      have hbw : b < wr.heap.size := by omega
      have hki : (0 : Int) ≤ (k : Int) ∧ (k : Int) < (l.length : Int) := by omega
      clear hx
      obtain ⟨wq, rfl⟩ : ∃ wq, wq = wr := ⟨_, rfl⟩
      go_wp2_with fail
      go_loopw [5] (fun s14 w2 => ∃ (at1 : Nat), s14 = .int .i64 at1 ∧ at1 ≤ A.length ∧ Hid (∀ j x, at1 ≤ j → A[j]? = some x → ltR e x = true) ∧ Hid (Below wq.heap.size wq w2)) (fun s14 _ => (intOf s14).toNat)
      case atStart => exact ⟨A.length, rfl, Nat.le_refl _, fun j x h1 h2 => absurd (List.getElem?_eq_some_iff.1 h2).1 (by omega), Below.refl _ _⟩
      case round =>
        obtain ⟨at1, rfl, hat, hgt, hBi⟩ := hrel
        have STOP : (0 < at1 → ∀ x, A[at1 - 1]? = some x → ltR e x = false) → Hid (ST.merge ltR A [e] = A.take at1 ++ e :: A.drop at1) := fun h => by
          have ha : ST.Asc ltR A := by rw [hA.out]; exact hasc.out k
          exact ST.merge_at ltR swoR e ha hat hgt.out (fun x h0 hx => h h0 x hx)
        have STP := Lib.hid STOP
        clear STOP
        by_cases h0 : at1 = 0
        · have HM : Hid (ST.merge ltR A [e] = A.take at1 ++ e :: A.drop at1) := STP.out (fun h => absurd h0 (by omega))
          have d0 : ¬ (0 : Int) < (at1 : Int) := by omega
          have d5 : decide ((0 : Int) < (at1 : Int)) = false := decide_eq_false d0
          have d6 : decide (0 < at1) = false := decide_eq_false (by omega)
          clear STP h0
          go_wp2_with fail
          refine Plan.wp_region_tree (.rd 0 (.rd 1 (.rd 2 (.rd 3 (.rd 4 (.rd 5 (.rd 6 (.rd 7 (.rd 8 (.rd 9 (.rd 10 (.rd 11 (.wr 12 (.rd 13 .done)))))))))))))) (by kernel_rfl) (by kernel_rfl) ?_
          (repeat (first | (refine Plan.tree_read (v := ?_) rfl rfl ?_ ?_; rotate_left; (focus ((intro wS hSw; have hkS := (bcell hSw).1; go_simp); try with_reducible rfl)); simp only [Act.put, List.setIfInBounds_toArray, List.set_cons_zero, List.set_cons_succ]) | (refine Plan.tree_skip rfl rfl ?_; simp only [Act.put, List.setIfInBounds_toArray, List.set_cons_zero, List.set_cons_succ])))
          (refine Plan.tree_write rfl (fun K hK => ?_); try go_simp)
          (refine hK.out _ _ ((Below.refl _ _).drew) ?_; clear hK K; try simp only [Act.put, List.setIfInBounds_toArray, List.set_cons_zero, List.set_cons_succ])
          (repeat (first | (refine Plan.tree_read (v := ?_) rfl rfl ?_ ?_; rotate_left; (focus ((intro wS hSw; have hkS := (bcell hSw).1; go_simp); try with_reducible rfl)); simp only [Act.put, List.setIfInBounds_toArray, List.set_cons_zero, List.set_cons_succ]) | (refine Plan.tree_skip rfl rfl ?_; simp only [Act.put, List.setIfInBounds_toArray, List.set_cons_zero, List.set_cons_succ])))
          refine Plan.tree_done ?_
          generalize hW2 : wr.drew = W2
          have hB2 : Below wq.heap.size wq W2 := by rw [← hW2]; exact hBi.out.drew
          clear hW2 hBi
          have hz2' : wq.heap.size ≤ W2.heap.size := hB2.size
          have hD2 := RightsAt.below hD hB2
          clear hD
          have hdl : (A.drop at1).length = A.length - at1 := List.length_drop ..
          have htl : (A.take at1).length = at1 := by rw [List.length_take]; omega
          have HDL := Lib.hid hdl
          have HTL := Lib.hid htl
          clear hdl htl
          have kO10 : Hid ((W2.alloc (.cells #[] 33)).ownsRow W2.heap.size 33 9 (.slice (some ⟨W2.heap.size, 0, none⟩) 0 0) 0 []) := World.ownsRow_made W2 #[] 0 (Nat.le_refl _) (by unfold maxLen; omega) rfl
          have hq1 : at1 ≤ dc := by omega
          have hq2 : (at1 : Int) ≤ (dc : Int) := by omega
          have hq3 : (0 : Int) ≤ (at1 : Int) := by omega
          have hq4 : (at1 : Int) ≤ (A.length : Int) := by omega
          rcases hSh.out with ⟨qA, qD, qc⟩ | ⟨bo, oo, qD⟩
          · subst qA
            subst qD
            subst qc
            obtain rfl : at1 = 0 := by simpa using hat
            go_wp2_with (first | (at_builtin; go_loud (refine wpList_append_any _ rfl _ _ 34 rfl W2.heap.size 33 i0 _ 9 72 Tryd.underlying34 hi hz0 hz1 hz2 rfl (by decide) _ 0 [] rfl kO10.out wq.heap.size none 0 _ [] rfl Reads.none_ (fun _ h => by cases h) (by unfold maxLen; omega) (by omega) (by simp) ?_); intro v10 W hown10 hgr10 _) | fail)
            have hbW := below_own kO10.out (by simp) hgr10
            have hBW2 : Below W2.heap.size W2 W := ((Below.refl _ _).alloc (Nat.le_refl _) _).trans hbW
            have hzW2 := hBW2.size
            have hBW : Below w.heap.size w W := (hBw.trans (hB2.mono hz)).trans (hBW2.mono (by omega))
            have hzW : w.heap.size ≤ W.heap.size := by omega
            have hbb : b < W.heap.size := by omega
            have hBWr : Below wq.heap.size wq W := hB2.trans (hBW2.mono hz2')
            have k0 := (hBWr.cell (p := ⟨b, off + k * 9, none⟩) hbw).trans r0
            have k1 := (hBWr.cell (p := ⟨b, off + k * 9 + 1, none⟩) hbw).trans r1
            have k2 := (hBWr.cell (p := ⟨b, off + k * 9 + 2, none⟩) hbw).trans r2
            have k3 := (hBWr.cell (p := ⟨b, off + k * 9 + 3, none⟩) hbw).trans r3
            have k4 := (hBWr.cell (p := ⟨b, off + k * 9 + 4, none⟩) hbw).trans r4
            have k5 := (hBWr.cell (p := ⟨b, off + k * 9 + 5, none⟩) hbw).trans r5
            have k6 := (hBWr.cell (p := ⟨b, off + k * 9 + 6, none⟩) hbw).trans r6
            have k7 := (hBWr.cell (p := ⟨b, off + k * 9 + 7, none⟩) hbw).trans r7
            have k8 := (hBWr.cell (p := ⟨b, off + k * 9 + 8, none⟩) hbw).trans r8
            have hown11 : W.ownsRow W2.heap.size 33 9 v10 ([] : List Rt).length (rowR []) := hown10
            obtain ⟨Cr, cr, hv10, hCr, _⟩ := rights_of_owns hown11
            subst hv10
            clear hown10 hown11 hgr10 hbW hBW2 hBWr r0 r1 r2 r3 r4 r5 r6 r7 r8 kO10 hD2 hB2
            go_wp2_with fail
            refine Plan.wp_region_tree (.rd 1 (.rd 2 (.rd 3 (.rd 5 (.rd 6 (.rd 7 (.rd 8 (.rd 11 (.two 0 (.two 4 (.wr 9 (.wr 10 (.wr 12 (.rd 13 .done)))) 9 (.wr 4 (.wr 10 (.wr 12 (.rd 13 .done))))) 9 (.wr 0 (.wr 4 (.wr 10 (.wr 12 (.rd 13 .done)))))))))))))) (by kernel_rfl) (by kernel_rfl) ?_
            (repeat (first | (refine Plan.tree_read (v := ?_) rfl rfl ?_ ?_; rotate_left; (focus ((intro wS hSw; have hkS := (bcell hSw).1; try (have hkT := fun (b o : Nat) (h : b < w.heap.size) => hkS b o (by first | omega | (simp; omega) | (simp; done))); go_simp); try with_reducible rfl)); simp only [Act.put, List.setIfInBounds_toArray, List.set_cons_zero, List.set_cons_succ]) | (refine Plan.tree_skip rfl rfl ?_; simp only [Act.put, List.setIfInBounds_toArray, List.set_cons_zero, List.set_cons_succ])))
            refine Plan.tree_two rfl rfl (fun K hK => ?_) (fun K hK => ?_)
            · have kB0 : Below W.heap.size W (W.alloc (.cells #[] 33)).drew := ((Below.refl _ _).alloc (Nat.le_refl _) _).drew
              have kO0 : ((W.alloc (.cells #[] 33)).drew).ownsRow W.heap.size 33 9 (.slice (some ⟨W.heap.size, 0, none⟩) 0 0) 0 [] := (World.ownsRow_made W #[] 0 (Nat.le_refl _) (by unfold maxLen; omega) (by simp)).drew
              (try go_simp)
              (refine hK.out _ _ (kB0) ?_; clear hK K; try simp only [Act.put, List.setIfInBounds_toArray, List.set_cons_zero, List.set_cons_succ])
              (repeat (first | (refine Plan.tree_read (v := ?_) rfl rfl ?_ ?_; rotate_left; (focus ((intro wS hSw; have hkS := (bcell hSw).1; try (have hkT := fun (b o : Nat) (h : b < w.heap.size) => hkS b o (by first | omega | (simp; omega) | (simp; done))); go_simp); try with_reducible rfl)); simp only [Act.put, List.setIfInBounds_toArray, List.set_cons_zero, List.set_cons_succ]) | (refine Plan.tree_skip rfl rfl ?_; simp only [Act.put, List.setIfInBounds_toArray, List.set_cons_zero, List.set_cons_succ])))
              refine Plan.tree_two rfl rfl (fun K hK => ?_) (fun K hK => ?_)
              · refine step_append_any _ (by rfl) _ _ _ (by rfl) W.heap.size 33 i0 _ 9 72 Tryd.underlying34 hi hz0 hz1 hz2 rfl (by omega) _ (0) ([]) (by rfl) kO0 W.heap.size none 0 0 [] (by rfl) Reads.none_ (fun _ h => by cases h) (by unfold maxLen; omega) (by omega) (by simp) ?_
                intro v4 w4 hown4 hgr4 _
                have kB4 : Below W.heap.size W w4 := kB0.trans (below_own kO0 (by simp) hgr4)
                (refine hK.out _ _ (kB4) ?_; clear hK K; try simp only [Act.put, List.setIfInBounds_toArray, List.set_cons_zero, List.set_cons_succ])
                (repeat (first | (refine Plan.tree_read (v := ?_) rfl rfl ?_ ?_; rotate_left; (focus ((intro wS hSw; have hkS := (bcell hSw).1; try (have hkT := fun (b o : Nat) (h : b < w.heap.size) => hkS b o (by first | omega | (simp; omega) | (simp; done))); go_simp); try with_reducible rfl)); simp only [Act.put, List.setIfInBounds_toArray, List.set_cons_zero, List.set_cons_succ]) | (refine Plan.tree_skip rfl rfl ?_; simp only [Act.put, List.setIfInBounds_toArray, List.set_cons_zero, List.set_cons_succ])))
                (refine Plan.tree_write rfl (fun K hK => ?_); try go_simp)
                have kB6 : Below W.heap.size W (w4.alloc (.cells e.cells.toArray 33)) := kB4.alloc kB4.size _
                have kO6 : (w4.alloc (.cells e.cells.toArray 33)).ownsRow W.heap.size 33 9 v4 (0 + 0) ([] ++ []) := hown4.alloc _
                have kR6 : Reads (w4.alloc (.cells e.cells.toArray 33)) (w4.heap.size + 1) 9 (some ⟨w4.heap.size, 0, none⟩) 1 e.cells := ⟨rfl, fun _ => ⟨_, rfl, Nat.lt_succ_self _, cells_at rfl _ _⟩⟩
                (refine hK.out _ _ (kB6) ?_; clear hK K; try simp only [Act.put, List.setIfInBounds_toArray, List.set_cons_zero, List.set_cons_succ])
                (repeat (first | (refine Plan.tree_read (v := ?_) rfl rfl ?_ ?_; rotate_left; (focus ((intro wS hSw; have hkS := (bcell hSw).1; try (have hkT := fun (b o : Nat) (h : b < w.heap.size) => hkS b o (by first | omega | (simp; omega) | (simp; done))); go_simp); try with_reducible rfl)); simp only [Act.put, List.setIfInBounds_toArray, List.set_cons_zero, List.set_cons_succ]) | (refine Plan.tree_skip rfl rfl ?_; simp only [Act.put, List.setIfInBounds_toArray, List.set_cons_zero, List.set_cons_succ])))
                refine Plan.tree_write rfl (fun K hK => ?_)
                refine step_append_any _ (by rfl) _ _ _ (by rfl) W.heap.size 33 i0 _ 9 72 Tryd.underlying34 hi hz0 hz1 hz2 rfl (by omega) v4 (0 + 0) ([] ++ []) (by rfl) kO6 (w4.heap.size + 1) (some ⟨w4.heap.size, 0, none⟩) 1 1 e.cells (by rfl) kR6 (rt_one e) (by unfold maxLen; omega) (by omega) kB6.size ?_
                intro v7 w7 hown7 hgr7 _
                have kB7 : Below W.heap.size W w7 := kB6.trans (below_own kO6 kB6.size hgr7)
                (refine hK.out _ _ (kB7) ?_; clear hK K; try simp only [Act.put, List.setIfInBounds_toArray, List.set_cons_zero, List.set_cons_succ])
                (repeat (first | (refine Plan.tree_read (v := ?_) rfl rfl ?_ ?_; rotate_left; (focus ((intro wS hSw; have hkS := (bcell hSw).1; try (have hkT := fun (b o : Nat) (h : b < w.heap.size) => hkS b o (by first | omega | (simp; omega) | (simp; done))); go_simp); try with_reducible rfl)); simp only [Act.put, List.setIfInBounds_toArray, List.set_cons_zero, List.set_cons_succ]) | (refine Plan.tree_skip rfl rfl ?_; simp only [Act.put, List.setIfInBounds_toArray, List.set_cons_zero, List.set_cons_succ])))
                refine Plan.tree_write rfl (fun K hK => ?_)
                refine step_append_any _ (by rfl) _ _ _ (by rfl) W.heap.size 33 i0 _ 9 72 Tryd.underlying34 hi hz0 hz1 hz2 rfl (by omega) v7 (0 + 0 + 1) ([] ++ [] ++ e.cells) (by rfl) hown7 W.heap.size Cr 0 cr (rowR []) (by rfl) (reads_rights (hCr.below kB7)) (rowR_one _) (by unfold maxLen; omega) (by omega) kB7.size ?_
                intro v9 w9 hown9 hgr9 _
                have kB9 : Below W.heap.size W w9 := kB7.trans (below_own hown7 kB7.size hgr9)
                clear kB0 kO0 kB4 hown4 hgr4 kB6 kO6 kR6 kB7 hown7 hgr7 hgr9
                (refine hK.out _ _ (kB9) ?_; clear hK K; try simp only [Act.put, List.setIfInBounds_toArray, List.set_cons_zero, List.set_cons_succ])
                (repeat (first | (refine Plan.tree_read (v := ?_) rfl rfl ?_ ?_; rotate_left; (focus ((intro wS hSw; have hkS := (bcell hSw).1; try (have hkT := fun (b o : Nat) (h : b < w.heap.size) => hkS b o (by first | omega | (simp; omega) | (simp; done))); go_simp); try with_reducible rfl)); simp only [Act.put, List.setIfInBounds_toArray, List.set_cons_zero, List.set_cons_succ]) | (refine Plan.tree_skip rfl rfl ?_; simp only [Act.put, List.setIfInBounds_toArray, List.set_cons_zero, List.set_cons_succ])))
                refine Plan.tree_done ?_
                have hown8 : w9.ownsRow W.heap.size 33 9 v9 [e].length (rowR [e]) := by simpa [rowR] using hown9
                obtain ⟨D9, c9, he9, hD9, hF9⟩ := rights_of_owns hown8
                have hcap9 := owns_cap hown8 he9
                subst he9
                have HE9 := Lib.hid hD9
                have hbF : Below w.heap.size w w9 := hBW.trans (kB9.mono hzW)
                clear hown9 hown8 hD9 kB9 hF9
                go_wp2_with fail
                go_roundw
                case rel =>
                  have hsh9 : ([e] = [] ∧ D9 = none ∧ c9 = 0) ∨ ∃ bq oq, D9 = some ⟨bq, oq, none⟩ := Or.inr (by obtain ⟨b, o, hq, _⟩ := HE9.out (by simp); exact ⟨b, o, hq⟩)
                  refine ⟨k + 1, D9, c9, [e], by omega, by go_num, rfl, ?_, hcap9, HE9.out, hbF, hbF.size, hsh9⟩
                  show _ = _
                  rw [hstep.out k e HX.out, ← hA.out, ST.merge_nil_left]
                case measure => simp [intOf]; omega
              · (try go_simp)
                have kO1 := kO0
                have kB1 := kB0
                clear kO0 kB0
                have kB0 : Below W.heap.size W ((W.alloc (.cells #[] 33)).alloc (.cells e.cells.toArray 33)).drew := (((Below.refl _ _).alloc (Nat.le_refl _) _).alloc (by simp) _).drew
                have kO0 : (((W.alloc (.cells #[] 33)).alloc (.cells e.cells.toArray 33)).drew).ownsRow W.heap.size 33 9 (.slice (some ⟨W.heap.size, 0, none⟩) 0 0) 0 [] := ((World.ownsRow_made W #[] 0 (Nat.le_refl _) (by unfold maxLen; omega) (by simp)).alloc _).drew
                have kR6 : Reads (((W.alloc (.cells #[] 33)).alloc (.cells e.cells.toArray 33)).drew) (W.heap.size + 1 + 1) 9 (some ⟨W.heap.size + 1, 0, none⟩) 1 e.cells := ⟨rfl, fun _ => ⟨_, rfl, Nat.lt_succ_self _, cells_at (w := W.alloc (.cells #[] 33)) (by simp) _ _⟩⟩
                (refine hK.out _ _ (kB0) ?_; clear hK K; try simp only [Act.put, List.setIfInBounds_toArray, List.set_cons_zero, List.set_cons_succ])
                (repeat (first | (refine Plan.tree_read (v := ?_) rfl rfl ?_ ?_; rotate_left; (focus ((intro wS hSw; have hkS := (bcell hSw).1; try (have hkT := fun (b o : Nat) (h : b < w.heap.size) => hkS b o (by first | omega | (simp; omega) | (simp; done))); go_simp); try with_reducible rfl)); simp only [Act.put, List.setIfInBounds_toArray, List.set_cons_zero, List.set_cons_succ]) | (refine Plan.tree_skip rfl rfl ?_; simp only [Act.put, List.setIfInBounds_toArray, List.set_cons_zero, List.set_cons_succ])))
                refine Plan.tree_write rfl (fun K hK => ?_)
                refine step_append_any _ (by rfl) _ _ _ (by rfl) W.heap.size 33 i0 _ 9 72 Tryd.underlying34 hi hz0 hz1 hz2 rfl (by omega) _ (0) ([]) (by rfl) kO0 W.heap.size none 0 0 [] (by rfl) Reads.none_ (fun _ h => by cases h) (by unfold maxLen; omega) (by omega) kB0.size ?_
                intro v4 w4 hown4 hgr4 _
                have kB4 : Below W.heap.size W w4 := kB0.trans (below_own kO0 kB0.size hgr4)
                have kR4 : Reads w4 w4.heap.size 9 (some ⟨W.heap.size + 1, 0, none⟩) 1 e.cells := kR6.grown_off (by simp) hgr4 (by simp [Value.ownBlock])
                (refine hK.out _ _ (kB4) ?_; clear hK K; try simp only [Act.put, List.setIfInBounds_toArray, List.set_cons_zero, List.set_cons_succ])
                (repeat (first | (refine Plan.tree_read (v := ?_) rfl rfl ?_ ?_; rotate_left; (focus ((intro wS hSw; have hkS := (bcell hSw).1; try (have hkT := fun (b o : Nat) (h : b < w.heap.size) => hkS b o (by first | omega | (simp; omega) | (simp; done))); go_simp); try with_reducible rfl)); simp only [Act.put, List.setIfInBounds_toArray, List.set_cons_zero, List.set_cons_succ]) | (refine Plan.tree_skip rfl rfl ?_; simp only [Act.put, List.setIfInBounds_toArray, List.set_cons_zero, List.set_cons_succ])))
                refine Plan.tree_write rfl (fun K hK => ?_)
                refine step_append_any _ (by rfl) _ _ _ (by rfl) W.heap.size 33 i0 _ 9 72 Tryd.underlying34 hi hz0 hz1 hz2 rfl (by omega) v4 (0 + 0) ([] ++ []) (by rfl) hown4 w4.heap.size (some ⟨W.heap.size + 1, 0, none⟩) 1 1 e.cells (by rfl) kR4 (rt_one e) (by unfold maxLen; omega) (by omega) kB4.size ?_
                intro v7 w7 hown7 hgr7 _
                have kB7 : Below W.heap.size W w7 := kB4.trans (below_own hown4 kB4.size hgr7)
                (refine hK.out _ _ (kB7) ?_; clear hK K; try simp only [Act.put, List.setIfInBounds_toArray, List.set_cons_zero, List.set_cons_succ])
                (repeat (first | (refine Plan.tree_read (v := ?_) rfl rfl ?_ ?_; rotate_left; (focus ((intro wS hSw; have hkS := (bcell hSw).1; try (have hkT := fun (b o : Nat) (h : b < w.heap.size) => hkS b o (by first | omega | (simp; omega) | (simp; done))); go_simp); try with_reducible rfl)); simp only [Act.put, List.setIfInBounds_toArray, List.set_cons_zero, List.set_cons_succ]) | (refine Plan.tree_skip rfl rfl ?_; simp only [Act.put, List.setIfInBounds_toArray, List.set_cons_zero, List.set_cons_succ])))
                refine Plan.tree_write rfl (fun K hK => ?_)
                refine step_append_any _ (by rfl) _ _ _ (by rfl) W.heap.size 33 i0 _ 9 72 Tryd.underlying34 hi hz0 hz1 hz2 rfl (by omega) v7 (0 + 0 + 1) ([] ++ [] ++ e.cells) (by rfl) hown7 W.heap.size Cr 0 cr (rowR []) (by rfl) (reads_rights (hCr.below kB7)) (rowR_one _) (by unfold maxLen; omega) (by omega) kB7.size ?_
                intro v9 w9 hown9 hgr9 _
                have kB9 : Below W.heap.size W w9 := kB7.trans (below_own hown7 kB7.size hgr9)
                clear kB0 kO0 kB4 hown4 hgr4 kR6 kR4 kB7 hown7 hgr7 hgr9
                (refine hK.out _ _ (kB9) ?_; clear hK K; try simp only [Act.put, List.setIfInBounds_toArray, List.set_cons_zero, List.set_cons_succ])
                (repeat (first | (refine Plan.tree_read (v := ?_) rfl rfl ?_ ?_; rotate_left; (focus ((intro wS hSw; have hkS := (bcell hSw).1; try (have hkT := fun (b o : Nat) (h : b < w.heap.size) => hkS b o (by first | omega | (simp; omega) | (simp; done))); go_simp); try with_reducible rfl)); simp only [Act.put, List.setIfInBounds_toArray, List.set_cons_zero, List.set_cons_succ]) | (refine Plan.tree_skip rfl rfl ?_; simp only [Act.put, List.setIfInBounds_toArray, List.set_cons_zero, List.set_cons_succ])))
                refine Plan.tree_done ?_
                have hown8 : w9.ownsRow W.heap.size 33 9 v9 [e].length (rowR [e]) := by simpa [rowR] using hown9
                obtain ⟨D9, c9, he9, hD9, hF9⟩ := rights_of_owns hown8
                have hcap9 := owns_cap hown8 he9
                subst he9
                have HE9 := Lib.hid hD9
                have hbF : Below w.heap.size w w9 := hBW.trans (kB9.mono hzW)
                clear hown9 hown8 hD9 kB9 hF9
                go_wp2_with fail
                go_roundw
                case rel =>
                  have hsh9 : ([e] = [] ∧ D9 = none ∧ c9 = 0) ∨ ∃ bq oq, D9 = some ⟨bq, oq, none⟩ := Or.inr (by obtain ⟨b, o, hq, _⟩ := HE9.out (by simp); exact ⟨b, o, hq⟩)
                  refine ⟨k + 1, D9, c9, [e], by omega, by go_num, rfl, ?_, hcap9, HE9.out, hbF, hbF.size, hsh9⟩
                  show _ = _
                  rw [hstep.out k e HX.out, ← hA.out, ST.merge_nil_left]
                case measure => simp [intOf]; omega
            · (try go_simp)
              have kB0 : Below W.heap.size W (W.alloc (.cells e.cells.toArray 33)).drew := ((Below.refl _ _).alloc (Nat.le_refl _) _).drew
              (refine hK.out _ _ (kB0) ?_; clear hK K; try simp only [Act.put, List.setIfInBounds_toArray, List.set_cons_zero, List.set_cons_succ])
              (repeat (first | (refine Plan.tree_read (v := ?_) rfl rfl ?_ ?_; rotate_left; (focus ((intro wS hSw; have hkS := (bcell hSw).1; try (have hkT := fun (b o : Nat) (h : b < w.heap.size) => hkS b o (by first | omega | (simp; omega) | (simp; done))); go_simp); try with_reducible rfl)); simp only [Act.put, List.setIfInBounds_toArray, List.set_cons_zero, List.set_cons_succ]) | (refine Plan.tree_skip rfl rfl ?_; simp only [Act.put, List.setIfInBounds_toArray, List.set_cons_zero, List.set_cons_succ])))
              (refine Plan.tree_write rfl (fun K hK => ?_); try go_simp)
              have kB1 := kB0
              clear kB0
              have kB0 : Below W.heap.size W ((W.alloc (.cells e.cells.toArray 33)).alloc (.cells #[] 33)).drew := (((Below.refl _ _).alloc (Nat.le_refl _) _).alloc (by simp) _).drew
              have kO0 : (((W.alloc (.cells e.cells.toArray 33)).alloc (.cells #[] 33)).drew).ownsRow W.heap.size 33 9 (.slice (some ⟨W.heap.size + 1, 0, none⟩) 0 0) 0 [] := by
                have h := (World.ownsRow_made (size := 9) (base := W.heap.size) (e := 33) (W.alloc (.cells e.cells.toArray 33)) #[] 0 (by simp) (by unfold maxLen; omega) (by simp)).drew
                rw [World.size_alloc] at h
                exact h
              have kR6 : Reads (((W.alloc (.cells e.cells.toArray 33)).alloc (.cells #[] 33)).drew) (W.heap.size + 1) 9 (some ⟨W.heap.size, 0, none⟩) 1 e.cells := ⟨rfl, fun _ => ⟨_, rfl, Nat.lt_succ_self _, fun j u hj => by
                have := cells_at (w := W) rfl 33 e.cells j u hj
                rw [← this]
                exact World.cell?_alloc_lt (W.alloc (.cells e.cells.toArray 33)) _ _ (by rw [block_of_add]; simp)⟩⟩
              (refine hK.out _ _ (kB0) ?_; clear hK K; try simp only [Act.put, List.setIfInBounds_toArray, List.set_cons_zero, List.set_cons_succ])
              (repeat (first | (refine Plan.tree_read (v := ?_) rfl rfl ?_ ?_; rotate_left; (focus ((intro wS hSw; have hkS := (bcell hSw).1; try (have hkT := fun (b o : Nat) (h : b < w.heap.size) => hkS b o (by first | omega | (simp; omega) | (simp; done))); go_simp); try with_reducible rfl)); simp only [Act.put, List.setIfInBounds_toArray, List.set_cons_zero, List.set_cons_succ]) | (refine Plan.tree_skip rfl rfl ?_; simp only [Act.put, List.setIfInBounds_toArray, List.set_cons_zero, List.set_cons_succ])))
              refine Plan.tree_write rfl (fun K hK => ?_)
              refine step_append_any _ (by rfl) _ _ _ (by rfl) W.heap.size 33 i0 _ 9 72 Tryd.underlying34 hi hz0 hz1 hz2 rfl (by omega) _ (0) ([]) (by rfl) kO0 W.heap.size none 0 0 [] (by rfl) Reads.none_ (fun _ h => by cases h) (by unfold maxLen; omega) (by omega) kB0.size ?_
              intro v4 w4 hown4 hgr4 _
              have kB4 : Below W.heap.size W w4 := kB0.trans (below_own kO0 kB0.size hgr4)
              have kR4 : Reads w4 w4.heap.size 9 (some ⟨W.heap.size, 0, none⟩) 1 e.cells := kR6.grown_off (by simp) hgr4 (by simp [Value.ownBlock])
              (refine hK.out _ _ (kB4) ?_; clear hK K; try simp only [Act.put, List.setIfInBounds_toArray, List.set_cons_zero, List.set_cons_succ])
              (repeat (first | (refine Plan.tree_read (v := ?_) rfl rfl ?_ ?_; rotate_left; (focus ((intro wS hSw; have hkS := (bcell hSw).1; try (have hkT := fun (b o : Nat) (h : b < w.heap.size) => hkS b o (by first | omega | (simp; omega) | (simp; done))); go_simp); try with_reducible rfl)); simp only [Act.put, List.setIfInBounds_toArray, List.set_cons_zero, List.set_cons_succ]) | (refine Plan.tree_skip rfl rfl ?_; simp only [Act.put, List.setIfInBounds_toArray, List.set_cons_zero, List.set_cons_succ])))
              refine Plan.tree_write rfl (fun K hK => ?_)
              refine step_append_any _ (by rfl) _ _ _ (by rfl) W.heap.size 33 i0 _ 9 72 Tryd.underlying34 hi hz0 hz1 hz2 rfl (by omega) v4 (0 + 0) ([] ++ []) (by rfl) hown4 w4.heap.size (some ⟨W.heap.size, 0, none⟩) 1 1 e.cells (by rfl) kR4 (rt_one e) (by unfold maxLen; omega) (by omega) kB4.size ?_
              intro v7 w7 hown7 hgr7 _
              have kB7 : Below W.heap.size W w7 := kB4.trans (below_own hown4 kB4.size hgr7)
              (refine hK.out _ _ (kB7) ?_; clear hK K; try simp only [Act.put, List.setIfInBounds_toArray, List.set_cons_zero, List.set_cons_succ])
              (repeat (first | (refine Plan.tree_read (v := ?_) rfl rfl ?_ ?_; rotate_left; (focus ((intro wS hSw; have hkS := (bcell hSw).1; try (have hkT := fun (b o : Nat) (h : b < w.heap.size) => hkS b o (by first | omega | (simp; omega) | (simp; done))); go_simp); try with_reducible rfl)); simp only [Act.put, List.setIfInBounds_toArray, List.set_cons_zero, List.set_cons_succ]) | (refine Plan.tree_skip rfl rfl ?_; simp only [Act.put, List.setIfInBounds_toArray, List.set_cons_zero, List.set_cons_succ])))
              refine Plan.tree_write rfl (fun K hK => ?_)
              refine step_append_any _ (by rfl) _ _ _ (by rfl) W.heap.size 33 i0 _ 9 72 Tryd.underlying34 hi hz0 hz1 hz2 rfl (by omega) v7 (0 + 0 + 1) ([] ++ [] ++ e.cells) (by rfl) hown7 W.heap.size Cr 0 cr (rowR []) (by rfl) (reads_rights (hCr.below kB7)) (rowR_one _) (by unfold maxLen; omega) (by omega) kB7.size ?_
              intro v9 w9 hown9 hgr9 _
              have kB9 : Below W.heap.size W w9 := kB7.trans (below_own hown7 kB7.size hgr9)
              clear kB0 kO0 kB4 hown4 hgr4 kR6 kR4 kB7 hown7 hgr7 hgr9
              (refine hK.out _ _ (kB9) ?_; clear hK K; try simp only [Act.put, List.setIfInBounds_toArray, List.set_cons_zero, List.set_cons_succ])
              (repeat (first | (refine Plan.tree_read (v := ?_) rfl rfl ?_ ?_; rotate_left; (focus ((intro wS hSw; have hkS := (bcell hSw).1; try (have hkT := fun (b o : Nat) (h : b < w.heap.size) => hkS b o (by first | omega | (simp; omega) | (simp; done))); go_simp); try with_reducible rfl)); simp only [Act.put, List.setIfInBounds_toArray, List.set_cons_zero, List.set_cons_succ]) | (refine Plan.tree_skip rfl rfl ?_; simp only [Act.put, List.setIfInBounds_toArray, List.set_cons_zero, List.set_cons_succ])))
              refine Plan.tree_done ?_
              have hown8 : w9.ownsRow W.heap.size 33 9 v9 [e].length (rowR [e]) := by simpa [rowR] using hown9
              obtain ⟨D9, c9, he9, hD9, hF9⟩ := rights_of_owns hown8
              have hcap9 := owns_cap hown8 he9
              subst he9
              have HE9 := Lib.hid hD9
              have hbF : Below w.heap.size w w9 := hBW.trans (kB9.mono hzW)
              clear hown9 hown8 hD9 kB9 hF9
              go_wp2_with fail
              go_roundw
              case rel =>
                have hsh9 : ([e] = [] ∧ D9 = none ∧ c9 = 0) ∨ ∃ bq oq, D9 = some ⟨bq, oq, none⟩ := Or.inr (by obtain ⟨b, o, hq, _⟩ := HE9.out (by simp); exact ⟨b, o, hq⟩)
                refine ⟨k + 1, D9, c9, [e], by omega, by go_num, rfl, ?_, hcap9, HE9.out, hbF, hbF.size, hsh9⟩
                show _ = _
                rw [hstep.out k e HX.out, ← hA.out, ST.merge_nil_left]
              case measure => simp [intOf]; omega
          · subst qD
            rcases Nat.lt_or_ge at1 dc with hdc | hdc
            · have hdc2 : ¬ dc = at1 := by omega
              have hQ : RightsAt W2 wq.heap.size (some ⟨bo, oo + at1 * 9, none⟩) (A.drop at1) := by have := rights_drop hD2 (k := at1) (cf := dc) hat hcap; rwa [if_neg hdc2] at this
              have R10 := Lib.hid (fun (wx : World) (hb : Below W2.heap.size W2 wx) => reads_rights (hQ.below (hb.mono (by omega))))
              go_wp2_with (first | (at_builtin; go_loud (refine wpList_append_any _ rfl _ _ 34 rfl W2.heap.size 33 i0 _ 9 72 Tryd.underlying34 hi hz0 hz1 hz2 rfl (by decide) _ 0 [] rfl kO10.out wq.heap.size (some ⟨bo, oo + at1 * 9, none⟩) (A.length - at1) _ (rowR (A.drop at1)) rfl (by have := R10.out (W2.alloc (.cells #[] 33)) ((Below.refl _ _).alloc (Nat.le_refl _) _); rw [HDL.out] at this; exact this) (rowR_one _) (by unfold maxLen; omega) (by omega) (by simp) ?_); intro v10 W hown10 hgr10 _) | fail)
              have hbW := below_own kO10.out (by simp) hgr10
              have hBW2 : Below W2.heap.size W2 W := ((Below.refl _ _).alloc (Nat.le_refl _) _).trans hbW
              have hzW2 := hBW2.size
              have hBW : Below w.heap.size w W := (hBw.trans (hB2.mono hz)).trans (hBW2.mono (by omega))
              have hzW : w.heap.size ≤ W.heap.size := by omega
              have hbb : b < W.heap.size := by omega
              have hBWr : Below wq.heap.size wq W := hB2.trans (hBW2.mono hz2')
              have k0 := (hBWr.cell (p := ⟨b, off + k * 9, none⟩) hbw).trans r0
              have k1 := (hBWr.cell (p := ⟨b, off + k * 9 + 1, none⟩) hbw).trans r1
              have k2 := (hBWr.cell (p := ⟨b, off + k * 9 + 2, none⟩) hbw).trans r2
              have k3 := (hBWr.cell (p := ⟨b, off + k * 9 + 3, none⟩) hbw).trans r3
              have k4 := (hBWr.cell (p := ⟨b, off + k * 9 + 4, none⟩) hbw).trans r4
              have k5 := (hBWr.cell (p := ⟨b, off + k * 9 + 5, none⟩) hbw).trans r5
              have k6 := (hBWr.cell (p := ⟨b, off + k * 9 + 6, none⟩) hbw).trans r6
              have k7 := (hBWr.cell (p := ⟨b, off + k * 9 + 7, none⟩) hbw).trans r7
              have k8 := (hBWr.cell (p := ⟨b, off + k * 9 + 8, none⟩) hbw).trans r8
              have hTk : RightsAt W W.heap.size (some ⟨bo, oo, none⟩) (A.take at1) := ((rights_take hD2 at1).below (hBW2.mono (by omega))).more (by omega)
              have hown11 : W.ownsRow W2.heap.size 33 9 v10 (A.drop at1).length (rowR (A.drop at1)) := by have h := hown10; rw [List.nil_append, Nat.zero_add] at h; rw [HDL.out]; exact h
              obtain ⟨Cr, cr, hv10, hCr, _⟩ := rights_of_owns hown11
              subst hv10
              clear hown10 hown11 hgr10 hbW hBW2 hBWr r0 r1 r2 r3 r4 r5 r6 r7 r8 hQ R10 kO10 hD2 hB2
              go_wp2_with fail
              refine Plan.wp_region_tree (.rd 1 (.rd 2 (.rd 3 (.rd 5 (.rd 6 (.rd 7 (.rd 8 (.rd 11 (.two 0 (.two 4 (.wr 9 (.wr 10 (.wr 12 (.rd 13 .done)))) 9 (.wr 4 (.wr 10 (.wr 12 (.rd 13 .done))))) 9 (.wr 0 (.wr 4 (.wr 10 (.wr 12 (.rd 13 .done)))))))))))))) (by kernel_rfl) (by kernel_rfl) ?_
              (repeat (first | (refine Plan.tree_read (v := ?_) rfl rfl ?_ ?_; rotate_left; (focus ((intro wS hSw; have hkS := (bcell hSw).1; try (have hkT := fun (b o : Nat) (h : b < w.heap.size) => hkS b o (by first | omega | (simp; omega) | (simp; done))); go_simp); try with_reducible rfl)); simp only [Act.put, List.setIfInBounds_toArray, List.set_cons_zero, List.set_cons_succ]) | (refine Plan.tree_skip rfl rfl ?_; simp only [Act.put, List.setIfInBounds_toArray, List.set_cons_zero, List.set_cons_succ])))
              refine Plan.tree_two rfl rfl (fun K hK => ?_) (fun K hK => ?_)
              · have kB0 : Below W.heap.size W (W.alloc (.cells #[] 33)).drew := ((Below.refl _ _).alloc (Nat.le_refl _) _).drew
                have kO0 : ((W.alloc (.cells #[] 33)).drew).ownsRow W.heap.size 33 9 (.slice (some ⟨W.heap.size, 0, none⟩) 0 0) 0 [] := (World.ownsRow_made W #[] 0 (Nat.le_refl _) (by unfold maxLen; omega) (by simp)).drew
                (try go_simp)
                (refine hK.out _ _ (kB0) ?_; clear hK K; try simp only [Act.put, List.setIfInBounds_toArray, List.set_cons_zero, List.set_cons_succ])
                (repeat (first | (refine Plan.tree_read (v := ?_) rfl rfl ?_ ?_; rotate_left; (focus ((intro wS hSw; have hkS := (bcell hSw).1; try (have hkT := fun (b o : Nat) (h : b < w.heap.size) => hkS b o (by first | omega | (simp; omega) | (simp; done))); go_simp); try with_reducible rfl)); simp only [Act.put, List.setIfInBounds_toArray, List.set_cons_zero, List.set_cons_succ]) | (refine Plan.tree_skip rfl rfl ?_; simp only [Act.put, List.setIfInBounds_toArray, List.set_cons_zero, List.set_cons_succ])))
                refine Plan.tree_two rfl rfl (fun K hK => ?_) (fun K hK => ?_)
                · refine step_append_any _ (by rfl) _ _ _ (by rfl) W.heap.size 33 i0 _ 9 72 Tryd.underlying34 hi hz0 hz1 hz2 rfl (by omega) _ (0) ([]) (by rfl) kO0 W.heap.size (some ⟨bo, oo, none⟩) at1 dc (rowR (A.take at1)) (by rfl) (by have := reads_rights (hTk.below kB0); rw [HTL.out] at this; exact this) (rowR_one _) (by unfold maxLen; omega) (by omega) (by simp) ?_
                  intro v4 w4 hown4 hgr4 _
                  have kB4 : Below W.heap.size W w4 := kB0.trans (below_own kO0 (by simp) hgr4)
                  (refine hK.out _ _ (kB4) ?_; clear hK K; try simp only [Act.put, List.setIfInBounds_toArray, List.set_cons_zero, List.set_cons_succ])
                  (repeat (first | (refine Plan.tree_read (v := ?_) rfl rfl ?_ ?_; rotate_left; (focus ((intro wS hSw; have hkS := (bcell hSw).1; try (have hkT := fun (b o : Nat) (h : b < w.heap.size) => hkS b o (by first | omega | (simp; omega) | (simp; done))); go_simp); try with_reducible rfl)); simp only [Act.put, List.setIfInBounds_toArray, List.set_cons_zero, List.set_cons_succ]) | (refine Plan.tree_skip rfl rfl ?_; simp only [Act.put, List.setIfInBounds_toArray, List.set_cons_zero, List.set_cons_succ])))
                  (refine Plan.tree_write rfl (fun K hK => ?_); try go_simp)
                  have kB6 : Below W.heap.size W (w4.alloc (.cells e.cells.toArray 33)) := kB4.alloc kB4.size _
                  have kO6 : (w4.alloc (.cells e.cells.toArray 33)).ownsRow W.heap.size 33 9 v4 (0 + at1) ([] ++ rowR (A.take at1)) := hown4.alloc _
                  have kR6 : Reads (w4.alloc (.cells e.cells.toArray 33)) (w4.heap.size + 1) 9 (some ⟨w4.heap.size, 0, none⟩) 1 e.cells := ⟨rfl, fun _ => ⟨_, rfl, Nat.lt_succ_self _, cells_at rfl _ _⟩⟩
                  (refine hK.out _ _ (kB6) ?_; clear hK K; try simp only [Act.put, List.setIfInBounds_toArray, List.set_cons_zero, List.set_cons_succ])
                  (repeat (first | (refine Plan.tree_read (v := ?_) rfl rfl ?_ ?_; rotate_left; (focus ((intro wS hSw; have hkS := (bcell hSw).1; try (have hkT := fun (b o : Nat) (h : b < w.heap.size) => hkS b o (by first | omega | (simp; omega) | (simp; done))); go_simp); try with_reducible rfl)); simp only [Act.put, List.setIfInBounds_toArray, List.set_cons_zero, List.set_cons_succ]) | (refine Plan.tree_skip rfl rfl ?_; simp only [Act.put, List.setIfInBounds_toArray, List.set_cons_zero, List.set_cons_succ])))
                  refine Plan.tree_write rfl (fun K hK => ?_)
                  refine step_append_any _ (by rfl) _ _ _ (by rfl) W.heap.size 33 i0 _ 9 72 Tryd.underlying34 hi hz0 hz1 hz2 rfl (by omega) v4 (0 + at1) ([] ++ rowR (A.take at1)) (by rfl) kO6 (w4.heap.size + 1) (some ⟨w4.heap.size, 0, none⟩) 1 1 e.cells (by rfl) kR6 (rt_one e) (by unfold maxLen; omega) (by omega) kB6.size ?_
                  intro v7 w7 hown7 hgr7 _
                  have kB7 : Below W.heap.size W w7 := kB6.trans (below_own kO6 kB6.size hgr7)
                  (refine hK.out _ _ (kB7) ?_; clear hK K; try simp only [Act.put, List.setIfInBounds_toArray, List.set_cons_zero, List.set_cons_succ])
                  (repeat (first | (refine Plan.tree_read (v := ?_) rfl rfl ?_ ?_; rotate_left; (focus ((intro wS hSw; have hkS := (bcell hSw).1; try (have hkT := fun (b o : Nat) (h : b < w.heap.size) => hkS b o (by first | omega | (simp; omega) | (simp; done))); go_simp); try with_reducible rfl)); simp only [Act.put, List.setIfInBounds_toArray, List.set_cons_zero, List.set_cons_succ]) | (refine Plan.tree_skip rfl rfl ?_; simp only [Act.put, List.setIfInBounds_toArray, List.set_cons_zero, List.set_cons_succ])))
                  refine Plan.tree_write rfl (fun K hK => ?_)
                  refine step_append_any _ (by rfl) _ _ _ (by rfl) W.heap.size 33 i0 _ 9 72 Tryd.underlying34 hi hz0 hz1 hz2 rfl (by omega) v7 (0 + at1 + 1) ([] ++ rowR (A.take at1) ++ e.cells) (by rfl) hown7 W.heap.size Cr (A.length - at1) cr (rowR (A.drop at1)) (by rfl) (by have := reads_rights (hCr.below kB7); rw [HDL.out] at this; exact this) (rowR_one _) (by unfold maxLen; omega) (by omega) kB7.size ?_
                  intro v9 w9 hown9 hgr9 _
                  have kB9 : Below W.heap.size W w9 := kB7.trans (below_own hown7 kB7.size hgr9)
                  clear kB0 kO0 kB4 hown4 hgr4 kB6 kO6 kR6 kB7 hown7 hgr7 hgr9
                  (refine hK.out _ _ (kB9) ?_; clear hK K; try simp only [Act.put, List.setIfInBounds_toArray, List.set_cons_zero, List.set_cons_succ])
                  (repeat (first | (refine Plan.tree_read (v := ?_) rfl rfl ?_ ?_; rotate_left; (focus ((intro wS hSw; have hkS := (bcell hSw).1; try (have hkT := fun (b o : Nat) (h : b < w.heap.size) => hkS b o (by first | omega | (simp; omega) | (simp; done))); go_simp); try with_reducible rfl)); simp only [Act.put, List.setIfInBounds_toArray, List.set_cons_zero, List.set_cons_succ]) | (refine Plan.tree_skip rfl rfl ?_; simp only [Act.put, List.setIfInBounds_toArray, List.set_cons_zero, List.set_cons_succ])))
                  refine Plan.tree_done ?_
                  rw [List.nil_append, ← rowR_snoc, ← rowR_append] at hown9
                  have hlenF : (0 + at1 + 1 + (A.length - at1)) = (A.take at1 ++ [e] ++ A.drop at1).length := by simp; omega
                  rw [hlenF] at hown9
                  obtain ⟨D9, c9, he9, hD9, hF9⟩ := rights_of_owns hown9
                  have hcap9 := owns_cap hown9 he9
                  subst he9
                  have HE9 := Lib.hid hD9
                  have hbF : Below w.heap.size w w9 := hBW.trans (kB9.mono hzW)
                  clear hown9 hD9 kB9 hF9 hlenF
                  go_wp2_with fail
                  go_roundw
                  case rel =>
                    have hsh9 : (A.take at1 ++ [e] ++ A.drop at1 = [] ∧ D9 = none ∧ c9 = 0) ∨ ∃ bq oq, D9 = some ⟨bq, oq, none⟩ := Or.inr (by obtain ⟨b, o, hq, _⟩ := HE9.out (by simp; omega); exact ⟨b, o, hq⟩)
                    refine ⟨k + 1, D9, c9, A.take at1 ++ [e] ++ A.drop at1, by omega, by go_num, rfl, ?_, hcap9, HE9.out, hbF, hbF.size, hsh9⟩
                    show _ = _
                    rw [hstep.out k e HX.out, ← hA.out, HM.out, List.append_assoc]
                    rfl
                  case measure => simp [intOf]; omega
                · (try go_simp)
                  have kO1 := kO0
                  have kB1 := kB0
                  clear kO0 kB0
                  have kB0 : Below W.heap.size W ((W.alloc (.cells #[] 33)).alloc (.cells e.cells.toArray 33)).drew := (((Below.refl _ _).alloc (Nat.le_refl _) _).alloc (by simp) _).drew
                  have kO0 : (((W.alloc (.cells #[] 33)).alloc (.cells e.cells.toArray 33)).drew).ownsRow W.heap.size 33 9 (.slice (some ⟨W.heap.size, 0, none⟩) 0 0) 0 [] := ((World.ownsRow_made W #[] 0 (Nat.le_refl _) (by unfold maxLen; omega) (by simp)).alloc _).drew
                  have kR6 : Reads (((W.alloc (.cells #[] 33)).alloc (.cells e.cells.toArray 33)).drew) (W.heap.size + 1 + 1) 9 (some ⟨W.heap.size + 1, 0, none⟩) 1 e.cells := ⟨rfl, fun _ => ⟨_, rfl, Nat.lt_succ_self _, cells_at (w := W.alloc (.cells #[] 33)) (by simp) _ _⟩⟩
                  (refine hK.out _ _ (kB0) ?_; clear hK K; try simp only [Act.put, List.setIfInBounds_toArray, List.set_cons_zero, List.set_cons_succ])
                  (repeat (first | (refine Plan.tree_read (v := ?_) rfl rfl ?_ ?_; rotate_left; (focus ((intro wS hSw; have hkS := (bcell hSw).1; try (have hkT := fun (b o : Nat) (h : b < w.heap.size) => hkS b o (by first | omega | (simp; omega) | (simp; done))); go_simp); try with_reducible rfl)); simp only [Act.put, List.setIfInBounds_toArray, List.set_cons_zero, List.set_cons_succ]) | (refine Plan.tree_skip rfl rfl ?_; simp only [Act.put, List.setIfInBounds_toArray, List.set_cons_zero, List.set_cons_succ])))
                  refine Plan.tree_write rfl (fun K hK => ?_)
                  refine step_append_any _ (by rfl) _ _ _ (by rfl) W.heap.size 33 i0 _ 9 72 Tryd.underlying34 hi hz0 hz1 hz2 rfl (by omega) _ (0) ([]) (by rfl) kO0 W.heap.size (some ⟨bo, oo, none⟩) at1 dc (rowR (A.take at1)) (by rfl) (by have := reads_rights (hTk.below kB0); rw [HTL.out] at this; exact this) (rowR_one _) (by unfold maxLen; omega) (by omega) kB0.size ?_
                  intro v4 w4 hown4 hgr4 _
                  have kB4 : Below W.heap.size W w4 := kB0.trans (below_own kO0 kB0.size hgr4)
                  have kR4 : Reads w4 w4.heap.size 9 (some ⟨W.heap.size + 1, 0, none⟩) 1 e.cells := kR6.grown_off (by simp) hgr4 (by simp [Value.ownBlock])
                  (refine hK.out _ _ (kB4) ?_; clear hK K; try simp only [Act.put, List.setIfInBounds_toArray, List.set_cons_zero, List.set_cons_succ])
                  (repeat (first | (refine Plan.tree_read (v := ?_) rfl rfl ?_ ?_; rotate_left; (focus ((intro wS hSw; have hkS := (bcell hSw).1; try (have hkT := fun (b o : Nat) (h : b < w.heap.size) => hkS b o (by first | omega | (simp; omega) | (simp; done))); go_simp); try with_reducible rfl)); simp only [Act.put, List.setIfInBounds_toArray, List.set_cons_zero, List.set_cons_succ]) | (refine Plan.tree_skip rfl rfl ?_; simp only [Act.put, List.setIfInBounds_toArray, List.set_cons_zero, List.set_cons_succ])))
                  refine Plan.tree_write rfl (fun K hK => ?_)
                  refine step_append_any _ (by rfl) _ _ _ (by rfl) W.heap.size 33 i0 _ 9 72 Tryd.underlying34 hi hz0 hz1 hz2 rfl (by omega) v4 (0 + at1) ([] ++ rowR (A.take at1)) (by rfl) hown4 w4.heap.size (some ⟨W.heap.size + 1, 0, none⟩) 1 1 e.cells (by rfl) kR4 (rt_one e) (by unfold maxLen; omega) (by omega) kB4.size ?_
                  intro v7 w7 hown7 hgr7 _
                  have kB7 : Below W.heap.size W w7 := kB4.trans (below_own hown4 kB4.size hgr7)
                  (refine hK.out _ _ (kB7) ?_; clear hK K; try simp only [Act.put, List.setIfInBounds_toArray, List.set_cons_zero, List.set_cons_succ])
                  (repeat (first | (refine Plan.tree_read (v := ?_) rfl rfl ?_ ?_; rotate_left; (focus ((intro wS hSw; have hkS := (bcell hSw).1; try (have hkT := fun (b o : Nat) (h : b < w.heap.size) => hkS b o (by first | omega | (simp; omega) | (simp; done))); go_simp); try with_reducible rfl)); simp only [Act.put, List.setIfInBounds_toArray, List.set_cons_zero, List.set_cons_succ]) | (refine Plan.tree_skip rfl rfl ?_; simp only [Act.put, List.setIfInBounds_toArray, List.set_cons_zero, List.set_cons_succ])))
                  refine Plan.tree_write rfl (fun K hK => ?_)
                  refine step_append_any _ (by rfl) _ _ _ (by rfl) W.heap.size 33 i0 _ 9 72 Tryd.underlying34 hi hz0 hz1 hz2 rfl (by omega) v7 (0 + at1 + 1) ([] ++ rowR (A.take at1) ++ e.cells) (by rfl) hown7 W.heap.size Cr (A.length - at1) cr (rowR (A.drop at1)) (by rfl) (by have := reads_rights (hCr.below kB7); rw [HDL.out] at this; exact this) (rowR_one _) (by unfold maxLen; omega) (by omega) kB7.size ?_
                  intro v9 w9 hown9 hgr9 _
                  have kB9 : Below W.heap.size W w9 := kB7.trans (below_own hown7 kB7.size hgr9)
                  clear kB0 kO0 kB4 hown4 hgr4 kR6 kR4 kB7 hown7 hgr7 hgr9
                  (refine hK.out _ _ (kB9) ?_; clear hK K; try simp only [Act.put, List.setIfInBounds_toArray, List.set_cons_zero, List.set_cons_succ])
                  (repeat (first | (refine Plan.tree_read (v := ?_) rfl rfl ?_ ?_; rotate_left; (focus ((intro wS hSw; have hkS := (bcell hSw).1; try (have hkT := fun (b o : Nat) (h : b < w.heap.size) => hkS b o (by first | omega | (simp; omega) | (simp; done))); go_simp); try with_reducible rfl)); simp only [Act.put, List.setIfInBounds_toArray, List.set_cons_zero, List.set_cons_succ]) | (refine Plan.tree_skip rfl rfl ?_; simp only [Act.put, List.setIfInBounds_toArray, List.set_cons_zero, List.set_cons_succ])))
                  refine Plan.tree_done ?_
                  rw [List.nil_append, ← rowR_snoc, ← rowR_append] at hown9
                  have hlenF : (0 + at1 + 1 + (A.length - at1)) = (A.take at1 ++ [e] ++ A.drop at1).length := by simp; omega
                  rw [hlenF] at hown9
                  obtain ⟨D9, c9, he9, hD9, hF9⟩ := rights_of_owns hown9
                  have hcap9 := owns_cap hown9 he9
                  subst he9
                  have HE9 := Lib.hid hD9
                  have hbF : Below w.heap.size w w9 := hBW.trans (kB9.mono hzW)
                  clear hown9 hD9 kB9 hF9 hlenF
                  go_wp2_with fail
                  go_roundw
                  case rel =>
                    have hsh9 : (A.take at1 ++ [e] ++ A.drop at1 = [] ∧ D9 = none ∧ c9 = 0) ∨ ∃ bq oq, D9 = some ⟨bq, oq, none⟩ := Or.inr (by obtain ⟨b, o, hq, _⟩ := HE9.out (by simp; omega); exact ⟨b, o, hq⟩)
                    refine ⟨k + 1, D9, c9, A.take at1 ++ [e] ++ A.drop at1, by omega, by go_num, rfl, ?_, hcap9, HE9.out, hbF, hbF.size, hsh9⟩
                    show _ = _
                    rw [hstep.out k e HX.out, ← hA.out, HM.out, List.append_assoc]
                    rfl
                  case measure => simp [intOf]; omega
              · (try go_simp)
                have kB0 : Below W.heap.size W (W.alloc (.cells e.cells.toArray 33)).drew := ((Below.refl _ _).alloc (Nat.le_refl _) _).drew
                (refine hK.out _ _ (kB0) ?_; clear hK K; try simp only [Act.put, List.setIfInBounds_toArray, List.set_cons_zero, List.set_cons_succ])
                (repeat (first | (refine Plan.tree_read (v := ?_) rfl rfl ?_ ?_; rotate_left; (focus ((intro wS hSw; have hkS := (bcell hSw).1; try (have hkT := fun (b o : Nat) (h : b < w.heap.size) => hkS b o (by first | omega | (simp; omega) | (simp; done))); go_simp); try with_reducible rfl)); simp only [Act.put, List.setIfInBounds_toArray, List.set_cons_zero, List.set_cons_succ]) | (refine Plan.tree_skip rfl rfl ?_; simp only [Act.put, List.setIfInBounds_toArray, List.set_cons_zero, List.set_cons_succ])))
                (refine Plan.tree_write rfl (fun K hK => ?_); try go_simp)
                have kB1 := kB0
                clear kB0
                have kB0 : Below W.heap.size W ((W.alloc (.cells e.cells.toArray 33)).alloc (.cells #[] 33)).drew := (((Below.refl _ _).alloc (Nat.le_refl _) _).alloc (by simp) _).drew
                have kO0 : (((W.alloc (.cells e.cells.toArray 33)).alloc (.cells #[] 33)).drew).ownsRow W.heap.size 33 9 (.slice (some ⟨W.heap.size + 1, 0, none⟩) 0 0) 0 [] := by
                  have h := (World.ownsRow_made (size := 9) (base := W.heap.size) (e := 33) (W.alloc (.cells e.cells.toArray 33)) #[] 0 (by simp) (by unfold maxLen; omega) (by simp)).drew
                  rw [World.size_alloc] at h
                  exact h
                have kR6 : Reads (((W.alloc (.cells e.cells.toArray 33)).alloc (.cells #[] 33)).drew) (W.heap.size + 1) 9 (some ⟨W.heap.size, 0, none⟩) 1 e.cells := ⟨rfl, fun _ => ⟨_, rfl, Nat.lt_succ_self _, fun j u hj => by
                  have := cells_at (w := W) rfl 33 e.cells j u hj
                  rw [← this]
                  exact World.cell?_alloc_lt (W.alloc (.cells e.cells.toArray 33)) _ _ (by rw [block_of_add]; simp)⟩⟩
                (refine hK.out _ _ (kB0) ?_; clear hK K; try simp only [Act.put, List.setIfInBounds_toArray, List.set_cons_zero, List.set_cons_succ])
                (repeat (first | (refine Plan.tree_read (v := ?_) rfl rfl ?_ ?_; rotate_left; (focus ((intro wS hSw; have hkS := (bcell hSw).1; try (have hkT := fun (b o : Nat) (h : b < w.heap.size) => hkS b o (by first | omega | (simp; omega) | (simp; done))); go_simp); try with_reducible rfl)); simp only [Act.put, List.setIfInBounds_toArray, List.set_cons_zero, List.set_cons_succ]) | (refine Plan.tree_skip rfl rfl ?_; simp only [Act.put, List.setIfInBounds_toArray, List.set_cons_zero, List.set_cons_succ])))
                refine Plan.tree_write rfl (fun K hK => ?_)
                refine step_append_any _ (by rfl) _ _ _ (by rfl) W.heap.size 33 i0 _ 9 72 Tryd.underlying34 hi hz0 hz1 hz2 rfl (by omega) _ (0) ([]) (by rfl) kO0 W.heap.size (some ⟨bo, oo, none⟩) at1 dc (rowR (A.take at1)) (by rfl) (by have := reads_rights (hTk.below kB0); rw [HTL.out] at this; exact this) (rowR_one _) (by unfold maxLen; omega) (by omega) kB0.size ?_
                intro v4 w4 hown4 hgr4 _
                have kB4 : Below W.heap.size W w4 := kB0.trans (below_own kO0 kB0.size hgr4)
                have kR4 : Reads w4 w4.heap.size 9 (some ⟨W.heap.size, 0, none⟩) 1 e.cells := kR6.grown_off (by simp) hgr4 (by simp [Value.ownBlock])
                (refine hK.out _ _ (kB4) ?_; clear hK K; try simp only [Act.put, List.setIfInBounds_toArray, List.set_cons_zero, List.set_cons_succ])
                (repeat (first | (refine Plan.tree_read (v := ?_) rfl rfl ?_ ?_; rotate_left; (focus ((intro wS hSw; have hkS := (bcell hSw).1; try (have hkT := fun (b o : Nat) (h : b < w.heap.size) => hkS b o (by first | omega | (simp; omega) | (simp; done))); go_simp); try with_reducible rfl)); simp only [Act.put, List.setIfInBounds_toArray, List.set_cons_zero, List.set_cons_succ]) | (refine Plan.tree_skip rfl rfl ?_; simp only [Act.put, List.setIfInBounds_toArray, List.set_cons_zero, List.set_cons_succ])))
                refine Plan.tree_write rfl (fun K hK => ?_)
                refine step_append_any _ (by rfl) _ _ _ (by rfl) W.heap.size 33 i0 _ 9 72 Tryd.underlying34 hi hz0 hz1 hz2 rfl (by omega) v4 (0 + at1) ([] ++ rowR (A.take at1)) (by rfl) hown4 w4.heap.size (some ⟨W.heap.size, 0, none⟩) 1 1 e.cells (by rfl) kR4 (rt_one e) (by unfold maxLen; omega) (by omega) kB4.size ?_
                intro v7 w7 hown7 hgr7 _
                have kB7 : Below W.heap.size W w7 := kB4.trans (below_own hown4 kB4.size hgr7)
                (refine hK.out _ _ (kB7) ?_; clear hK K; try simp only [Act.put, List.setIfInBounds_toArray, List.set_cons_zero, List.set_cons_succ])
                (repeat (first | (refine Plan.tree_read (v := ?_) rfl rfl ?_ ?_; rotate_left; (focus ((intro wS hSw; have hkS := (bcell hSw).1; try (have hkT := fun (b o : Nat) (h : b < w.heap.size) => hkS b o (by first | omega | (simp; omega) | (simp; done))); go_simp); try with_reducible rfl)); simp only [Act.put, List.setIfInBounds_toArray, List.set_cons_zero, List.set_cons_succ]) | (refine Plan.tree_skip rfl rfl ?_; simp only [Act.put, List.setIfInBounds_toArray, List.set_cons_zero, List.set_cons_succ])))
                refine Plan.tree_write rfl (fun K hK => ?_)
                refine step_append_any _ (by rfl) _ _ _ (by rfl) W.heap.size 33 i0 _ 9 72 Tryd.underlying34 hi hz0 hz1 hz2 rfl (by omega) v7 (0 + at1 + 1) ([] ++ rowR (A.take at1) ++ e.cells) (by rfl) hown7 W.heap.size Cr (A.length - at1) cr (rowR (A.drop at1)) (by rfl) (by have := reads_rights (hCr.below kB7); rw [HDL.out] at this; exact this) (rowR_one _) (by unfold maxLen; omega) (by omega) kB7.size ?_
                intro v9 w9 hown9 hgr9 _
                have kB9 : Below W.heap.size W w9 := kB7.trans (below_own hown7 kB7.size hgr9)
                clear kB0 kO0 kB4 hown4 hgr4 kR6 kR4 kB7 hown7 hgr7 hgr9
                (refine hK.out _ _ (kB9) ?_; clear hK K; try simp only [Act.put, List.setIfInBounds_toArray, List.set_cons_zero, List.set_cons_succ])
                (repeat (first | (refine Plan.tree_read (v := ?_) rfl rfl ?_ ?_; rotate_left; (focus ((intro wS hSw; have hkS := (bcell hSw).1; try (have hkT := fun (b o : Nat) (h : b < w.heap.size) => hkS b o (by first | omega | (simp; omega) | (simp; done))); go_simp); try with_reducible rfl)); simp only [Act.put, List.setIfInBounds_toArray, List.set_cons_zero, List.set_cons_succ]) | (refine Plan.tree_skip rfl rfl ?_; simp only [Act.put, List.setIfInBounds_toArray, List.set_cons_zero, List.set_cons_succ])))
                refine Plan.tree_done ?_
                rw [List.nil_append, ← rowR_snoc, ← rowR_append] at hown9
                have hlenF : (0 + at1 + 1 + (A.length - at1)) = (A.take at1 ++ [e] ++ A.drop at1).length := by simp; omega
                rw [hlenF] at hown9
                obtain ⟨D9, c9, he9, hD9, hF9⟩ := rights_of_owns hown9
                have hcap9 := owns_cap hown9 he9
                subst he9
                have HE9 := Lib.hid hD9
                have hbF : Below w.heap.size w w9 := hBW.trans (kB9.mono hzW)
                clear hown9 hD9 kB9 hF9 hlenF
                go_wp2_with fail
                go_roundw
                case rel =>
                  have hsh9 : (A.take at1 ++ [e] ++ A.drop at1 = [] ∧ D9 = none ∧ c9 = 0) ∨ ∃ bq oq, D9 = some ⟨bq, oq, none⟩ := Or.inr (by obtain ⟨b, o, hq, _⟩ := HE9.out (by simp; omega); exact ⟨b, o, hq⟩)
                  refine ⟨k + 1, D9, c9, A.take at1 ++ [e] ++ A.drop at1, by omega, by go_num, rfl, ?_, hcap9, HE9.out, hbF, hbF.size, hsh9⟩
                  show _ = _
                  rw [hstep.out k e HX.out, ← hA.out, HM.out, List.append_assoc]
                  rfl
                case measure => simp [intOf]; omega
            · have hdc2 : at1 = dc := by omega
              subst hdc2
              have hQ : RightsAt W2 wq.heap.size (some ⟨bo, oo, none⟩) (A.drop at1) := by have := rights_drop hD2 (k := at1) (cf := at1) hat hcap; rwa [if_pos rfl] at this
              have HA0 : Hid (A.length - at1 = 0) := by show _ = _; omega
              have R10 := Lib.hid (fun (wx : World) (hb : Below W2.heap.size W2 wx) => reads_rights (hQ.below (hb.mono (by omega))))
              go_wp2_with (first | (at_builtin; go_loud (refine wpList_append_any _ rfl _ _ 34 rfl W2.heap.size 33 i0 _ 9 72 Tryd.underlying34 hi hz0 hz1 hz2 rfl (by decide) _ 0 [] rfl kO10.out wq.heap.size (some ⟨bo, oo, none⟩) 0 _ (rowR (A.drop at1)) rfl (by have := R10.out (W2.alloc (.cells #[] 33)) ((Below.refl _ _).alloc (Nat.le_refl _) _); rw [HDL.out] at this; rw [HA0.out] at this; exact this) (rowR_one _) (by unfold maxLen; omega) (by omega) (by simp) ?_); intro v10 W hown10 hgr10 _) | fail)
              have hbW := below_own kO10.out (by simp) hgr10
              have hBW2 : Below W2.heap.size W2 W := ((Below.refl _ _).alloc (Nat.le_refl _) _).trans hbW
              have hzW2 := hBW2.size
              have hBW : Below w.heap.size w W := (hBw.trans (hB2.mono hz)).trans (hBW2.mono (by omega))
              have hzW : w.heap.size ≤ W.heap.size := by omega
              have hbb : b < W.heap.size := by omega
              have hBWr : Below wq.heap.size wq W := hB2.trans (hBW2.mono hz2')
              have k0 := (hBWr.cell (p := ⟨b, off + k * 9, none⟩) hbw).trans r0
              have k1 := (hBWr.cell (p := ⟨b, off + k * 9 + 1, none⟩) hbw).trans r1
              have k2 := (hBWr.cell (p := ⟨b, off + k * 9 + 2, none⟩) hbw).trans r2
              have k3 := (hBWr.cell (p := ⟨b, off + k * 9 + 3, none⟩) hbw).trans r3
              have k4 := (hBWr.cell (p := ⟨b, off + k * 9 + 4, none⟩) hbw).trans r4
              have k5 := (hBWr.cell (p := ⟨b, off + k * 9 + 5, none⟩) hbw).trans r5
              have k6 := (hBWr.cell (p := ⟨b, off + k * 9 + 6, none⟩) hbw).trans r6
              have k7 := (hBWr.cell (p := ⟨b, off + k * 9 + 7, none⟩) hbw).trans r7
              have k8 := (hBWr.cell (p := ⟨b, off + k * 9 + 8, none⟩) hbw).trans r8
              have hTk : RightsAt W W.heap.size (some ⟨bo, oo, none⟩) (A.take at1) := ((rights_take hD2 at1).below (hBW2.mono (by omega))).more (by omega)
              have hown11 : W.ownsRow W2.heap.size 33 9 v10 (A.drop at1).length (rowR (A.drop at1)) := by have h := hown10; rw [List.nil_append, Nat.zero_add] at h; rw [HDL.out]; rw [HA0.out]; exact h
              obtain ⟨Cr, cr, hv10, hCr, _⟩ := rights_of_owns hown11
              subst hv10
              clear hown10 hown11 hgr10 hbW hBW2 hBWr r0 r1 r2 r3 r4 r5 r6 r7 r8 hQ R10 kO10 hD2 hB2
              go_wp2_with fail
              refine Plan.wp_region_tree (.rd 1 (.rd 2 (.rd 3 (.rd 5 (.rd 6 (.rd 7 (.rd 8 (.rd 11 (.two 0 (.two 4 (.wr 9 (.wr 10 (.wr 12 (.rd 13 .done)))) 9 (.wr 4 (.wr 10 (.wr 12 (.rd 13 .done))))) 9 (.wr 0 (.wr 4 (.wr 10 (.wr 12 (.rd 13 .done)))))))))))))) (by kernel_rfl) (by kernel_rfl) ?_
              (repeat (first | (refine Plan.tree_read (v := ?_) rfl rfl ?_ ?_; rotate_left; (focus ((intro wS hSw; have hkS := (bcell hSw).1; try (have hkT := fun (b o : Nat) (h : b < w.heap.size) => hkS b o (by first | omega | (simp; omega) | (simp; done))); go_simp); try with_reducible rfl)); simp only [Act.put, List.setIfInBounds_toArray, List.set_cons_zero, List.set_cons_succ]) | (refine Plan.tree_skip rfl rfl ?_; simp only [Act.put, List.setIfInBounds_toArray, List.set_cons_zero, List.set_cons_succ])))
              refine Plan.tree_two rfl rfl (fun K hK => ?_) (fun K hK => ?_)
              · have kB0 : Below W.heap.size W (W.alloc (.cells #[] 33)).drew := ((Below.refl _ _).alloc (Nat.le_refl _) _).drew
                have kO0 : ((W.alloc (.cells #[] 33)).drew).ownsRow W.heap.size 33 9 (.slice (some ⟨W.heap.size, 0, none⟩) 0 0) 0 [] := (World.ownsRow_made W #[] 0 (Nat.le_refl _) (by unfold maxLen; omega) (by simp)).drew
                (try go_simp)
                (refine hK.out _ _ (kB0) ?_; clear hK K; try simp only [Act.put, List.setIfInBounds_toArray, List.set_cons_zero, List.set_cons_succ])
                (repeat (first | (refine Plan.tree_read (v := ?_) rfl rfl ?_ ?_; rotate_left; (focus ((intro wS hSw; have hkS := (bcell hSw).1; try (have hkT := fun (b o : Nat) (h : b < w.heap.size) => hkS b o (by first | omega | (simp; omega) | (simp; done))); go_simp); try with_reducible rfl)); simp only [Act.put, List.setIfInBounds_toArray, List.set_cons_zero, List.set_cons_succ]) | (refine Plan.tree_skip rfl rfl ?_; simp only [Act.put, List.setIfInBounds_toArray, List.set_cons_zero, List.set_cons_succ])))
                refine Plan.tree_two rfl rfl (fun K hK => ?_) (fun K hK => ?_)
                · refine step_append_any _ (by rfl) _ _ _ (by rfl) W.heap.size 33 i0 _ 9 72 Tryd.underlying34 hi hz0 hz1 hz2 rfl (by omega) _ (0) ([]) (by rfl) kO0 W.heap.size (some ⟨bo, oo, none⟩) at1 at1 (rowR (A.take at1)) (by rfl) (by have := reads_rights (hTk.below kB0); rw [HTL.out] at this; exact this) (rowR_one _) (by unfold maxLen; omega) (by omega) (by simp) ?_
                  intro v4 w4 hown4 hgr4 _
                  have kB4 : Below W.heap.size W w4 := kB0.trans (below_own kO0 (by simp) hgr4)
                  (refine hK.out _ _ (kB4) ?_; clear hK K; try simp only [Act.put, List.setIfInBounds_toArray, List.set_cons_zero, List.set_cons_succ])
                  (repeat (first | (refine Plan.tree_read (v := ?_) rfl rfl ?_ ?_; rotate_left; (focus ((intro wS hSw; have hkS := (bcell hSw).1; try (have hkT := fun (b o : Nat) (h : b < w.heap.size) => hkS b o (by first | omega | (simp; omega) | (simp; done))); go_simp); try with_reducible rfl)); simp only [Act.put, List.setIfInBounds_toArray, List.set_cons_zero, List.set_cons_succ]) | (refine Plan.tree_skip rfl rfl ?_; simp only [Act.put, List.setIfInBounds_toArray, List.set_cons_zero, List.set_cons_succ])))
                  (refine Plan.tree_write rfl (fun K hK => ?_); try go_simp)
                  have kB6 : Below W.heap.size W (w4.alloc (.cells e.cells.toArray 33)) := kB4.alloc kB4.size _
                  have kO6 : (w4.alloc (.cells e.cells.toArray 33)).ownsRow W.heap.size 33 9 v4 (0 + at1) ([] ++ rowR (A.take at1)) := hown4.alloc _
                  have kR6 : Reads (w4.alloc (.cells e.cells.toArray 33)) (w4.heap.size + 1) 9 (some ⟨w4.heap.size, 0, none⟩) 1 e.cells := ⟨rfl, fun _ => ⟨_, rfl, Nat.lt_succ_self _, cells_at rfl _ _⟩⟩
                  (refine hK.out _ _ (kB6) ?_; clear hK K; try simp only [Act.put, List.setIfInBounds_toArray, List.set_cons_zero, List.set_cons_succ])
                  (repeat (first | (refine Plan.tree_read (v := ?_) rfl rfl ?_ ?_; rotate_left; (focus ((intro wS hSw; have hkS := (bcell hSw).1; try (have hkT := fun (b o : Nat) (h : b < w.heap.size) => hkS b o (by first | omega | (simp; omega) | (simp; done))); go_simp); try with_reducible rfl)); simp only [Act.put, List.setIfInBounds_toArray, List.set_cons_zero, List.set_cons_succ]) | (refine Plan.tree_skip rfl rfl ?_; simp only [Act.put, List.setIfInBounds_toArray, List.set_cons_zero, List.set_cons_succ])))
                  refine Plan.tree_write rfl (fun K hK => ?_)
                  refine step_append_any _ (by rfl) _ _ _ (by rfl) W.heap.size 33 i0 _ 9 72 Tryd.underlying34 hi hz0 hz1 hz2 rfl (by omega) v4 (0 + at1) ([] ++ rowR (A.take at1)) (by rfl) kO6 (w4.heap.size + 1) (some ⟨w4.heap.size, 0, none⟩) 1 1 e.cells (by rfl) kR6 (rt_one e) (by unfold maxLen; omega) (by omega) kB6.size ?_
                  intro v7 w7 hown7 hgr7 _
                  have kB7 : Below W.heap.size W w7 := kB6.trans (below_own kO6 kB6.size hgr7)
                  (refine hK.out _ _ (kB7) ?_; clear hK K; try simp only [Act.put, List.setIfInBounds_toArray, List.set_cons_zero, List.set_cons_succ])
                  (repeat (first | (refine Plan.tree_read (v := ?_) rfl rfl ?_ ?_; rotate_left; (focus ((intro wS hSw; have hkS := (bcell hSw).1; try (have hkT := fun (b o : Nat) (h : b < w.heap.size) => hkS b o (by first | omega | (simp; omega) | (simp; done))); go_simp); try with_reducible rfl)); simp only [Act.put, List.setIfInBounds_toArray, List.set_cons_zero, List.set_cons_succ]) | (refine Plan.tree_skip rfl rfl ?_; simp only [Act.put, List.setIfInBounds_toArray, List.set_cons_zero, List.set_cons_succ])))
                  refine Plan.tree_write rfl (fun K hK => ?_)
                  refine step_append_any _ (by rfl) _ _ _ (by rfl) W.heap.size 33 i0 _ 9 72 Tryd.underlying34 hi hz0 hz1 hz2 rfl (by omega) v7 (0 + at1 + 1) ([] ++ rowR (A.take at1) ++ e.cells) (by rfl) hown7 W.heap.size Cr 0 cr (rowR (A.drop at1)) (by rfl) (by have := reads_rights (hCr.below kB7); rw [HDL.out] at this; rw [HA0.out] at this; exact this) (rowR_one _) (by unfold maxLen; omega) (by omega) kB7.size ?_
                  intro v9 w9 hown9 hgr9 _
                  have kB9 : Below W.heap.size W w9 := kB7.trans (below_own hown7 kB7.size hgr9)
                  clear kB0 kO0 kB4 hown4 hgr4 kB6 kO6 kR6 kB7 hown7 hgr7 hgr9
                  (refine hK.out _ _ (kB9) ?_; clear hK K; try simp only [Act.put, List.setIfInBounds_toArray, List.set_cons_zero, List.set_cons_succ])
                  (repeat (first | (refine Plan.tree_read (v := ?_) rfl rfl ?_ ?_; rotate_left; (focus ((intro wS hSw; have hkS := (bcell hSw).1; try (have hkT := fun (b o : Nat) (h : b < w.heap.size) => hkS b o (by first | omega | (simp; omega) | (simp; done))); go_simp); try with_reducible rfl)); simp only [Act.put, List.setIfInBounds_toArray, List.set_cons_zero, List.set_cons_succ]) | (refine Plan.tree_skip rfl rfl ?_; simp only [Act.put, List.setIfInBounds_toArray, List.set_cons_zero, List.set_cons_succ])))
                  refine Plan.tree_done ?_
                  rw [List.nil_append, ← rowR_snoc, ← rowR_append] at hown9
                  have hlenF : (0 + at1 + 1 + 0) = (A.take at1 ++ [e] ++ A.drop at1).length := by simp; omega
                  rw [hlenF] at hown9
                  obtain ⟨D9, c9, he9, hD9, hF9⟩ := rights_of_owns hown9
                  have hcap9 := owns_cap hown9 he9
                  subst he9
                  have HE9 := Lib.hid hD9
                  have hbF : Below w.heap.size w w9 := hBW.trans (kB9.mono hzW)
                  clear hown9 hD9 kB9 hF9 hlenF
                  go_wp2_with fail
                  go_roundw
                  case rel =>
                    have hsh9 : (A.take at1 ++ [e] ++ A.drop at1 = [] ∧ D9 = none ∧ c9 = 0) ∨ ∃ bq oq, D9 = some ⟨bq, oq, none⟩ := Or.inr (by obtain ⟨b, o, hq, _⟩ := HE9.out (by simp; omega); exact ⟨b, o, hq⟩)
                    refine ⟨k + 1, D9, c9, A.take at1 ++ [e] ++ A.drop at1, by omega, by go_num, rfl, ?_, hcap9, HE9.out, hbF, hbF.size, hsh9⟩
                    show _ = _
                    rw [hstep.out k e HX.out, ← hA.out, HM.out, List.append_assoc]
                    rfl
                  case measure => simp [intOf]; omega
                · (try go_simp)
                  have kO1 := kO0
                  have kB1 := kB0
                  clear kO0 kB0
                  have kB0 : Below W.heap.size W ((W.alloc (.cells #[] 33)).alloc (.cells e.cells.toArray 33)).drew := (((Below.refl _ _).alloc (Nat.le_refl _) _).alloc (by simp) _).drew
                  have kO0 : (((W.alloc (.cells #[] 33)).alloc (.cells e.cells.toArray 33)).drew).ownsRow W.heap.size 33 9 (.slice (some ⟨W.heap.size, 0, none⟩) 0 0) 0 [] := ((World.ownsRow_made W #[] 0 (Nat.le_refl _) (by unfold maxLen; omega) (by simp)).alloc _).drew
                  have kR6 : Reads (((W.alloc (.cells #[] 33)).alloc (.cells e.cells.toArray 33)).drew) (W.heap.size + 1 + 1) 9 (some ⟨W.heap.size + 1, 0, none⟩) 1 e.cells := ⟨rfl, fun _ => ⟨_, rfl, Nat.lt_succ_self _, cells_at (w := W.alloc (.cells #[] 33)) (by simp) _ _⟩⟩
                  (refine hK.out _ _ (kB0) ?_; clear hK K; try simp only [Act.put, List.setIfInBounds_toArray, List.set_cons_zero, List.set_cons_succ])
                  (repeat (first | (refine Plan.tree_read (v := ?_) rfl rfl ?_ ?_; rotate_left; (focus ((intro wS hSw; have hkS := (bcell hSw).1; try (have hkT := fun (b o : Nat) (h : b < w.heap.size) => hkS b o (by first | omega | (simp; omega) | (simp; done))); go_simp); try with_reducible rfl)); simp only [Act.put, List.setIfInBounds_toArray, List.set_cons_zero, List.set_cons_succ]) | (refine Plan.tree_skip rfl rfl ?_; simp only [Act.put, List.setIfInBounds_toArray, List.set_cons_zero, List.set_cons_succ])))
                  refine Plan.tree_write rfl (fun K hK => ?_)
                  refine step_append_any _ (by rfl) _ _ _ (by rfl) W.heap.size 33 i0 _ 9 72 Tryd.underlying34 hi hz0 hz1 hz2 rfl (by omega) _ (0) ([]) (by rfl) kO0 W.heap.size (some ⟨bo, oo, none⟩) at1 at1 (rowR (A.take at1)) (by rfl) (by have := reads_rights (hTk.below kB0); rw [HTL.out] at this; exact this) (rowR_one _) (by unfold maxLen; omega) (by omega) kB0.size ?_
                  intro v4 w4 hown4 hgr4 _
                  have kB4 : Below W.heap.size W w4 := kB0.trans (below_own kO0 kB0.size hgr4)
                  have kR4 : Reads w4 w4.heap.size 9 (some ⟨W.heap.size + 1, 0, none⟩) 1 e.cells := kR6.grown_off (by simp) hgr4 (by simp [Value.ownBlock])
                  (refine hK.out _ _ (kB4) ?_; clear hK K; try simp only [Act.put, List.setIfInBounds_toArray, List.set_cons_zero, List.set_cons_succ])
                  (repeat (first | (refine Plan.tree_read (v := ?_) rfl rfl ?_ ?_; rotate_left; (focus ((intro wS hSw; have hkS := (bcell hSw).1; try (have hkT := fun (b o : Nat) (h : b < w.heap.size) => hkS b o (by first | omega | (simp; omega) | (simp; done))); go_simp); try with_reducible rfl)); simp only [Act.put, List.setIfInBounds_toArray, List.set_cons_zero, List.set_cons_succ]) | (refine Plan.tree_skip rfl rfl ?_; simp only [Act.put, List.setIfInBounds_toArray, List.set_cons_zero, List.set_cons_succ])))
                  refine Plan.tree_write rfl (fun K hK => ?_)
                  refine step_append_any _ (by rfl) _ _ _ (by rfl) W.heap.size 33 i0 _ 9 72 Tryd.underlying34 hi hz0 hz1 hz2 rfl (by omega) v4 (0 + at1) ([] ++ rowR (A.take at1)) (by rfl) hown4 w4.heap.size (some ⟨W.heap.size + 1, 0, none⟩) 1 1 e.cells (by rfl) kR4 (rt_one e) (by unfold maxLen; omega) (by omega) kB4.size ?_
                  intro v7 w7 hown7 hgr7 _
                  have kB7 : Below W.heap.size W w7 := kB4.trans (below_own hown4 kB4.size hgr7)
                  (refine hK.out _ _ (kB7) ?_; clear hK K; try simp only [Act.put, List.setIfInBounds_toArray, List.set_cons_zero, List.set_cons_succ])
                  (repeat (first | (refine Plan.tree_read (v := ?_) rfl rfl ?_ ?_; rotate_left; (focus ((intro wS hSw; have hkS := (bcell hSw).1; try (have hkT := fun (b o : Nat) (h : b < w.heap.size) => hkS b o (by first | omega | (simp; omega) | (simp; done))); go_simp); try with_reducible rfl)); simp only [Act.put, List.setIfInBounds_toArray, List.set_cons_zero, List.set_cons_succ]) | (refine Plan.tree_skip rfl rfl ?_; simp only [Act.put, List.setIfInBounds_toArray, List.set_cons_zero, List.set_cons_succ])))
                  refine Plan.tree_write rfl (fun K hK => ?_)
                  refine step_append_any _ (by rfl) _ _ _ (by rfl) W.heap.size 33 i0 _ 9 72 Tryd.underlying34 hi hz0 hz1 hz2 rfl (by omega) v7 (0 + at1 + 1) ([] ++ rowR (A.take at1) ++ e.cells) (by rfl) hown7 W.heap.size Cr 0 cr (rowR (A.drop at1)) (by rfl) (by have := reads_rights (hCr.below kB7); rw [HDL.out] at this; rw [HA0.out] at this; exact this) (rowR_one _) (by unfold maxLen; omega) (by omega) kB7.size ?_
                  intro v9 w9 hown9 hgr9 _
                  have kB9 : Below W.heap.size W w9 := kB7.trans (below_own hown7 kB7.size hgr9)
                  clear kB0 kO0 kB4 hown4 hgr4 kR6 kR4 kB7 hown7 hgr7 hgr9
                  (refine hK.out _ _ (kB9) ?_; clear hK K; try simp only [Act.put, List.setIfInBounds_toArray, List.set_cons_zero, List.set_cons_succ])
                  (repeat (first | (refine Plan.tree_read (v := ?_) rfl rfl ?_ ?_; rotate_left; (focus ((intro wS hSw; have hkS := (bcell hSw).1; try (have hkT := fun (b o : Nat) (h : b < w.heap.size) => hkS b o (by first | omega | (simp; omega) | (simp; done))); go_simp); try with_reducible rfl)); simp only [Act.put, List.setIfInBounds_toArray, List.set_cons_zero, List.set_cons_succ]) | (refine Plan.tree_skip rfl rfl ?_; simp only [Act.put, List.setIfInBounds_toArray, List.set_cons_zero, List.set_cons_succ])))
                  refine Plan.tree_done ?_
                  rw [List.nil_append, ← rowR_snoc, ← rowR_append] at hown9
                  have hlenF : (0 + at1 + 1 + 0) = (A.take at1 ++ [e] ++ A.drop at1).length := by simp; omega
                  rw [hlenF] at hown9
                  obtain ⟨D9, c9, he9, hD9, hF9⟩ := rights_of_owns hown9
                  have hcap9 := owns_cap hown9 he9
                  subst he9
                  have HE9 := Lib.hid hD9
                  have hbF : Below w.heap.size w w9 := hBW.trans (kB9.mono hzW)
                  clear hown9 hD9 kB9 hF9 hlenF
                  go_wp2_with fail
                  go_roundw
                  case rel =>
                    have hsh9 : (A.take at1 ++ [e] ++ A.drop at1 = [] ∧ D9 = none ∧ c9 = 0) ∨ ∃ bq oq, D9 = some ⟨bq, oq, none⟩ := Or.inr (by obtain ⟨b, o, hq, _⟩ := HE9.out (by simp; omega); exact ⟨b, o, hq⟩)
                    refine ⟨k + 1, D9, c9, A.take at1 ++ [e] ++ A.drop at1, by omega, by go_num, rfl, ?_, hcap9, HE9.out, hbF, hbF.size, hsh9⟩
                    show _ = _
                    rw [hstep.out k e HX.out, ← hA.out, HM.out, List.append_assoc]
                    rfl
                  case measure => simp [intOf]; omega
              · (try go_simp)
                have kB0 : Below W.heap.size W (W.alloc (.cells e.cells.toArray 33)).drew := ((Below.refl _ _).alloc (Nat.le_refl _) _).drew
                (refine hK.out _ _ (kB0) ?_; clear hK K; try simp only [Act.put, List.setIfInBounds_toArray, List.set_cons_zero, List.set_cons_succ])
                (repeat (first | (refine Plan.tree_read (v := ?_) rfl rfl ?_ ?_; rotate_left; (focus ((intro wS hSw; have hkS := (bcell hSw).1; try (have hkT := fun (b o : Nat) (h : b < w.heap.size) => hkS b o (by first | omega | (simp; omega) | (simp; done))); go_simp); try with_reducible rfl)); simp only [Act.put, List.setIfInBounds_toArray, List.set_cons_zero, List.set_cons_succ]) | (refine Plan.tree_skip rfl rfl ?_; simp only [Act.put, List.setIfInBounds_toArray, List.set_cons_zero, List.set_cons_succ])))
                (refine Plan.tree_write rfl (fun K hK => ?_); try go_simp)
                have kB1 := kB0
                clear kB0
                have kB0 : Below W.heap.size W ((W.alloc (.cells e.cells.toArray 33)).alloc (.cells #[] 33)).drew := (((Below.refl _ _).alloc (Nat.le_refl _) _).alloc (by simp) _).drew
                have kO0 : (((W.alloc (.cells e.cells.toArray 33)).alloc (.cells #[] 33)).drew).ownsRow W.heap.size 33 9 (.slice (some ⟨W.heap.size + 1, 0, none⟩) 0 0) 0 [] := by
                  have h := (World.ownsRow_made (size := 9) (base := W.heap.size) (e := 33) (W.alloc (.cells e.cells.toArray 33)) #[] 0 (by simp) (by unfold maxLen; omega) (by simp)).drew
                  rw [World.size_alloc] at h
                  exact h
                have kR6 : Reads (((W.alloc (.cells e.cells.toArray 33)).alloc (.cells #[] 33)).drew) (W.heap.size + 1) 9 (some ⟨W.heap.size, 0, none⟩) 1 e.cells := ⟨rfl, fun _ => ⟨_, rfl, Nat.lt_succ_self _, fun j u hj => by
                  have := cells_at (w := W) rfl 33 e.cells j u hj
                  rw [← this]
                  exact World.cell?_alloc_lt (W.alloc (.cells e.cells.toArray 33)) _ _ (by rw [block_of_add]; simp)⟩⟩
                (refine hK.out _ _ (kB0) ?_; clear hK K; try simp only [Act.put, List.setIfInBounds_toArray, List.set_cons_zero, List.set_cons_succ])
                (repeat (first | (refine Plan.tree_read (v := ?_) rfl rfl ?_ ?_; rotate_left; (focus ((intro wS hSw; have hkS := (bcell hSw).1; try (have hkT := fun (b o : Nat) (h : b < w.heap.size) => hkS b o (by first | omega | (simp; omega) | (simp; done))); go_simp); try with_reducible rfl)); simp only [Act.put, List.setIfInBounds_toArray, List.set_cons_zero, List.set_cons_succ]) | (refine Plan.tree_skip rfl rfl ?_; simp only [Act.put, List.setIfInBounds_toArray, List.set_cons_zero, List.set_cons_succ])))
                refine Plan.tree_write rfl (fun K hK => ?_)
                refine step_append_any _ (by rfl) _ _ _ (by rfl) W.heap.size 33 i0 _ 9 72 Tryd.underlying34 hi hz0 hz1 hz2 rfl (by omega) _ (0) ([]) (by rfl) kO0 W.heap.size (some ⟨bo, oo, none⟩) at1 at1 (rowR (A.take at1)) (by rfl) (by have := reads_rights (hTk.below kB0); rw [HTL.out] at this; exact this) (rowR_one _) (by unfold maxLen; omega) (by omega) kB0.size ?_
                intro v4 w4 hown4 hgr4 _
                have kB4 : Below W.heap.size W w4 := kB0.trans (below_own kO0 kB0.size hgr4)
                have kR4 : Reads w4 w4.heap.size 9 (some ⟨W.heap.size, 0, none⟩) 1 e.cells := kR6.grown_off (by simp) hgr4 (by simp [Value.ownBlock])
                (refine hK.out _ _ (kB4) ?_; clear hK K; try simp only [Act.put, List.setIfInBounds_toArray, List.set_cons_zero, List.set_cons_succ])
                (repeat (first | (refine Plan.tree_read (v := ?_) rfl rfl ?_ ?_; rotate_left; (focus ((intro wS hSw; have hkS := (bcell hSw).1; try (have hkT := fun (b o : Nat) (h : b < w.heap.size) => hkS b o (by first | omega | (simp; omega) | (simp; done))); go_simp); try with_reducible rfl)); simp only [Act.put, List.setIfInBounds_toArray, List.set_cons_zero, List.set_cons_succ]) | (refine Plan.tree_skip rfl rfl ?_; simp only [Act.put, List.setIfInBounds_toArray, List.set_cons_zero, List.set_cons_succ])))
                refine Plan.tree_write rfl (fun K hK => ?_)
                refine step_append_any _ (by rfl) _ _ _ (by rfl) W.heap.size 33 i0 _ 9 72 Tryd.underlying34 hi hz0 hz1 hz2 rfl (by omega) v4 (0 + at1) ([] ++ rowR (A.take at1)) (by rfl) hown4 w4.heap.size (some ⟨W.heap.size, 0, none⟩) 1 1 e.cells (by rfl) kR4 (rt_one e) (by unfold maxLen; omega) (by omega) kB4.size ?_
                intro v7 w7 hown7 hgr7 _
                have kB7 : Below W.heap.size W w7 := kB4.trans (below_own hown4 kB4.size hgr7)
                (refine hK.out _ _ (kB7) ?_; clear hK K; try simp only [Act.put, List.setIfInBounds_toArray, List.set_cons_zero, List.set_cons_succ])
                (repeat (first | (refine Plan.tree_read (v := ?_) rfl rfl ?_ ?_; rotate_left; (focus ((intro wS hSw; have hkS := (bcell hSw).1; try (have hkT := fun (b o : Nat) (h : b < w.heap.size) => hkS b o (by first | omega | (simp; omega) | (simp; done))); go_simp); try with_reducible rfl)); simp only [Act.put, List.setIfInBounds_toArray, List.set_cons_zero, List.set_cons_succ]) | (refine Plan.tree_skip rfl rfl ?_; simp only [Act.put, List.setIfInBounds_toArray, List.set_cons_zero, List.set_cons_succ])))
                refine Plan.tree_write rfl (fun K hK => ?_)
                refine step_append_any _ (by rfl) _ _ _ (by rfl) W.heap.size 33 i0 _ 9 72 Tryd.underlying34 hi hz0 hz1 hz2 rfl (by omega) v7 (0 + at1 + 1) ([] ++ rowR (A.take at1) ++ e.cells) (by rfl) hown7 W.heap.size Cr 0 cr (rowR (A.drop at1)) (by rfl) (by have := reads_rights (hCr.below kB7); rw [HDL.out] at this; rw [HA0.out] at this; exact this) (rowR_one _) (by unfold maxLen; omega) (by omega) kB7.size ?_
                intro v9 w9 hown9 hgr9 _
                have kB9 : Below W.heap.size W w9 := kB7.trans (below_own hown7 kB7.size hgr9)
                clear kB0 kO0 kB4 hown4 hgr4 kR6 kR4 kB7 hown7 hgr7 hgr9
                (refine hK.out _ _ (kB9) ?_; clear hK K; try simp only [Act.put, List.setIfInBounds_toArray, List.set_cons_zero, List.set_cons_succ])
                (repeat (first | (refine Plan.tree_read (v := ?_) rfl rfl ?_ ?_; rotate_left; (focus ((intro wS hSw; have hkS := (bcell hSw).1; try (have hkT := fun (b o : Nat) (h : b < w.heap.size) => hkS b o (by first | omega | (simp; omega) | (simp; done))); go_simp); try with_reducible rfl)); simp only [Act.put, List.setIfInBounds_toArray, List.set_cons_zero, List.set_cons_succ]) | (refine Plan.tree_skip rfl rfl ?_; simp only [Act.put, List.setIfInBounds_toArray, List.set_cons_zero, List.set_cons_succ])))
                refine Plan.tree_done ?_
                rw [List.nil_append, ← rowR_snoc, ← rowR_append] at hown9
                have hlenF : (0 + at1 + 1 + 0) = (A.take at1 ++ [e] ++ A.drop at1).length := by simp; omega
                rw [hlenF] at hown9
                obtain ⟨D9, c9, he9, hD9, hF9⟩ := rights_of_owns hown9
                have hcap9 := owns_cap hown9 he9
                subst he9
                have HE9 := Lib.hid hD9
                have hbF : Below w.heap.size w w9 := hBW.trans (kB9.mono hzW)
                clear hown9 hD9 kB9 hF9 hlenF
                go_wp2_with fail
                go_roundw
                case rel =>
                  have hsh9 : (A.take at1 ++ [e] ++ A.drop at1 = [] ∧ D9 = none ∧ c9 = 0) ∨ ∃ bq oq, D9 = some ⟨bq, oq, none⟩ := Or.inr (by obtain ⟨b, o, hq, _⟩ := HE9.out (by simp; omega); exact ⟨b, o, hq⟩)
                  refine ⟨k + 1, D9, c9, A.take at1 ++ [e] ++ A.drop at1, by omega, by go_num, rfl, ?_, hcap9, HE9.out, hbF, hbF.size, hsh9⟩
                  show _ = _
                  rw [hstep.out k e HX.out, ← hA.out, HM.out, List.append_assoc]
                  rfl
                case measure => simp [intOf]; omega
        · obtain ⟨p, rfl⟩ : ∃ p, at1 = p + 1 := ⟨at1 - 1, by omega⟩
          obtain ⟨x, hx⟩ : ∃ x, A[p]? = some x := ⟨_, List.getElem?_eq_getElem (by omega)⟩
          obtain ⟨bx, ox, rfl, hbx, y0, y1, y2, y3, y4, y5, y6, y7, y8⟩ := (RightsAt.below hD hBi.out).at_ hx
          have hzi := hBi.out.size
          have s0 := (hBi.out.cell (p := ⟨b, off + k * 9, none⟩) hbw).trans r0
          have s1 := (hBi.out.cell (p := ⟨b, off + k * 9 + 1, none⟩) hbw).trans r1
          have s2 := (hBi.out.cell (p := ⟨b, off + k * 9 + 2, none⟩) hbw).trans r2
          have s3 := (hBi.out.cell (p := ⟨b, off + k * 9 + 3, none⟩) hbw).trans r3
          have s4 := (hBi.out.cell (p := ⟨b, off + k * 9 + 4, none⟩) hbw).trans r4
          have s5 := (hBi.out.cell (p := ⟨b, off + k * 9 + 5, none⟩) hbw).trans r5
          have s6 := (hBi.out.cell (p := ⟨b, off + k * 9 + 6, none⟩) hbw).trans r6
          have s7 := (hBi.out.cell (p := ⟨b, off + k * 9 + 7, none⟩) hbw).trans r7
          have s8 := (hBi.out.cell (p := ⟨b, off + k * 9 + 8, none⟩) hbw).trans r8
          have HXX := Lib.hid hx
          have d5 : decide ((0 : Int) < ((p : Int) + 1)) = true := decide_eq_true (by omega)
          have d7 : (0 : Int) < ((p : Int) + 1) := by omega
          have d6 : decide (0 < p + 1) = true := decide_eq_true (by omega)
          have v1 : IntKind.i64.wrap ((p : Int) + 1 - 1) = (p : Int) := by rw [IntKind.wrap_i64]; omega
          have v3 : IntKind.i64.wrap (p : Int) = (p : Int) := by rw [IntKind.wrap_i64]; omega
          have v4 : (p : Int) < (A.length : Int) := by omega
          have v5 : p < A.length := by omega
          have hbr : b < wr.heap.size := by omega
          have hbxr : bx < wr.heap.size := by omega
          have KS0 : Hid (∀ wx, Calls Tryd.prog 33 #[.agg #[.int .i64 e.id, .int .i64 e.owner, .int .i64 e.date, .int .i64 e.place, .int .i64 e.rate, .int .i64 e.from1, .int .i64 e.until1, .int .i64 e.back, .int .i64 e.backTo], .agg #[.int .i64 x.id, .int .i64 x.owner, .int .i64 x.date, .int .i64 x.place, .int .i64 x.rate, .int .i64 x.from1, .int .i64 x.until1, .int .i64 x.back, .int .i64 x.backTo]] wx (BoolIs (ltR e x) wx)) := fun wx => senior_any e x wx
          clear hx
          cases hg : ltR e x with
          | true =>
            have HG : Hid (∀ j x, p ≤ j → A[j]? = some x → ltR e x = true) := fun j z h1 h2 => by
              rcases Nat.lt_or_ge j (p + 1) with c | c
              · have : j = p := by omega
                subst this
                have := HXX.out; rw [h2] at this; cases this
                exact hg
              · exact hgt.out j z c h2
            rw [hg] at KS0
            clear STP hg
            go_wp2_with fail
            refine Plan.wp_region_tree (.rd 0 (.rd 1 (.rd 2 (.rd 3 (.rd 4 (.rd 5 (.rd 6 (.rd 7 (.rd 8 (.rd 9 (.rd 10 (.rd 11 (.wr 12 (.rd 13 .done)))))))))))))) (by kernel_rfl) (by kernel_rfl) ?_
            (repeat (first | (refine Plan.tree_read (v := ?_) rfl rfl ?_ ?_; rotate_left; (focus ((intro wS hSw; have hkS := (bcell hSw).1; go_simp); try with_reducible rfl)); simp only [Act.put, List.setIfInBounds_toArray, List.set_cons_zero, List.set_cons_succ]) | (refine Plan.tree_skip rfl rfl ?_; simp only [Act.put, List.setIfInBounds_toArray, List.set_cons_zero, List.set_cons_succ])))
            (refine Plan.tree_write rfl (fun K hK => ?_); try go_simp)
            go_at_call 33
            (with_reducible refine (KS0.out _).mono ?_)
            rintro e9 w9 ⟨rfl, hb9q⟩
            have hb9 : Below wr.heap.size wr w9 := Plan.below_drew_go hb9q
            clear hb9q
            (refine hK.out _ _ (hb9) ?_; clear hK K; try simp only [Act.put, List.setIfInBounds_toArray, List.set_cons_zero, List.set_cons_succ])
            (repeat (first | (refine Plan.tree_read (v := ?_) rfl rfl ?_ ?_; rotate_left; (focus ((intro wS hSw; have hkS := (bcell hSw).1; go_simp); try with_reducible rfl)); simp only [Act.put, List.setIfInBounds_toArray, List.set_cons_zero, List.set_cons_succ]) | (refine Plan.tree_skip rfl rfl ?_; simp only [Act.put, List.setIfInBounds_toArray, List.set_cons_zero, List.set_cons_succ])))
            refine Plan.tree_done ?_
            go_wp2_with fail
            go_roundw
            case rel => exact ⟨p, by go_num, by omega, HG.out, hBi.out.trans (hb9.mono hzi)⟩
            case measure => simp [intOf]
          | false =>
            have HM : Hid (ST.merge ltR A [e] = A.take (p + 1) ++ e :: A.drop (p + 1)) := STP.out (fun _ z hz => by
              rw [Nat.add_sub_cancel] at hz
              have := HXX.out; rw [hz] at this; cases this
              exact hg)
            rw [hg] at KS0
            clear STP hg
            obtain ⟨at1, hat1⟩ : ∃ a, a = p + 1 := ⟨_, rfl⟩
            go_wp2_with fail
            refine Plan.wp_region_tree (.rd 0 (.rd 1 (.rd 2 (.rd 3 (.rd 4 (.rd 5 (.rd 6 (.rd 7 (.rd 8 (.rd 9 (.rd 10 (.rd 11 (.wr 12 (.rd 13 .done)))))))))))))) (by kernel_rfl) (by kernel_rfl) ?_
            (repeat (first | (refine Plan.tree_read (v := ?_) rfl rfl ?_ ?_; rotate_left; (focus ((intro wS hSw; have hkS := (bcell hSw).1; go_simp); try with_reducible rfl)); simp only [Act.put, List.setIfInBounds_toArray, List.set_cons_zero, List.set_cons_succ]) | (refine Plan.tree_skip rfl rfl ?_; simp only [Act.put, List.setIfInBounds_toArray, List.set_cons_zero, List.set_cons_succ])))
            (refine Plan.tree_write rfl (fun K hK => ?_); try go_simp)
            go_at_call 33
            (with_reducible refine (KS0.out _).mono ?_)
            rintro e9 w9 ⟨rfl, hb9q⟩
            have hb9 : Below wr.heap.size wr w9 := Plan.below_drew_go hb9q
            clear hb9q
            (refine hK.out _ _ (hb9) ?_; clear hK K; try simp only [Act.put, List.setIfInBounds_toArray, List.set_cons_zero, List.set_cons_succ])
            (repeat (first | (refine Plan.tree_read (v := ?_) rfl rfl ?_ ?_; rotate_left; (focus ((intro wS hSw; have hkS := (bcell hSw).1; go_simp); try with_reducible rfl)); simp only [Act.put, List.setIfInBounds_toArray, List.set_cons_zero, List.set_cons_succ]) | (refine Plan.tree_skip rfl rfl ?_; simp only [Act.put, List.setIfInBounds_toArray, List.set_cons_zero, List.set_cons_succ])))
            refine Plan.tree_done ?_
            have hpa : (p : Int) + 1 = (at1 : Int) := by omega
            rw [← hat1] at HM hat
            have HAT := Lib.hid hat1
            clear hat1
            obtain ⟨W2, rfl⟩ : ∃ W2, W2 = w9 := ⟨_, rfl⟩
            have hB2 : Below wq.heap.size wq W2 := hBi.out.trans (hb9.mono hzi)
            clear hb9 hBi
            have hz2' : wq.heap.size ≤ W2.heap.size := hB2.size
            have hD2 := RightsAt.below hD hB2
            clear hD
            have hdl : (A.drop at1).length = A.length - at1 := List.length_drop ..
            have htl : (A.take at1).length = at1 := by rw [List.length_take]; omega
            have HDL := Lib.hid hdl
            have HTL := Lib.hid htl
            clear hdl htl
            have kO10 : Hid ((W2.alloc (.cells #[] 33)).ownsRow W2.heap.size 33 9 (.slice (some ⟨W2.heap.size, 0, none⟩) 0 0) 0 []) := World.ownsRow_made W2 #[] 0 (Nat.le_refl _) (by unfold maxLen; omega) rfl
            have hq1 : at1 ≤ dc := by omega
            have hq2 : (at1 : Int) ≤ (dc : Int) := by omega
            have hq3 : (0 : Int) ≤ (at1 : Int) := by omega
            have hq4 : (at1 : Int) ≤ (A.length : Int) := by omega
            rcases Nat.lt_or_ge at1 dc with hdc | hdc
            · have hdc2 : ¬ dc = at1 := by omega
              have hQ : RightsAt W2 wq.heap.size (some ⟨bx, ox + at1 * 9, none⟩) (A.drop at1) := by have := rights_drop hD2 (k := at1) (cf := dc) hat hcap; rwa [if_neg hdc2] at this
              have R10 := Lib.hid (fun (wx : World) (hb : Below W2.heap.size W2 wx) => reads_rights (hQ.below (hb.mono (by omega))))
              go_wp2_with (first | (at_builtin; go_loud (refine wpList_append_any _ rfl _ _ 34 rfl W2.heap.size 33 i0 _ 9 72 Tryd.underlying34 hi hz0 hz1 hz2 rfl (by decide) _ 0 [] rfl kO10.out wq.heap.size (some ⟨bx, ox + at1 * 9, none⟩) (A.length - at1) _ (rowR (A.drop at1)) rfl (by have := R10.out (W2.alloc (.cells #[] 33)) ((Below.refl _ _).alloc (Nat.le_refl _) _); rw [HDL.out] at this; exact this) (rowR_one _) (by unfold maxLen; omega) (by omega) (by simp) ?_); intro v10 W hown10 hgr10 _) | fail)
              have hbW := below_own kO10.out (by simp) hgr10
              have hBW2 : Below W2.heap.size W2 W := ((Below.refl _ _).alloc (Nat.le_refl _) _).trans hbW
              have hzW2 := hBW2.size
              have hBW : Below w.heap.size w W := (hBw.trans (hB2.mono hz)).trans (hBW2.mono (by omega))
              have hzW : w.heap.size ≤ W.heap.size := by omega
              have hbb : b < W.heap.size := by omega
              have hBWr : Below wq.heap.size wq W := hB2.trans (hBW2.mono hz2')
              have k0 := (hBWr.cell (p := ⟨b, off + k * 9, none⟩) hbw).trans r0
              have k1 := (hBWr.cell (p := ⟨b, off + k * 9 + 1, none⟩) hbw).trans r1
              have k2 := (hBWr.cell (p := ⟨b, off + k * 9 + 2, none⟩) hbw).trans r2
              have k3 := (hBWr.cell (p := ⟨b, off + k * 9 + 3, none⟩) hbw).trans r3
              have k4 := (hBWr.cell (p := ⟨b, off + k * 9 + 4, none⟩) hbw).trans r4
              have k5 := (hBWr.cell (p := ⟨b, off + k * 9 + 5, none⟩) hbw).trans r5
              have k6 := (hBWr.cell (p := ⟨b, off + k * 9 + 6, none⟩) hbw).trans r6
              have k7 := (hBWr.cell (p := ⟨b, off + k * 9 + 7, none⟩) hbw).trans r7
              have k8 := (hBWr.cell (p := ⟨b, off + k * 9 + 8, none⟩) hbw).trans r8
              have hTk : RightsAt W W.heap.size (some ⟨bx, ox, none⟩) (A.take at1) := ((rights_take hD2 at1).below (hBW2.mono (by omega))).more (by omega)
              have hown11 : W.ownsRow W2.heap.size 33 9 v10 (A.drop at1).length (rowR (A.drop at1)) := by have h := hown10; rw [List.nil_append, Nat.zero_add] at h; rw [HDL.out]; exact h
              obtain ⟨Cr, cr, hv10, hCr, _⟩ := rights_of_owns hown11
              subst hv10
              clear hown10 hown11 hgr10 hbW hBW2 hBWr r0 r1 r2 r3 r4 r5 r6 r7 r8 hQ R10 kO10 hD2 hB2
              go_wp2_with fail
              refine Plan.wp_region_tree (.rd 1 (.rd 2 (.rd 3 (.rd 5 (.rd 6 (.rd 7 (.rd 8 (.rd 11 (.two 0 (.two 4 (.wr 9 (.wr 10 (.wr 12 (.rd 13 .done)))) 9 (.wr 4 (.wr 10 (.wr 12 (.rd 13 .done))))) 9 (.wr 0 (.wr 4 (.wr 10 (.wr 12 (.rd 13 .done)))))))))))))) (by kernel_rfl) (by kernel_rfl) ?_
              (repeat (first | (refine Plan.tree_read (v := ?_) rfl rfl ?_ ?_; rotate_left; (focus ((intro wS hSw; have hkS := (bcell hSw).1; try (have hkT := fun (b o : Nat) (h : b < w.heap.size) => hkS b o (by first | omega | (simp; omega) | (simp; done))); go_simp); try with_reducible rfl)); simp only [Act.put, List.setIfInBounds_toArray, List.set_cons_zero, List.set_cons_succ]) | (refine Plan.tree_skip rfl rfl ?_; simp only [Act.put, List.setIfInBounds_toArray, List.set_cons_zero, List.set_cons_succ])))
              refine Plan.tree_two rfl rfl (fun K hK => ?_) (fun K hK => ?_)
              · have kB0 : Below W.heap.size W (W.alloc (.cells #[] 33)).drew := ((Below.refl _ _).alloc (Nat.le_refl _) _).drew
                have kO0 : ((W.alloc (.cells #[] 33)).drew).ownsRow W.heap.size 33 9 (.slice (some ⟨W.heap.size, 0, none⟩) 0 0) 0 [] := (World.ownsRow_made W #[] 0 (Nat.le_refl _) (by unfold maxLen; omega) (by simp)).drew
                (try go_simp)
                (refine hK.out _ _ (kB0) ?_; clear hK K; try simp only [Act.put, List.setIfInBounds_toArray, List.set_cons_zero, List.set_cons_succ])
                (repeat (first | (refine Plan.tree_read (v := ?_) rfl rfl ?_ ?_; rotate_left; (focus ((intro wS hSw; have hkS := (bcell hSw).1; try (have hkT := fun (b o : Nat) (h : b < w.heap.size) => hkS b o (by first | omega | (simp; omega) | (simp; done))); go_simp); try with_reducible rfl)); simp only [Act.put, List.setIfInBounds_toArray, List.set_cons_zero, List.set_cons_succ]) | (refine Plan.tree_skip rfl rfl ?_; simp only [Act.put, List.setIfInBounds_toArray, List.set_cons_zero, List.set_cons_succ])))
                refine Plan.tree_two rfl rfl (fun K hK => ?_) (fun K hK => ?_)
                · refine step_append_any _ (by rfl) _ _ _ (by rfl) W.heap.size 33 i0 _ 9 72 Tryd.underlying34 hi hz0 hz1 hz2 rfl (by omega) _ (0) ([]) (by rfl) kO0 W.heap.size (some ⟨bx, ox, none⟩) at1 dc (rowR (A.take at1)) (by rfl) (by have := reads_rights (hTk.below kB0); rw [HTL.out] at this; exact this) (rowR_one _) (by unfold maxLen; omega) (by omega) (by simp) ?_
                  intro v4 w4 hown4 hgr4 _
                  have kB4 : Below W.heap.size W w4 := kB0.trans (below_own kO0 (by simp) hgr4)
                  (refine hK.out _ _ (kB4) ?_; clear hK K; try simp only [Act.put, List.setIfInBounds_toArray, List.set_cons_zero, List.set_cons_succ])
                  (repeat (first | (refine Plan.tree_read (v := ?_) rfl rfl ?_ ?_; rotate_left; (focus ((intro wS hSw; have hkS := (bcell hSw).1; try (have hkT := fun (b o : Nat) (h : b < w.heap.size) => hkS b o (by first | omega | (simp; omega) | (simp; done))); go_simp); try with_reducible rfl)); simp only [Act.put, List.setIfInBounds_toArray, List.set_cons_zero, List.set_cons_succ]) | (refine Plan.tree_skip rfl rfl ?_; simp only [Act.put, List.setIfInBounds_toArray, List.set_cons_zero, List.set_cons_succ])))
                  (refine Plan.tree_write rfl (fun K hK => ?_); try go_simp)
                  have kB6 : Below W.heap.size W (w4.alloc (.cells e.cells.toArray 33)) := kB4.alloc kB4.size _
                  have kO6 : (w4.alloc (.cells e.cells.toArray 33)).ownsRow W.heap.size 33 9 v4 (0 + at1) ([] ++ rowR (A.take at1)) := hown4.alloc _
                  have kR6 : Reads (w4.alloc (.cells e.cells.toArray 33)) (w4.heap.size + 1) 9 (some ⟨w4.heap.size, 0, none⟩) 1 e.cells := ⟨rfl, fun _ => ⟨_, rfl, Nat.lt_succ_self _, cells_at rfl _ _⟩⟩
                  (refine hK.out _ _ (kB6) ?_; clear hK K; try simp only [Act.put, List.setIfInBounds_toArray, List.set_cons_zero, List.set_cons_succ])
                  (repeat (first | (refine Plan.tree_read (v := ?_) rfl rfl ?_ ?_; rotate_left; (focus ((intro wS hSw; have hkS := (bcell hSw).1; try (have hkT := fun (b o : Nat) (h : b < w.heap.size) => hkS b o (by first | omega | (simp; omega) | (simp; done))); go_simp); try with_reducible rfl)); simp only [Act.put, List.setIfInBounds_toArray, List.set_cons_zero, List.set_cons_succ]) | (refine Plan.tree_skip rfl rfl ?_; simp only [Act.put, List.setIfInBounds_toArray, List.set_cons_zero, List.set_cons_succ])))
                  refine Plan.tree_write rfl (fun K hK => ?_)
                  refine step_append_any _ (by rfl) _ _ _ (by rfl) W.heap.size 33 i0 _ 9 72 Tryd.underlying34 hi hz0 hz1 hz2 rfl (by omega) v4 (0 + at1) ([] ++ rowR (A.take at1)) (by rfl) kO6 (w4.heap.size + 1) (some ⟨w4.heap.size, 0, none⟩) 1 1 e.cells (by rfl) kR6 (rt_one e) (by unfold maxLen; omega) (by omega) kB6.size ?_
                  intro v7 w7 hown7 hgr7 _
                  have kB7 : Below W.heap.size W w7 := kB6.trans (below_own kO6 kB6.size hgr7)
                  (refine hK.out _ _ (kB7) ?_; clear hK K; try simp only [Act.put, List.setIfInBounds_toArray, List.set_cons_zero, List.set_cons_succ])
                  (repeat (first | (refine Plan.tree_read (v := ?_) rfl rfl ?_ ?_; rotate_left; (focus ((intro wS hSw; have hkS := (bcell hSw).1; try (have hkT := fun (b o : Nat) (h : b < w.heap.size) => hkS b o (by first | omega | (simp; omega) | (simp; done))); go_simp); try with_reducible rfl)); simp only [Act.put, List.setIfInBounds_toArray, List.set_cons_zero, List.set_cons_succ]) | (refine Plan.tree_skip rfl rfl ?_; simp only [Act.put, List.setIfInBounds_toArray, List.set_cons_zero, List.set_cons_succ])))
                  refine Plan.tree_write rfl (fun K hK => ?_)
                  refine step_append_any _ (by rfl) _ _ _ (by rfl) W.heap.size 33 i0 _ 9 72 Tryd.underlying34 hi hz0 hz1 hz2 rfl (by omega) v7 (0 + at1 + 1) ([] ++ rowR (A.take at1) ++ e.cells) (by rfl) hown7 W.heap.size Cr (A.length - at1) cr (rowR (A.drop at1)) (by rfl) (by have := reads_rights (hCr.below kB7); rw [HDL.out] at this; exact this) (rowR_one _) (by unfold maxLen; omega) (by omega) kB7.size ?_
                  intro v9 w9 hown9 hgr9 _
                  have kB9 : Below W.heap.size W w9 := kB7.trans (below_own hown7 kB7.size hgr9)
                  clear kB0 kO0 kB4 hown4 hgr4 kB6 kO6 kR6 kB7 hown7 hgr7 hgr9
                  (refine hK.out _ _ (kB9) ?_; clear hK K; try simp only [Act.put, List.setIfInBounds_toArray, List.set_cons_zero, List.set_cons_succ])
                  (repeat (first | (refine Plan.tree_read (v := ?_) rfl rfl ?_ ?_; rotate_left; (focus ((intro wS hSw; have hkS := (bcell hSw).1; try (have hkT := fun (b o : Nat) (h : b < w.heap.size) => hkS b o (by first | omega | (simp; omega) | (simp; done))); go_simp); try with_reducible rfl)); simp only [Act.put, List.setIfInBounds_toArray, List.set_cons_zero, List.set_cons_succ]) | (refine Plan.tree_skip rfl rfl ?_; simp only [Act.put, List.setIfInBounds_toArray, List.set_cons_zero, List.set_cons_succ])))
                  refine Plan.tree_done ?_
                  rw [List.nil_append, ← rowR_snoc, ← rowR_append] at hown9
                  have hlenF : (0 + at1 + 1 + (A.length - at1)) = (A.take at1 ++ [e] ++ A.drop at1).length := by simp; omega
                  rw [hlenF] at hown9
                  obtain ⟨D9, c9, he9, hD9, hF9⟩ := rights_of_owns hown9
                  have hcap9 := owns_cap hown9 he9
                  subst he9
                  have HE9 := Lib.hid hD9
                  have hbF : Below w.heap.size w w9 := hBW.trans (kB9.mono hzW)
                  clear hown9 hD9 kB9 hF9 hlenF
                  go_wp2_with fail
                  go_roundw
                  case rel =>
                    have hsh9 : (A.take at1 ++ [e] ++ A.drop at1 = [] ∧ D9 = none ∧ c9 = 0) ∨ ∃ bq oq, D9 = some ⟨bq, oq, none⟩ := Or.inr (by obtain ⟨b, o, hq, _⟩ := HE9.out (by simp; omega); exact ⟨b, o, hq⟩)
                    refine ⟨k + 1, D9, c9, A.take at1 ++ [e] ++ A.drop at1, by omega, by go_num, rfl, ?_, hcap9, HE9.out, hbF, hbF.size, hsh9⟩
                    show _ = _
                    rw [hstep.out k e HX.out, ← hA.out, HM.out, List.append_assoc]
                    rfl
                  case measure => simp [intOf]; omega
                · (try go_simp)
                  have kO1 := kO0
                  have kB1 := kB0
                  clear kO0 kB0
                  have kB0 : Below W.heap.size W ((W.alloc (.cells #[] 33)).alloc (.cells e.cells.toArray 33)).drew := (((Below.refl _ _).alloc (Nat.le_refl _) _).alloc (by simp) _).drew
                  have kO0 : (((W.alloc (.cells #[] 33)).alloc (.cells e.cells.toArray 33)).drew).ownsRow W.heap.size 33 9 (.slice (some ⟨W.heap.size, 0, none⟩) 0 0) 0 [] := ((World.ownsRow_made W #[] 0 (Nat.le_refl _) (by unfold maxLen; omega) (by simp)).alloc _).drew
                  have kR6 : Reads (((W.alloc (.cells #[] 33)).alloc (.cells e.cells.toArray 33)).drew) (W.heap.size + 1 + 1) 9 (some ⟨W.heap.size + 1, 0, none⟩) 1 e.cells := ⟨rfl, fun _ => ⟨_, rfl, Nat.lt_succ_self _, cells_at (w := W.alloc (.cells #[] 33)) (by simp) _ _⟩⟩
                  (refine hK.out _ _ (kB0) ?_; clear hK K; try simp only [Act.put, List.setIfInBounds_toArray, List.set_cons_zero, List.set_cons_succ])
                  (repeat (first | (refine Plan.tree_read (v := ?_) rfl rfl ?_ ?_; rotate_left; (focus ((intro wS hSw; have hkS := (bcell hSw).1; try (have hkT := fun (b o : Nat) (h : b < w.heap.size) => hkS b o (by first | omega | (simp; omega) | (simp; done))); go_simp); try with_reducible rfl)); simp only [Act.put, List.setIfInBounds_toArray, List.set_cons_zero, List.set_cons_succ]) | (refine Plan.tree_skip rfl rfl ?_; simp only [Act.put, List.setIfInBounds_toArray, List.set_cons_zero, List.set_cons_succ])))
                  refine Plan.tree_write rfl (fun K hK => ?_)
                  refine step_append_any _ (by rfl) _ _ _ (by rfl) W.heap.size 33 i0 _ 9 72 Tryd.underlying34 hi hz0 hz1 hz2 rfl (by omega) _ (0) ([]) (by rfl) kO0 W.heap.size (some ⟨bx, ox, none⟩) at1 dc (rowR (A.take at1)) (by rfl) (by have := reads_rights (hTk.below kB0); rw [HTL.out] at this; exact this) (rowR_one _) (by unfold maxLen; omega) (by omega) kB0.size ?_
                  intro v4 w4 hown4 hgr4 _
                  have kB4 : Below W.heap.size W w4 := kB0.trans (below_own kO0 kB0.size hgr4)
                  have kR4 : Reads w4 w4.heap.size 9 (some ⟨W.heap.size + 1, 0, none⟩) 1 e.cells := kR6.grown_off (by simp) hgr4 (by simp [Value.ownBlock])
                  (refine hK.out _ _ (kB4) ?_; clear hK K; try simp only [Act.put, List.setIfInBounds_toArray, List.set_cons_zero, List.set_cons_succ])
                  (repeat (first | (refine Plan.tree_read (v := ?_) rfl rfl ?_ ?_; rotate_left; (focus ((intro wS hSw; have hkS := (bcell hSw).1; try (have hkT := fun (b o : Nat) (h : b < w.heap.size) => hkS b o (by first | omega | (simp; omega) | (simp; done))); go_simp); try with_reducible rfl)); simp only [Act.put, List.setIfInBounds_toArray, List.set_cons_zero, List.set_cons_succ]) | (refine Plan.tree_skip rfl rfl ?_; simp only [Act.put, List.setIfInBounds_toArray, List.set_cons_zero, List.set_cons_succ])))
                  refine Plan.tree_write rfl (fun K hK => ?_)
                  refine step_append_any _ (by rfl) _ _ _ (by rfl) W.heap.size 33 i0 _ 9 72 Tryd.underlying34 hi hz0 hz1 hz2 rfl (by omega) v4 (0 + at1) ([] ++ rowR (A.take at1)) (by rfl) hown4 w4.heap.size (some ⟨W.heap.size + 1, 0, none⟩) 1 1 e.cells (by rfl) kR4 (rt_one e) (by unfold maxLen; omega) (by omega) kB4.size ?_
                  intro v7 w7 hown7 hgr7 _
                  have kB7 : Below W.heap.size W w7 := kB4.trans (below_own hown4 kB4.size hgr7)
                  (refine hK.out _ _ (kB7) ?_; clear hK K; try simp only [Act.put, List.setIfInBounds_toArray, List.set_cons_zero, List.set_cons_succ])
                  (repeat (first | (refine Plan.tree_read (v := ?_) rfl rfl ?_ ?_; rotate_left; (focus ((intro wS hSw; have hkS := (bcell hSw).1; try (have hkT := fun (b o : Nat) (h : b < w.heap.size) => hkS b o (by first | omega | (simp; omega) | (simp; done))); go_simp); try with_reducible rfl)); simp only [Act.put, List.setIfInBounds_toArray, List.set_cons_zero, List.set_cons_succ]) | (refine Plan.tree_skip rfl rfl ?_; simp only [Act.put, List.setIfInBounds_toArray, List.set_cons_zero, List.set_cons_succ])))
                  refine Plan.tree_write rfl (fun K hK => ?_)
                  refine step_append_any _ (by rfl) _ _ _ (by rfl) W.heap.size 33 i0 _ 9 72 Tryd.underlying34 hi hz0 hz1 hz2 rfl (by omega) v7 (0 + at1 + 1) ([] ++ rowR (A.take at1) ++ e.cells) (by rfl) hown7 W.heap.size Cr (A.length - at1) cr (rowR (A.drop at1)) (by rfl) (by have := reads_rights (hCr.below kB7); rw [HDL.out] at this; exact this) (rowR_one _) (by unfold maxLen; omega) (by omega) kB7.size ?_
                  intro v9 w9 hown9 hgr9 _
                  have kB9 : Below W.heap.size W w9 := kB7.trans (below_own hown7 kB7.size hgr9)
                  clear kB0 kO0 kB4 hown4 hgr4 kR6 kR4 kB7 hown7 hgr7 hgr9
                  (refine hK.out _ _ (kB9) ?_; clear hK K; try simp only [Act.put, List.setIfInBounds_toArray, List.set_cons_zero, List.set_cons_succ])
                  (repeat (first | (refine Plan.tree_read (v := ?_) rfl rfl ?_ ?_; rotate_left; (focus ((intro wS hSw; have hkS := (bcell hSw).1; try (have hkT := fun (b o : Nat) (h : b < w.heap.size) => hkS b o (by first | omega | (simp; omega) | (simp; done))); go_simp); try with_reducible rfl)); simp only [Act.put, List.setIfInBounds_toArray, List.set_cons_zero, List.set_cons_succ]) | (refine Plan.tree_skip rfl rfl ?_; simp only [Act.put, List.setIfInBounds_toArray, List.set_cons_zero, List.set_cons_succ])))
                  refine Plan.tree_done ?_
                  rw [List.nil_append, ← rowR_snoc, ← rowR_append] at hown9
                  have hlenF : (0 + at1 + 1 + (A.length - at1)) = (A.take at1 ++ [e] ++ A.drop at1).length := by simp; omega
                  rw [hlenF] at hown9
                  obtain ⟨D9, c9, he9, hD9, hF9⟩ := rights_of_owns hown9
                  have hcap9 := owns_cap hown9 he9
                  subst he9
                  have HE9 := Lib.hid hD9
                  have hbF : Below w.heap.size w w9 := hBW.trans (kB9.mono hzW)
                  clear hown9 hD9 kB9 hF9 hlenF
                  go_wp2_with fail
                  go_roundw
                  case rel =>
                    have hsh9 : (A.take at1 ++ [e] ++ A.drop at1 = [] ∧ D9 = none ∧ c9 = 0) ∨ ∃ bq oq, D9 = some ⟨bq, oq, none⟩ := Or.inr (by obtain ⟨b, o, hq, _⟩ := HE9.out (by simp; omega); exact ⟨b, o, hq⟩)
                    refine ⟨k + 1, D9, c9, A.take at1 ++ [e] ++ A.drop at1, by omega, by go_num, rfl, ?_, hcap9, HE9.out, hbF, hbF.size, hsh9⟩
                    show _ = _
                    rw [hstep.out k e HX.out, ← hA.out, HM.out, List.append_assoc]
                    rfl
                  case measure => simp [intOf]; omega
              · (try go_simp)
                have kB0 : Below W.heap.size W (W.alloc (.cells e.cells.toArray 33)).drew := ((Below.refl _ _).alloc (Nat.le_refl _) _).drew
                (refine hK.out _ _ (kB0) ?_; clear hK K; try simp only [Act.put, List.setIfInBounds_toArray, List.set_cons_zero, List.set_cons_succ])
                (repeat (first | (refine Plan.tree_read (v := ?_) rfl rfl ?_ ?_; rotate_left; (focus ((intro wS hSw; have hkS := (bcell hSw).1; try (have hkT := fun (b o : Nat) (h : b < w.heap.size) => hkS b o (by first | omega | (simp; omega) | (simp; done))); go_simp); try with_reducible rfl)); simp only [Act.put, List.setIfInBounds_toArray, List.set_cons_zero, List.set_cons_succ]) | (refine Plan.tree_skip rfl rfl ?_; simp only [Act.put, List.setIfInBounds_toArray, List.set_cons_zero, List.set_cons_succ])))
                (refine Plan.tree_write rfl (fun K hK => ?_); try go_simp)
                have kB1 := kB0
                clear kB0
                have kB0 : Below W.heap.size W ((W.alloc (.cells e.cells.toArray 33)).alloc (.cells #[] 33)).drew := (((Below.refl _ _).alloc (Nat.le_refl _) _).alloc (by simp) _).drew
                have kO0 : (((W.alloc (.cells e.cells.toArray 33)).alloc (.cells #[] 33)).drew).ownsRow W.heap.size 33 9 (.slice (some ⟨W.heap.size + 1, 0, none⟩) 0 0) 0 [] := by
                  have h := (World.ownsRow_made (size := 9) (base := W.heap.size) (e := 33) (W.alloc (.cells e.cells.toArray 33)) #[] 0 (by simp) (by unfold maxLen; omega) (by simp)).drew
                  rw [World.size_alloc] at h
                  exact h
                have kR6 : Reads (((W.alloc (.cells e.cells.toArray 33)).alloc (.cells #[] 33)).drew) (W.heap.size + 1) 9 (some ⟨W.heap.size, 0, none⟩) 1 e.cells := ⟨rfl, fun _ => ⟨_, rfl, Nat.lt_succ_self _, fun j u hj => by
                  have := cells_at (w := W) rfl 33 e.cells j u hj
                  rw [← this]
                  exact World.cell?_alloc_lt (W.alloc (.cells e.cells.toArray 33)) _ _ (by rw [block_of_add]; simp)⟩⟩
                (refine hK.out _ _ (kB0) ?_; clear hK K; try simp only [Act.put, List.setIfInBounds_toArray, List.set_cons_zero, List.set_cons_succ])
                (repeat (first | (refine Plan.tree_read (v := ?_) rfl rfl ?_ ?_; rotate_left; (focus ((intro wS hSw; have hkS := (bcell hSw).1; try (have hkT := fun (b o : Nat) (h : b < w.heap.size) => hkS b o (by first | omega | (simp; omega) | (simp; done))); go_simp); try with_reducible rfl)); simp only [Act.put, List.setIfInBounds_toArray, List.set_cons_zero, List.set_cons_succ]) | (refine Plan.tree_skip rfl rfl ?_; simp only [Act.put, List.setIfInBounds_toArray, List.set_cons_zero, List.set_cons_succ])))
                refine Plan.tree_write rfl (fun K hK => ?_)
                refine step_append_any _ (by rfl) _ _ _ (by rfl) W.heap.size 33 i0 _ 9 72 Tryd.underlying34 hi hz0 hz1 hz2 rfl (by omega) _ (0) ([]) (by rfl) kO0 W.heap.size (some ⟨bx, ox, none⟩) at1 dc (rowR (A.take at1)) (by rfl) (by have := reads_rights (hTk.below kB0); rw [HTL.out] at this; exact this) (rowR_one _) (by unfold maxLen; omega) (by omega) kB0.size ?_
                intro v4 w4 hown4 hgr4 _
                have kB4 : Below W.heap.size W w4 := kB0.trans (below_own kO0 kB0.size hgr4)
                have kR4 : Reads w4 w4.heap.size 9 (some ⟨W.heap.size, 0, none⟩) 1 e.cells := kR6.grown_off (by simp) hgr4 (by simp [Value.ownBlock])
                (refine hK.out _ _ (kB4) ?_; clear hK K; try simp only [Act.put, List.setIfInBounds_toArray, List.set_cons_zero, List.set_cons_succ])
                (repeat (first | (refine Plan.tree_read (v := ?_) rfl rfl ?_ ?_; rotate_left; (focus ((intro wS hSw; have hkS := (bcell hSw).1; try (have hkT := fun (b o : Nat) (h : b < w.heap.size) => hkS b o (by first | omega | (simp; omega) | (simp; done))); go_simp); try with_reducible rfl)); simp only [Act.put, List.setIfInBounds_toArray, List.set_cons_zero, List.set_cons_succ]) | (refine Plan.tree_skip rfl rfl ?_; simp only [Act.put, List.setIfInBounds_toArray, List.set_cons_zero, List.set_cons_succ])))
                refine Plan.tree_write rfl (fun K hK => ?_)
                refine step_append_any _ (by rfl) _ _ _ (by rfl) W.heap.size 33 i0 _ 9 72 Tryd.underlying34 hi hz0 hz1 hz2 rfl (by omega) v4 (0 + at1) ([] ++ rowR (A.take at1)) (by rfl) hown4 w4.heap.size (some ⟨W.heap.size, 0, none⟩) 1 1 e.cells (by rfl) kR4 (rt_one e) (by unfold maxLen; omega) (by omega) kB4.size ?_
                intro v7 w7 hown7 hgr7 _
                have kB7 : Below W.heap.size W w7 := kB4.trans (below_own hown4 kB4.size hgr7)
                (refine hK.out _ _ (kB7) ?_; clear hK K; try simp only [Act.put, List.setIfInBounds_toArray, List.set_cons_zero, List.set_cons_succ])
                (repeat (first | (refine Plan.tree_read (v := ?_) rfl rfl ?_ ?_; rotate_left; (focus ((intro wS hSw; have hkS := (bcell hSw).1; try (have hkT := fun (b o : Nat) (h : b < w.heap.size) => hkS b o (by first | omega | (simp; omega) | (simp; done))); go_simp); try with_reducible rfl)); simp only [Act.put, List.setIfInBounds_toArray, List.set_cons_zero, List.set_cons_succ]) | (refine Plan.tree_skip rfl rfl ?_; simp only [Act.put, List.setIfInBounds_toArray, List.set_cons_zero, List.set_cons_succ])))
                refine Plan.tree_write rfl (fun K hK => ?_)
                refine step_append_any _ (by rfl) _ _ _ (by rfl) W.heap.size 33 i0 _ 9 72 Tryd.underlying34 hi hz0 hz1 hz2 rfl (by omega) v7 (0 + at1 + 1) ([] ++ rowR (A.take at1) ++ e.cells) (by rfl) hown7 W.heap.size Cr (A.length - at1) cr (rowR (A.drop at1)) (by rfl) (by have := reads_rights (hCr.below kB7); rw [HDL.out] at this; exact this) (rowR_one _) (by unfold maxLen; omega) (by omega) kB7.size ?_
                intro v9 w9 hown9 hgr9 _
                have kB9 : Below W.heap.size W w9 := kB7.trans (below_own hown7 kB7.size hgr9)
                clear kB0 kO0 kB4 hown4 hgr4 kR6 kR4 kB7 hown7 hgr7 hgr9
                (refine hK.out _ _ (kB9) ?_; clear hK K; try simp only [Act.put, List.setIfInBounds_toArray, List.set_cons_zero, List.set_cons_succ])
                (repeat (first | (refine Plan.tree_read (v := ?_) rfl rfl ?_ ?_; rotate_left; (focus ((intro wS hSw; have hkS := (bcell hSw).1; try (have hkT := fun (b o : Nat) (h : b < w.heap.size) => hkS b o (by first | omega | (simp; omega) | (simp; done))); go_simp); try with_reducible rfl)); simp only [Act.put, List.setIfInBounds_toArray, List.set_cons_zero, List.set_cons_succ]) | (refine Plan.tree_skip rfl rfl ?_; simp only [Act.put, List.setIfInBounds_toArray, List.set_cons_zero, List.set_cons_succ])))
                refine Plan.tree_done ?_
                rw [List.nil_append, ← rowR_snoc, ← rowR_append] at hown9
                have hlenF : (0 + at1 + 1 + (A.length - at1)) = (A.take at1 ++ [e] ++ A.drop at1).length := by simp; omega
                rw [hlenF] at hown9
                obtain ⟨D9, c9, he9, hD9, hF9⟩ := rights_of_owns hown9
                have hcap9 := owns_cap hown9 he9
                subst he9
                have HE9 := Lib.hid hD9
                have hbF : Below w.heap.size w w9 := hBW.trans (kB9.mono hzW)
                clear hown9 hD9 kB9 hF9 hlenF
                go_wp2_with fail
                go_roundw
                case rel =>
                  have hsh9 : (A.take at1 ++ [e] ++ A.drop at1 = [] ∧ D9 = none ∧ c9 = 0) ∨ ∃ bq oq, D9 = some ⟨bq, oq, none⟩ := Or.inr (by obtain ⟨b, o, hq, _⟩ := HE9.out (by simp; omega); exact ⟨b, o, hq⟩)
                  refine ⟨k + 1, D9, c9, A.take at1 ++ [e] ++ A.drop at1, by omega, by go_num, rfl, ?_, hcap9, HE9.out, hbF, hbF.size, hsh9⟩
                  show _ = _
                  rw [hstep.out k e HX.out, ← hA.out, HM.out, List.append_assoc]
                  rfl
                case measure => simp [intOf]; omega
            · have hdc2 : at1 = dc := by omega
              subst hdc2
              have hQ : RightsAt W2 wq.heap.size (some ⟨bx, ox, none⟩) (A.drop at1) := by have := rights_drop hD2 (k := at1) (cf := at1) hat hcap; rwa [if_pos rfl] at this
              have HA0 : Hid (A.length - at1 = 0) := by show _ = _; omega
              have R10 := Lib.hid (fun (wx : World) (hb : Below W2.heap.size W2 wx) => reads_rights (hQ.below (hb.mono (by omega))))
              go_wp2_with (first | (at_builtin; go_loud (refine wpList_append_any _ rfl _ _ 34 rfl W2.heap.size 33 i0 _ 9 72 Tryd.underlying34 hi hz0 hz1 hz2 rfl (by decide) _ 0 [] rfl kO10.out wq.heap.size (some ⟨bx, ox, none⟩) 0 _ (rowR (A.drop at1)) rfl (by have := R10.out (W2.alloc (.cells #[] 33)) ((Below.refl _ _).alloc (Nat.le_refl _) _); rw [HDL.out] at this; rw [HA0.out] at this; exact this) (rowR_one _) (by unfold maxLen; omega) (by omega) (by simp) ?_); intro v10 W hown10 hgr10 _) | fail)
              have hbW := below_own kO10.out (by simp) hgr10
              have hBW2 : Below W2.heap.size W2 W := ((Below.refl _ _).alloc (Nat.le_refl _) _).trans hbW
              have hzW2 := hBW2.size
              have hBW : Below w.heap.size w W := (hBw.trans (hB2.mono hz)).trans (hBW2.mono (by omega))
              have hzW : w.heap.size ≤ W.heap.size := by omega
              have hbb : b < W.heap.size := by omega
              have hBWr : Below wq.heap.size wq W := hB2.trans (hBW2.mono hz2')
              have k0 := (hBWr.cell (p := ⟨b, off + k * 9, none⟩) hbw).trans r0
              have k1 := (hBWr.cell (p := ⟨b, off + k * 9 + 1, none⟩) hbw).trans r1
              have k2 := (hBWr.cell (p := ⟨b, off + k * 9 + 2, none⟩) hbw).trans r2
              have k3 := (hBWr.cell (p := ⟨b, off + k * 9 + 3, none⟩) hbw).trans r3
              have k4 := (hBWr.cell (p := ⟨b, off + k * 9 + 4, none⟩) hbw).trans r4
              have k5 := (hBWr.cell (p := ⟨b, off + k * 9 + 5, none⟩) hbw).trans r5
              have k6 := (hBWr.cell (p := ⟨b, off + k * 9 + 6, none⟩) hbw).trans r6
              have k7 := (hBWr.cell (p := ⟨b, off + k * 9 + 7, none⟩) hbw).trans r7
              have k8 := (hBWr.cell (p := ⟨b, off + k * 9 + 8, none⟩) hbw).trans r8
              have hTk : RightsAt W W.heap.size (some ⟨bx, ox, none⟩) (A.take at1) := ((rights_take hD2 at1).below (hBW2.mono (by omega))).more (by omega)
              have hown11 : W.ownsRow W2.heap.size 33 9 v10 (A.drop at1).length (rowR (A.drop at1)) := by have h := hown10; rw [List.nil_append, Nat.zero_add] at h; rw [HDL.out]; rw [HA0.out]; exact h
              obtain ⟨Cr, cr, hv10, hCr, _⟩ := rights_of_owns hown11
              subst hv10
              clear hown10 hown11 hgr10 hbW hBW2 hBWr r0 r1 r2 r3 r4 r5 r6 r7 r8 hQ R10 kO10 hD2 hB2
              go_wp2_with fail
              refine Plan.wp_region_tree (.rd 1 (.rd 2 (.rd 3 (.rd 5 (.rd 6 (.rd 7 (.rd 8 (.rd 11 (.two 0 (.two 4 (.wr 9 (.wr 10 (.wr 12 (.rd 13 .done)))) 9 (.wr 4 (.wr 10 (.wr 12 (.rd 13 .done))))) 9 (.wr 0 (.wr 4 (.wr 10 (.wr 12 (.rd 13 .done)))))))))))))) (by kernel_rfl) (by kernel_rfl) ?_
              (repeat (first | (refine Plan.tree_read (v := ?_) rfl rfl ?_ ?_; rotate_left; (focus ((intro wS hSw; have hkS := (bcell hSw).1; try (have hkT := fun (b o : Nat) (h : b < w.heap.size) => hkS b o (by first | omega | (simp; omega) | (simp; done))); go_simp); try with_reducible rfl)); simp only [Act.put, List.setIfInBounds_toArray, List.set_cons_zero, List.set_cons_succ]) | (refine Plan.tree_skip rfl rfl ?_; simp only [Act.put, List.setIfInBounds_toArray, List.set_cons_zero, List.set_cons_succ])))
              refine Plan.tree_two rfl rfl (fun K hK => ?_) (fun K hK => ?_)
              · have kB0 : Below W.heap.size W (W.alloc (.cells #[] 33)).drew := ((Below.refl _ _).alloc (Nat.le_refl _) _).drew
                have kO0 : ((W.alloc (.cells #[] 33)).drew).ownsRow W.heap.size 33 9 (.slice (some ⟨W.heap.size, 0, none⟩) 0 0) 0 [] := (World.ownsRow_made W #[] 0 (Nat.le_refl _) (by unfold maxLen; omega) (by simp)).drew
                (try go_simp)
                (refine hK.out _ _ (kB0) ?_; clear hK K; try simp only [Act.put, List.setIfInBounds_toArray, List.set_cons_zero, List.set_cons_succ])
                (repeat (first | (refine Plan.tree_read (v := ?_) rfl rfl ?_ ?_; rotate_left; (focus ((intro wS hSw; have hkS := (bcell hSw).1; try (have hkT := fun (b o : Nat) (h : b < w.heap.size) => hkS b o (by first | omega | (simp; omega) | (simp; done))); go_simp); try with_reducible rfl)); simp only [Act.put, List.setIfInBounds_toArray, List.set_cons_zero, List.set_cons_succ]) | (refine Plan.tree_skip rfl rfl ?_; simp only [Act.put, List.setIfInBounds_toArray, List.set_cons_zero, List.set_cons_succ])))
                refine Plan.tree_two rfl rfl (fun K hK => ?_) (fun K hK => ?_)
                · refine step_append_any _ (by rfl) _ _ _ (by rfl) W.heap.size 33 i0 _ 9 72 Tryd.underlying34 hi hz0 hz1 hz2 rfl (by omega) _ (0) ([]) (by rfl) kO0 W.heap.size (some ⟨bx, ox, none⟩) at1 at1 (rowR (A.take at1)) (by rfl) (by have := reads_rights (hTk.below kB0); rw [HTL.out] at this; exact this) (rowR_one _) (by unfold maxLen; omega) (by omega) (by simp) ?_
                  intro v4 w4 hown4 hgr4 _
                  have kB4 : Below W.heap.size W w4 := kB0.trans (below_own kO0 (by simp) hgr4)
                  (refine hK.out _ _ (kB4) ?_; clear hK K; try simp only [Act.put, List.setIfInBounds_toArray, List.set_cons_zero, List.set_cons_succ])
                  (repeat (first | (refine Plan.tree_read (v := ?_) rfl rfl ?_ ?_; rotate_left; (focus ((intro wS hSw; have hkS := (bcell hSw).1; try (have hkT := fun (b o : Nat) (h : b < w.heap.size) => hkS b o (by first | omega | (simp; omega) | (simp; done))); go_simp); try with_reducible rfl)); simp only [Act.put, List.setIfInBounds_toArray, List.set_cons_zero, List.set_cons_succ]) | (refine Plan.tree_skip rfl rfl ?_; simp only [Act.put, List.setIfInBounds_toArray, List.set_cons_zero, List.set_cons_succ])))
                  (refine Plan.tree_write rfl (fun K hK => ?_); try go_simp)
                  have kB6 : Below W.heap.size W (w4.alloc (.cells e.cells.toArray 33)) := kB4.alloc kB4.size _
                  have kO6 : (w4.alloc (.cells e.cells.toArray 33)).ownsRow W.heap.size 33 9 v4 (0 + at1) ([] ++ rowR (A.take at1)) := hown4.alloc _
                  have kR6 : Reads (w4.alloc (.cells e.cells.toArray 33)) (w4.heap.size + 1) 9 (some ⟨w4.heap.size, 0, none⟩) 1 e.cells := ⟨rfl, fun _ => ⟨_, rfl, Nat.lt_succ_self _, cells_at rfl _ _⟩⟩
                  (refine hK.out _ _ (kB6) ?_; clear hK K; try simp only [Act.put, List.setIfInBounds_toArray, List.set_cons_zero, List.set_cons_succ])
                  (repeat (first | (refine Plan.tree_read (v := ?_) rfl rfl ?_ ?_; rotate_left; (focus ((intro wS hSw; have hkS := (bcell hSw).1; try (have hkT := fun (b o : Nat) (h : b < w.heap.size) => hkS b o (by first | omega | (simp; omega) | (simp; done))); go_simp); try with_reducible rfl)); simp only [Act.put, List.setIfInBounds_toArray, List.set_cons_zero, List.set_cons_succ]) | (refine Plan.tree_skip rfl rfl ?_; simp only [Act.put, List.setIfInBounds_toArray, List.set_cons_zero, List.set_cons_succ])))
                  refine Plan.tree_write rfl (fun K hK => ?_)
                  refine step_append_any _ (by rfl) _ _ _ (by rfl) W.heap.size 33 i0 _ 9 72 Tryd.underlying34 hi hz0 hz1 hz2 rfl (by omega) v4 (0 + at1) ([] ++ rowR (A.take at1)) (by rfl) kO6 (w4.heap.size + 1) (some ⟨w4.heap.size, 0, none⟩) 1 1 e.cells (by rfl) kR6 (rt_one e) (by unfold maxLen; omega) (by omega) kB6.size ?_
                  intro v7 w7 hown7 hgr7 _
                  have kB7 : Below W.heap.size W w7 := kB6.trans (below_own kO6 kB6.size hgr7)
                  (refine hK.out _ _ (kB7) ?_; clear hK K; try simp only [Act.put, List.setIfInBounds_toArray, List.set_cons_zero, List.set_cons_succ])
                  (repeat (first | (refine Plan.tree_read (v := ?_) rfl rfl ?_ ?_; rotate_left; (focus ((intro wS hSw; have hkS := (bcell hSw).1; try (have hkT := fun (b o : Nat) (h : b < w.heap.size) => hkS b o (by first | omega | (simp; omega) | (simp; done))); go_simp); try with_reducible rfl)); simp only [Act.put, List.setIfInBounds_toArray, List.set_cons_zero, List.set_cons_succ]) | (refine Plan.tree_skip rfl rfl ?_; simp only [Act.put, List.setIfInBounds_toArray, List.set_cons_zero, List.set_cons_succ])))
                  refine Plan.tree_write rfl (fun K hK => ?_)
                  refine step_append_any _ (by rfl) _ _ _ (by rfl) W.heap.size 33 i0 _ 9 72 Tryd.underlying34 hi hz0 hz1 hz2 rfl (by omega) v7 (0 + at1 + 1) ([] ++ rowR (A.take at1) ++ e.cells) (by rfl) hown7 W.heap.size Cr 0 cr (rowR (A.drop at1)) (by rfl) (by have := reads_rights (hCr.below kB7); rw [HDL.out] at this; rw [HA0.out] at this; exact this) (rowR_one _) (by unfold maxLen; omega) (by omega) kB7.size ?_
                  intro v9 w9 hown9 hgr9 _
                  have kB9 : Below W.heap.size W w9 := kB7.trans (below_own hown7 kB7.size hgr9)
                  clear kB0 kO0 kB4 hown4 hgr4 kB6 kO6 kR6 kB7 hown7 hgr7 hgr9
                  (refine hK.out _ _ (kB9) ?_; clear hK K; try simp only [Act.put, List.setIfInBounds_toArray, List.set_cons_zero, List.set_cons_succ])
                  (repeat (first | (refine Plan.tree_read (v := ?_) rfl rfl ?_ ?_; rotate_left; (focus ((intro wS hSw; have hkS := (bcell hSw).1; try (have hkT := fun (b o : Nat) (h : b < w.heap.size) => hkS b o (by first | omega | (simp; omega) | (simp; done))); go_simp); try with_reducible rfl)); simp only [Act.put, List.setIfInBounds_toArray, List.set_cons_zero, List.set_cons_succ]) | (refine Plan.tree_skip rfl rfl ?_; simp only [Act.put, List.setIfInBounds_toArray, List.set_cons_zero, List.set_cons_succ])))
                  refine Plan.tree_done ?_
                  rw [List.nil_append, ← rowR_snoc, ← rowR_append] at hown9
                  have hlenF : (0 + at1 + 1 + 0) = (A.take at1 ++ [e] ++ A.drop at1).length := by simp; omega
                  rw [hlenF] at hown9
                  obtain ⟨D9, c9, he9, hD9, hF9⟩ := rights_of_owns hown9
                  have hcap9 := owns_cap hown9 he9
                  subst he9
                  have HE9 := Lib.hid hD9
                  have hbF : Below w.heap.size w w9 := hBW.trans (kB9.mono hzW)
                  clear hown9 hD9 kB9 hF9 hlenF
                  go_wp2_with fail
                  go_roundw
                  case rel =>
                    have hsh9 : (A.take at1 ++ [e] ++ A.drop at1 = [] ∧ D9 = none ∧ c9 = 0) ∨ ∃ bq oq, D9 = some ⟨bq, oq, none⟩ := Or.inr (by obtain ⟨b, o, hq, _⟩ := HE9.out (by simp; omega); exact ⟨b, o, hq⟩)
                    refine ⟨k + 1, D9, c9, A.take at1 ++ [e] ++ A.drop at1, by omega, by go_num, rfl, ?_, hcap9, HE9.out, hbF, hbF.size, hsh9⟩
                    show _ = _
                    rw [hstep.out k e HX.out, ← hA.out, HM.out, List.append_assoc]
                    rfl
                  case measure => simp [intOf]; omega
                · (try go_simp)
                  have kO1 := kO0
                  have kB1 := kB0
                  clear kO0 kB0
                  have kB0 : Below W.heap.size W ((W.alloc (.cells #[] 33)).alloc (.cells e.cells.toArray 33)).drew := (((Below.refl _ _).alloc (Nat.le_refl _) _).alloc (by simp) _).drew
                  have kO0 : (((W.alloc (.cells #[] 33)).alloc (.cells e.cells.toArray 33)).drew).ownsRow W.heap.size 33 9 (.slice (some ⟨W.heap.size, 0, none⟩) 0 0) 0 [] := ((World.ownsRow_made W #[] 0 (Nat.le_refl _) (by unfold maxLen; omega) (by simp)).alloc _).drew
                  have kR6 : Reads (((W.alloc (.cells #[] 33)).alloc (.cells e.cells.toArray 33)).drew) (W.heap.size + 1 + 1) 9 (some ⟨W.heap.size + 1, 0, none⟩) 1 e.cells := ⟨rfl, fun _ => ⟨_, rfl, Nat.lt_succ_self _, cells_at (w := W.alloc (.cells #[] 33)) (by simp) _ _⟩⟩
                  (refine hK.out _ _ (kB0) ?_; clear hK K; try simp only [Act.put, List.setIfInBounds_toArray, List.set_cons_zero, List.set_cons_succ])
                  (repeat (first | (refine Plan.tree_read (v := ?_) rfl rfl ?_ ?_; rotate_left; (focus ((intro wS hSw; have hkS := (bcell hSw).1; try (have hkT := fun (b o : Nat) (h : b < w.heap.size) => hkS b o (by first | omega | (simp; omega) | (simp; done))); go_simp); try with_reducible rfl)); simp only [Act.put, List.setIfInBounds_toArray, List.set_cons_zero, List.set_cons_succ]) | (refine Plan.tree_skip rfl rfl ?_; simp only [Act.put, List.setIfInBounds_toArray, List.set_cons_zero, List.set_cons_succ])))
                  refine Plan.tree_write rfl (fun K hK => ?_)
                  refine step_append_any _ (by rfl) _ _ _ (by rfl) W.heap.size 33 i0 _ 9 72 Tryd.underlying34 hi hz0 hz1 hz2 rfl (by omega) _ (0) ([]) (by rfl) kO0 W.heap.size (some ⟨bx, ox, none⟩) at1 at1 (rowR (A.take at1)) (by rfl) (by have := reads_rights (hTk.below kB0); rw [HTL.out] at this; exact this) (rowR_one _) (by unfold maxLen; omega) (by omega) kB0.size ?_
                  intro v4 w4 hown4 hgr4 _
                  have kB4 : Below W.heap.size W w4 := kB0.trans (below_own kO0 kB0.size hgr4)
                  have kR4 : Reads w4 w4.heap.size 9 (some ⟨W.heap.size + 1, 0, none⟩) 1 e.cells := kR6.grown_off (by simp) hgr4 (by simp [Value.ownBlock])
                  (refine hK.out _ _ (kB4) ?_; clear hK K; try simp only [Act.put, List.setIfInBounds_toArray, List.set_cons_zero, List.set_cons_succ])
                  (repeat (first | (refine Plan.tree_read (v := ?_) rfl rfl ?_ ?_; rotate_left; (focus ((intro wS hSw; have hkS := (bcell hSw).1; try (have hkT := fun (b o : Nat) (h : b < w.heap.size) => hkS b o (by first | omega | (simp; omega) | (simp; done))); go_simp); try with_reducible rfl)); simp only [Act.put, List.setIfInBounds_toArray, List.set_cons_zero, List.set_cons_succ]) | (refine Plan.tree_skip rfl rfl ?_; simp only [Act.put, List.setIfInBounds_toArray, List.set_cons_zero, List.set_cons_succ])))
                  refine Plan.tree_write rfl (fun K hK => ?_)
                  refine step_append_any _ (by rfl) _ _ _ (by rfl) W.heap.size 33 i0 _ 9 72 Tryd.underlying34 hi hz0 hz1 hz2 rfl (by omega) v4 (0 + at1) ([] ++ rowR (A.take at1)) (by rfl) hown4 w4.heap.size (some ⟨W.heap.size + 1, 0, none⟩) 1 1 e.cells (by rfl) kR4 (rt_one e) (by unfold maxLen; omega) (by omega) kB4.size ?_
                  intro v7 w7 hown7 hgr7 _
                  have kB7 : Below W.heap.size W w7 := kB4.trans (below_own hown4 kB4.size hgr7)
                  (refine hK.out _ _ (kB7) ?_; clear hK K; try simp only [Act.put, List.setIfInBounds_toArray, List.set_cons_zero, List.set_cons_succ])
                  (repeat (first | (refine Plan.tree_read (v := ?_) rfl rfl ?_ ?_; rotate_left; (focus ((intro wS hSw; have hkS := (bcell hSw).1; try (have hkT := fun (b o : Nat) (h : b < w.heap.size) => hkS b o (by first | omega | (simp; omega) | (simp; done))); go_simp); try with_reducible rfl)); simp only [Act.put, List.setIfInBounds_toArray, List.set_cons_zero, List.set_cons_succ]) | (refine Plan.tree_skip rfl rfl ?_; simp only [Act.put, List.setIfInBounds_toArray, List.set_cons_zero, List.set_cons_succ])))
                  refine Plan.tree_write rfl (fun K hK => ?_)
                  refine step_append_any _ (by rfl) _ _ _ (by rfl) W.heap.size 33 i0 _ 9 72 Tryd.underlying34 hi hz0 hz1 hz2 rfl (by omega) v7 (0 + at1 + 1) ([] ++ rowR (A.take at1) ++ e.cells) (by rfl) hown7 W.heap.size Cr 0 cr (rowR (A.drop at1)) (by rfl) (by have := reads_rights (hCr.below kB7); rw [HDL.out] at this; rw [HA0.out] at this; exact this) (rowR_one _) (by unfold maxLen; omega) (by omega) kB7.size ?_
                  intro v9 w9 hown9 hgr9 _
                  have kB9 : Below W.heap.size W w9 := kB7.trans (below_own hown7 kB7.size hgr9)
                  clear kB0 kO0 kB4 hown4 hgr4 kR6 kR4 kB7 hown7 hgr7 hgr9
                  (refine hK.out _ _ (kB9) ?_; clear hK K; try simp only [Act.put, List.setIfInBounds_toArray, List.set_cons_zero, List.set_cons_succ])
                  (repeat (first | (refine Plan.tree_read (v := ?_) rfl rfl ?_ ?_; rotate_left; (focus ((intro wS hSw; have hkS := (bcell hSw).1; try (have hkT := fun (b o : Nat) (h : b < w.heap.size) => hkS b o (by first | omega | (simp; omega) | (simp; done))); go_simp); try with_reducible rfl)); simp only [Act.put, List.setIfInBounds_toArray, List.set_cons_zero, List.set_cons_succ]) | (refine Plan.tree_skip rfl rfl ?_; simp only [Act.put, List.setIfInBounds_toArray, List.set_cons_zero, List.set_cons_succ])))
                  refine Plan.tree_done ?_
                  rw [List.nil_append, ← rowR_snoc, ← rowR_append] at hown9
                  have hlenF : (0 + at1 + 1 + 0) = (A.take at1 ++ [e] ++ A.drop at1).length := by simp; omega
                  rw [hlenF] at hown9
                  obtain ⟨D9, c9, he9, hD9, hF9⟩ := rights_of_owns hown9
                  have hcap9 := owns_cap hown9 he9
                  subst he9
                  have HE9 := Lib.hid hD9
                  have hbF : Below w.heap.size w w9 := hBW.trans (kB9.mono hzW)
                  clear hown9 hD9 kB9 hF9 hlenF
                  go_wp2_with fail
                  go_roundw
                  case rel =>
                    have hsh9 : (A.take at1 ++ [e] ++ A.drop at1 = [] ∧ D9 = none ∧ c9 = 0) ∨ ∃ bq oq, D9 = some ⟨bq, oq, none⟩ := Or.inr (by obtain ⟨b, o, hq, _⟩ := HE9.out (by simp; omega); exact ⟨b, o, hq⟩)
                    refine ⟨k + 1, D9, c9, A.take at1 ++ [e] ++ A.drop at1, by omega, by go_num, rfl, ?_, hcap9, HE9.out, hbF, hbF.size, hsh9⟩
                    show _ = _
                    rw [hstep.out k e HX.out, ← hA.out, HM.out, List.append_assoc]
                    rfl
                  case measure => simp [intOf]; omega
              · (try go_simp)
                have kB0 : Below W.heap.size W (W.alloc (.cells e.cells.toArray 33)).drew := ((Below.refl _ _).alloc (Nat.le_refl _) _).drew
                (refine hK.out _ _ (kB0) ?_; clear hK K; try simp only [Act.put, List.setIfInBounds_toArray, List.set_cons_zero, List.set_cons_succ])
                (repeat (first | (refine Plan.tree_read (v := ?_) rfl rfl ?_ ?_; rotate_left; (focus ((intro wS hSw; have hkS := (bcell hSw).1; try (have hkT := fun (b o : Nat) (h : b < w.heap.size) => hkS b o (by first | omega | (simp; omega) | (simp; done))); go_simp); try with_reducible rfl)); simp only [Act.put, List.setIfInBounds_toArray, List.set_cons_zero, List.set_cons_succ]) | (refine Plan.tree_skip rfl rfl ?_; simp only [Act.put, List.setIfInBounds_toArray, List.set_cons_zero, List.set_cons_succ])))
                (refine Plan.tree_write rfl (fun K hK => ?_); try go_simp)
                have kB1 := kB0
                clear kB0
                have kB0 : Below W.heap.size W ((W.alloc (.cells e.cells.toArray 33)).alloc (.cells #[] 33)).drew := (((Below.refl _ _).alloc (Nat.le_refl _) _).alloc (by simp) _).drew
                have kO0 : (((W.alloc (.cells e.cells.toArray 33)).alloc (.cells #[] 33)).drew).ownsRow W.heap.size 33 9 (.slice (some ⟨W.heap.size + 1, 0, none⟩) 0 0) 0 [] := by
                  have h := (World.ownsRow_made (size := 9) (base := W.heap.size) (e := 33) (W.alloc (.cells e.cells.toArray 33)) #[] 0 (by simp) (by unfold maxLen; omega) (by simp)).drew
                  rw [World.size_alloc] at h
                  exact h
                have kR6 : Reads (((W.alloc (.cells e.cells.toArray 33)).alloc (.cells #[] 33)).drew) (W.heap.size + 1) 9 (some ⟨W.heap.size, 0, none⟩) 1 e.cells := ⟨rfl, fun _ => ⟨_, rfl, Nat.lt_succ_self _, fun j u hj => by
                  have := cells_at (w := W) rfl 33 e.cells j u hj
                  rw [← this]
                  exact World.cell?_alloc_lt (W.alloc (.cells e.cells.toArray 33)) _ _ (by rw [block_of_add]; simp)⟩⟩
                (refine hK.out _ _ (kB0) ?_; clear hK K; try simp only [Act.put, List.setIfInBounds_toArray, List.set_cons_zero, List.set_cons_succ])
                (repeat (first | (refine Plan.tree_read (v := ?_) rfl rfl ?_ ?_; rotate_left; (focus ((intro wS hSw; have hkS := (bcell hSw).1; try (have hkT := fun (b o : Nat) (h : b < w.heap.size) => hkS b o (by first | omega | (simp; omega) | (simp; done))); go_simp); try with_reducible rfl)); simp only [Act.put, List.setIfInBounds_toArray, List.set_cons_zero, List.set_cons_succ]) | (refine Plan.tree_skip rfl rfl ?_; simp only [Act.put, List.setIfInBounds_toArray, List.set_cons_zero, List.set_cons_succ])))
                refine Plan.tree_write rfl (fun K hK => ?_)
                refine step_append_any _ (by rfl) _ _ _ (by rfl) W.heap.size 33 i0 _ 9 72 Tryd.underlying34 hi hz0 hz1 hz2 rfl (by omega) _ (0) ([]) (by rfl) kO0 W.heap.size (some ⟨bx, ox, none⟩) at1 at1 (rowR (A.take at1)) (by rfl) (by have := reads_rights (hTk.below kB0); rw [HTL.out] at this; exact this) (rowR_one _) (by unfold maxLen; omega) (by omega) kB0.size ?_
                intro v4 w4 hown4 hgr4 _
                have kB4 : Below W.heap.size W w4 := kB0.trans (below_own kO0 kB0.size hgr4)
                have kR4 : Reads w4 w4.heap.size 9 (some ⟨W.heap.size, 0, none⟩) 1 e.cells := kR6.grown_off (by simp) hgr4 (by simp [Value.ownBlock])
                (refine hK.out _ _ (kB4) ?_; clear hK K; try simp only [Act.put, List.setIfInBounds_toArray, List.set_cons_zero, List.set_cons_succ])
                (repeat (first | (refine Plan.tree_read (v := ?_) rfl rfl ?_ ?_; rotate_left; (focus ((intro wS hSw; have hkS := (bcell hSw).1; try (have hkT := fun (b o : Nat) (h : b < w.heap.size) => hkS b o (by first | omega | (simp; omega) | (simp; done))); go_simp); try with_reducible rfl)); simp only [Act.put, List.setIfInBounds_toArray, List.set_cons_zero, List.set_cons_succ]) | (refine Plan.tree_skip rfl rfl ?_; simp only [Act.put, List.setIfInBounds_toArray, List.set_cons_zero, List.set_cons_succ])))
                refine Plan.tree_write rfl (fun K hK => ?_)
                refine step_append_any _ (by rfl) _ _ _ (by rfl) W.heap.size 33 i0 _ 9 72 Tryd.underlying34 hi hz0 hz1 hz2 rfl (by omega) v4 (0 + at1) ([] ++ rowR (A.take at1)) (by rfl) hown4 w4.heap.size (some ⟨W.heap.size, 0, none⟩) 1 1 e.cells (by rfl) kR4 (rt_one e) (by unfold maxLen; omega) (by omega) kB4.size ?_
                intro v7 w7 hown7 hgr7 _
                have kB7 : Below W.heap.size W w7 := kB4.trans (below_own hown4 kB4.size hgr7)
                (refine hK.out _ _ (kB7) ?_; clear hK K; try simp only [Act.put, List.setIfInBounds_toArray, List.set_cons_zero, List.set_cons_succ])
                (repeat (first | (refine Plan.tree_read (v := ?_) rfl rfl ?_ ?_; rotate_left; (focus ((intro wS hSw; have hkS := (bcell hSw).1; try (have hkT := fun (b o : Nat) (h : b < w.heap.size) => hkS b o (by first | omega | (simp; omega) | (simp; done))); go_simp); try with_reducible rfl)); simp only [Act.put, List.setIfInBounds_toArray, List.set_cons_zero, List.set_cons_succ]) | (refine Plan.tree_skip rfl rfl ?_; simp only [Act.put, List.setIfInBounds_toArray, List.set_cons_zero, List.set_cons_succ])))
                refine Plan.tree_write rfl (fun K hK => ?_)
                refine step_append_any _ (by rfl) _ _ _ (by rfl) W.heap.size 33 i0 _ 9 72 Tryd.underlying34 hi hz0 hz1 hz2 rfl (by omega) v7 (0 + at1 + 1) ([] ++ rowR (A.take at1) ++ e.cells) (by rfl) hown7 W.heap.size Cr 0 cr (rowR (A.drop at1)) (by rfl) (by have := reads_rights (hCr.below kB7); rw [HDL.out] at this; rw [HA0.out] at this; exact this) (rowR_one _) (by unfold maxLen; omega) (by omega) kB7.size ?_
                intro v9 w9 hown9 hgr9 _
                have kB9 : Below W.heap.size W w9 := kB7.trans (below_own hown7 kB7.size hgr9)
                clear kB0 kO0 kB4 hown4 hgr4 kR6 kR4 kB7 hown7 hgr7 hgr9
                (refine hK.out _ _ (kB9) ?_; clear hK K; try simp only [Act.put, List.setIfInBounds_toArray, List.set_cons_zero, List.set_cons_succ])
                (repeat (first | (refine Plan.tree_read (v := ?_) rfl rfl ?_ ?_; rotate_left; (focus ((intro wS hSw; have hkS := (bcell hSw).1; try (have hkT := fun (b o : Nat) (h : b < w.heap.size) => hkS b o (by first | omega | (simp; omega) | (simp; done))); go_simp); try with_reducible rfl)); simp only [Act.put, List.setIfInBounds_toArray, List.set_cons_zero, List.set_cons_succ]) | (refine Plan.tree_skip rfl rfl ?_; simp only [Act.put, List.setIfInBounds_toArray, List.set_cons_zero, List.set_cons_succ])))
                refine Plan.tree_done ?_
                rw [List.nil_append, ← rowR_snoc, ← rowR_append] at hown9
                have hlenF : (0 + at1 + 1 + 0) = (A.take at1 ++ [e] ++ A.drop at1).length := by simp; omega
                rw [hlenF] at hown9
                obtain ⟨D9, c9, he9, hD9, hF9⟩ := rights_of_owns hown9
                have hcap9 := owns_cap hown9 he9
                subst he9
                have HE9 := Lib.hid hD9
                have hbF : Below w.heap.size w w9 := hBW.trans (kB9.mono hzW)
                clear hown9 hD9 kB9 hF9 hlenF
                go_wp2_with fail
                go_roundw
                case rel =>
                  have hsh9 : (A.take at1 ++ [e] ++ A.drop at1 = [] ∧ D9 = none ∧ c9 = 0) ∨ ∃ bq oq, D9 = some ⟨bq, oq, none⟩ := Or.inr (by obtain ⟨b, o, hq, _⟩ := HE9.out (by simp; omega); exact ⟨b, o, hq⟩)
                  refine ⟨k + 1, D9, c9, A.take at1 ++ [e] ++ A.drop at1, by omega, by go_num, rfl, ?_, hcap9, HE9.out, hbF, hbF.size, hsh9⟩
                  show _ = _
                  rw [hstep.out k e HX.out, ← hA.out, HM.out, List.append_assoc]
                  rfl
                case measure => simp [intOf]; omega
    · have hke : k = l.length := by omega
      subst hke
      have HE : Hid (orderR l = A) := by show _ = _; rw [hL.out, hA.out]
      go_wp2_with fail
      go_ret
      rw [HE.out]
      exact ⟨D, dc, rfl, hcap, hD, hBw⟩
end Go.Proofs.YtchmplnkddgncaaDoor
