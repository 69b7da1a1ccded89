/- The walk of the reference's Lines. (Printed by gen_w11.py.) -/
import Derived.Test.YtminphldifncaaaDoorW10
import Derived.Test.YtminphldifncaaaDoorW7
set_option linter.unusedSimpArgs false
set_option linter.unusedVariables false
namespace Go.Proofs.YtminphldifncaaaDoor
open Go.RowKit LG
attribute [local go_sem] alloc_drewN setCell_drewN shape_drewN

theorem ents_take {w : World} {B : Nat} {C : Option Addr} {L : List Et} (h : EntsAt w B C L) (c : Nat) : EntsAt w B C (L.take c) := fun hl => by
  rw [List.length_take] at hl
  obtain ⟨b, off, e, hb, hc⟩ := h (by omega)
  refine ⟨b, off, e, hb, fun k r hk => hc k r ?_⟩
  rw [List.getElem?_take] at hk
  split at hk
  · exact hk
  · cases hk
theorem ents_drop {w : World} {B b o : Nat} {L : List Et} (h : EntsAt w B (some ⟨b, o, none⟩) L) {k cf : Nat} (hk : k ≤ L.length) (hcf : L.length ≤ cf) :
    EntsAt w B (if cf = k then some ⟨b, o, none⟩ else some ⟨b, o + k * 7, none⟩) (L.drop k) := fun hl => by
  rw [List.length_drop] at hl
  rw [if_neg (by omega)]
  obtain ⟨b', off, e, hb, hc⟩ := h (by omega)
  obtain ⟨rfl, rfl⟩ : b = b' ∧ o = off := by simpa using e
  refine ⟨b, o + k * 7, rfl, hb, fun j r hj i v hv => ?_⟩
  rw [List.getElem?_drop] at hj
  have := hc (k + j) r hj i v hv
  rwa [show o + k * 7 + (j * 7 + i) = o + ((k + j) * 7 + i) by omega]
theorem Reads.grown_off {w w' : World} {B size n : Nat} {b o : Nat} {xs : List Value} {row : Option Nat} (h : Reads w B size (some ⟨b, o, none⟩) n xs) (hB : B ≤ w.heap.size) (hg : w.grownBy w' row) (hr : row ≠ some b) : Reads w' w'.heap.size size (some ⟨b, o, none⟩) n xs := by
  refine ⟨h.1, fun hn => ?_⟩
  obtain ⟨ad, e, hb, hc⟩ := h.2 hn
  cases e
  have hb' : b < B := hb
  have hz : w.heap.size ≤ w'.heap.size := hg.size
  refine ⟨_, rfl, (show b < _ by omega), fun j u hj => ?_⟩
  rw [← hc j u hj, Addr.add_lit]
  exact Plan.grown_cells hg b _ (by omega) (fun e => hr e.symm)
set_option maxRecDepth 100000 in
set_option maxHeartbeats 16000000 in
theorem rlines_any (l : List Et) (C : Option Addr) (cc : Nat) (owner fr un known : Int) (w : World) {B : Nat} (hC : EntsAt w B C l) (hB : B ≤ w.heap.size) (hl : l.length ≤ 1000000) :
    Calls Tryd.prog 48 #[.slice C l.length cc, .int .i64 owner, .int .i64 fr, .int .i64 un, .int .i64 known] w (EntsRes (linesR l owner fr un known) w) := by
  obtain ⟨i0, hi, hz0, hz1, hz2⟩ := info_parts Tryd.infoEntry
  obtain ⟨acc, hacc⟩ : ∃ f : Nat → List Et, f = fun k => ST.insSort ltDay (filT (lineB owner fr un known) l k) := ⟨_, rfl⟩
  have hL : Hid (linesR l owner fr un known = acc l.length) := by show _ = _; rw [hacc]; show _ = ST.insSort ltDay (filT _ l l.length); unfold linesR filT; rw [List.take_length]
  have hstep : Hid (∀ k e, l[k]? = some e → acc (k + 1) = if lineB owner fr un known e = true then ST.merge ltDay (acc k) [e] else acc k) := fun k e h => by
    rw [hacc]
    show ST.insSort ltDay (filT _ l (k + 1)) = _
    rw [filT_succ _ l h]
    split
    · rw [ST.insSort_snoc]
    · rfl
  have hasc : Hid (∀ k, ST.Asc ltDay (acc k)) := fun k => by rw [hacc]; exact (ST.insSort_stab ltDay swoDay _).asc
  have hlenA : Hid (∀ k, (acc k).length ≤ l.length) := fun k => by rw [hacc]; show (ST.insSort ltDay _).length ≤ _; rw [insSort_len]; exact filT_len _ l k
  have h0A : Hid (acc 0 = []) := by show _ = _; rw [hacc]; rfl
  clear hacc
  go_enter Tryd.func48, Tryd.ntmps48
  go_wp2_with fail
  go_loopw [11, 12] (fun out i wr => ∃ (k : Nat) (D : Option Addr) (dc : Nat) (A : List Et), k ≤ l.length ∧ i = .int .i64 k ∧ out = .slice D A.length dc ∧ Hid (A = acc k) ∧ A.length ≤ dc ∧ EntsAt wr wr.heap.size D A ∧ Below w.heap.size w wr ∧ w.heap.size ≤ wr.heap.size ∧ Hid ((A = [] ∧ D = none ∧ dc = 0) ∨ ∃ bo oo, D = some ⟨bo, oo, none⟩)) (fun _ i _ => l.length - (intOf i).toNat)
  case atStart => exact ⟨0, none, 0, [], Nat.zero_le _, rfl, rfl, h0A.out.symm, Nat.le_refl _, EntsAt.nil _ _ _, Below.refl _ _, Nat.le_refl _, Or.inl ⟨rfl, rfl, rfl⟩⟩
  case round =>
    obtain ⟨k, D, dc, A, hk, rfl, rfl, hA, hcap, hD, hBw, hz, hSh⟩ := hrel
    by_cases hlt : k < l.length
    · obtain ⟨e, hx⟩ : ∃ e, l[k]? = some e := ⟨_, List.getElem?_eq_getElem hlt⟩
      obtain ⟨b, off, rfl, hb, r0, r1, r2, r3, r4, r5, r6⟩ := (hC.below (hBw.mono hB)).at_ hx
      have hlen : A.length ≤ l.length := by rw [hA.out]; exact hlenA.out k
      have HX := Lib.hid hx
      have hbw : b < wr.heap.size := by omega
      clear hx
      cases hp : lineB owner fr un known e with
      | false =>
        have HN : Hid (acc (k + 1) = A) := by show _ = _; rw [hstep.out k e HX.out, if_neg (by simp [hp]), ← hA.out]
        have hd : ¬ (e.owner = owner ∧ fr ≤ e.day ∧ e.day ≤ un ∧ e.known ≤ known) := fun hq => by
          obtain ⟨q1, q2, q3, q4⟩ := hq
          unfold lineB wit at hp
          rw [decide_eq_true q1, decide_eq_true q2, decide_eq_true q3, decide_eq_true q4] at hp
          cases hp
        clear hp
        obtain ⟨b1, g1⟩ : ∃ b, (e.owner != owner) = b := ⟨_, rfl⟩
        obtain ⟨b2, g2⟩ : ∃ b, decide (e.day < fr) = b := ⟨_, rfl⟩
        obtain ⟨b3, g3⟩ : ∃ b, decide (un < e.day) = b := ⟨_, rfl⟩
        obtain ⟨b4, g4⟩ : ∃ b, decide (known < e.known) = b := ⟨_, rfl⟩
        have hor : (b1 || b2 || b3 || b4) = true := by
          cases b1 with
          | true => rfl
          | false => cases b2 with
            | true => rfl
            | false => cases b3 with
              | true => rfl
              | false => cases b4 with
                | true => rfl
                | false => exact absurd ⟨by simpa using g1, by simpa using g2, by simpa using g3, by simpa using g4⟩ hd
        have HOR := Lib.hid hor
        clear hor hd
        go_wp2_with fail
        all_goals first
          | (go_roundw
             case rel => exact ⟨k + 1, D, dc, A, by omega, by go_num, rfl, HN.out.symm, hcap, (hD.below ((Below.refl _ _).alloc (Nat.le_refl _) _)).more (by simp), hBw.alloc hz _, by simp; omega, hSh⟩
             case measure => simp [intOf]; omega)
          | (exfalso; have := HOR.out; simp_all; done)
          | fail
      | true =>
        have hd : e.owner = owner ∧ fr ≤ e.day ∧ e.day ≤ un ∧ e.known ≤ known := by
          unfold lineB wit at hp
          simp only [Bool.and_eq_true, decide_eq_true_eq] at hp
          exact ⟨hp.1.1, hp.1.2.1, hp.1.2.2, hp.2⟩
        have HP : Hid (lineB owner fr un known e = true) := hp
        have d1 : (e.owner != owner) = false := by simpa using hd.1
        have d2 : decide (e.day < fr) = false := decide_eq_false (by omega)
        have d3 : decide (un < e.day) = false := decide_eq_false (by omega)
        have d4 : decide (known < e.known) = false := decide_eq_false (by omega)
        clear hp hd
        go_wp2_with fail
        obtain ⟨W0, hW0⟩ : ∃ W0, W0 = wr.alloc (.cells #[.int .i64 e.day, .int .i64 e.known, .int .i64 e.owner, .int .i64 e.place, .int .i64 e.litres, .int .i64 e.why, .int .i64 e.ref] 34) := ⟨_, rfl⟩
        have hB0 : Below wr.heap.size wr W0 := by rw [hW0]; exact (Below.refl _ _).alloc (Nat.le_refl _) _
        have hz0' : wr.heap.size + 1 = W0.heap.size := by rw [hW0]; simp
        have u0 : W0.cell? ⟨wr.heap.size, 0, none⟩ = some (.int .i64 e.day) := by rw [hW0]; simp
        have u1 : W0.cell? ⟨wr.heap.size, 1, none⟩ = some (.int .i64 e.known) := by rw [hW0]; simp
        have u2 : W0.cell? ⟨wr.heap.size, 2, none⟩ = some (.int .i64 e.owner) := by rw [hW0]; simp
        have u3 : W0.cell? ⟨wr.heap.size, 3, none⟩ = some (.int .i64 e.place) := by rw [hW0]; simp
        have u4 : W0.cell? ⟨wr.heap.size, 4, none⟩ = some (.int .i64 e.litres) := by rw [hW0]; simp
        have u5 : W0.cell? ⟨wr.heap.size, 5, none⟩ = some (.int .i64 e.why) := by rw [hW0]; simp
        have u6 : W0.cell? ⟨wr.heap.size, 6, none⟩ = some (.int .i64 e.ref) := by rw [hW0]; simp
        rw [← hW0]
        clear hW0
        go_loopw [14] (fun s14 w2 => ∃ (at1 m : Nat), s14 = .int .i64 at1 ∧ at1 ≤ A.length ∧ Hid (∀ j x, at1 ≤ j → A[j]? = some x → ltDay e x = true) ∧ w2 = W0.drewN m) (fun s14 _ => (intOf s14).toNat)
        case atStart => exact ⟨A.length, 0, rfl, Nat.le_refl _, fun j x h1 h2 => absurd (List.getElem?_eq_some_iff.1 h2).1 (by omega), rfl⟩
        case round =>
          obtain ⟨at1, m, rfl, hat, hgt, hw2⟩ := hrel
          subst hw2
          have STOP : (0 < at1 → ∀ x, A[at1 - 1]? = some x → ltDay e x = false) → Hid (ST.merge ltDay A [e] = A.take at1 ++ e :: A.drop at1) := fun h => by
            have ha : ST.Asc ltDay A := by rw [hA.out]; exact hasc.out k
            exact ST.merge_at ltDay swoDay e ha hat hgt.out (fun x h0 hx => h h0 x hx)
          have STP := Lib.hid STOP
          clear STOP
          by_cases h0 : at1 = 0
          · have HM : Hid (ST.merge ltDay A [e] = A.take at1 ++ e :: A.drop at1) := STP.out (fun h => absurd h0 (by omega))
            have d0 : ¬ (0 : Int) < (at1 : Int) := by omega
            have d5 : decide ((0 : Int) < (at1 : Int)) = false := decide_eq_false d0
            have d6 : decide (0 < at1) = false := decide_eq_false (by omega)
            clear STP h0
            go_wp2_with fail
            go_quiet (fail)
            generalize hW2 : (W0.drewN m).drewN nq = W2
            have hB2 : Below wr.heap.size wr W2 := by rw [← hW2]; exact below_drewN (below_drewN hB0 _) _
            have hz2' : wr.heap.size + 1 = W2.heap.size := by rw [← hW2]; exact hz0'
            have hu : ∀ j, W2.cell? ⟨wr.heap.size, j, none⟩ = W0.cell? ⟨wr.heap.size, j, none⟩ := fun j => by rw [← hW2]; rfl
            have hD2 := hD.below hB2
            clear hW2 hB0 hz0' hD
            have hdl : (A.drop at1).length = A.length - at1 := List.length_drop ..
            have htl : (A.take at1).length = at1 := by rw [List.length_take]; omega
            have HDL := Lib.hid hdl
            have HTL := Lib.hid htl
            clear hdl htl
            have kO10 : Hid ((W2.alloc (.cells #[] 34)).ownsRow W2.heap.size 34 7 (.slice (some ⟨W2.heap.size, 0, none⟩) 0 0) 0 []) := World.ownsRow_made W2 #[] 0 (Nat.le_refl _) (by unfold maxLen; omega) rfl
            have hq1 : at1 ≤ dc := by omega
            have hq2 : (at1 : Int) ≤ (dc : Int) := by omega
            have hq3 : (0 : Int) ≤ (at1 : Int) := by omega
            have hq4 : (at1 : Int) ≤ (A.length : Int) := by omega
            rcases hSh.out with ⟨qA, qD, qc⟩ | ⟨bo, oo, qD⟩
            · subst qA
              subst qD
              subst qc
              obtain rfl : at1 = 0 := by simpa using hat
              go_wp2_with (first | (at_builtin; go_loud (refine wpList_append_any _ rfl _ _ 32 rfl W2.heap.size 34 i0 _ 7 56 Tryd.underlying32 hi hz0 hz1 hz2 rfl (by decide) _ 0 [] rfl kO10.out wr.heap.size none 0 _ [] rfl Reads.none_ (fun _ h => by cases h) (by unfold maxLen; omega) (by omega) (by simp) ?_); intro v10 W hown10 hgr10 _) | fail)
              have hbW := below_own kO10.out (by simp) hgr10
              have hBW2 : Below W2.heap.size W2 W := ((Below.refl _ _).alloc (Nat.le_refl _) _).trans hbW
              have hzW2 := hBW2.size
              have hBW : Below w.heap.size w W := (hBw.trans (hB2.mono hz)).trans (hBW2.mono (by omega))
              have hzW : w.heap.size ≤ W.heap.size := by omega
              have hcb : wr.heap.size < W.heap.size := by omega
              have kk : ∀ j, W.cell? ⟨wr.heap.size, j, none⟩ = W0.cell? ⟨wr.heap.size, j, none⟩ := fun j => (hBW2.cell (p := ⟨wr.heap.size, j, none⟩) (by show wr.heap.size < _; omega)).trans (hu j)
              have k0 := (kk 0).trans u0
              have k1 := (kk 1).trans u1
              have k2 := (kk 2).trans u2
              have k3 := (kk 3).trans u3
              have k4 := (kk 4).trans u4
              have k5 := (kk 5).trans u5
              have k6 := (kk 6).trans u6
              have hown11 : W.ownsRow W2.heap.size 34 7 v10 ([] : List Et).length (rowE []) := hown10
              obtain ⟨Cr, cr, hv10, hCr, _⟩ := ents_of_owns hown11
              subst hv10
              clear hown10 hown11 hgr10 hbW hBW2 kk u0 u1 u2 u3 u4 u5 u6 hu kO10 hD2 hB2
              go_wp2_with fail
              refine Plan.wp_region_tree (.rd 1 (.rd 2 (.rd 3 (.rd 5 (.rd 8 (.two 0 (.two 4 (.wr 6 (.wr 7 (.wr 9 (.rd 10 .done)))) 6 (.wr 4 (.wr 7 (.wr 9 (.rd 10 .done))))) 6 (.wr 0 (.wr 4 (.wr 7 (.wr 9 (.rd 10 .done))))))))))) (by kernel_rfl) (by kernel_rfl) ?_
              (repeat (first | (refine Plan.tree_read (v := ?_) rfl rfl ?_ ?_; rotate_left; (focus ((intro wS hSw; have hkS := (bcell hSw).1; try (have hkT := fun (b o : Nat) (h : b < w.heap.size) => hkS b o (by first | omega | (simp; omega) | (simp; done))); go_simp); try with_reducible rfl)); simp only [Act.put, List.setIfInBounds_toArray, List.set_cons_zero, List.set_cons_succ]) | (refine Plan.tree_skip rfl rfl ?_; simp only [Act.put, List.setIfInBounds_toArray, List.set_cons_zero, List.set_cons_succ])))
              refine Plan.tree_two rfl rfl (fun K hK => ?_) (fun K hK => ?_)
              · have kB0 : Below W.heap.size W (W.alloc (.cells #[] 34)).drew := ((Below.refl _ _).alloc (Nat.le_refl _) _).drew
                have kO0 : ((W.alloc (.cells #[] 34)).drew).ownsRow W.heap.size 34 7 (.slice (some ⟨W.heap.size, 0, none⟩) 0 0) 0 [] := (World.ownsRow_made W #[] 0 (Nat.le_refl _) (by unfold maxLen; omega) (by simp)).drew
                (try go_simp)
                (refine hK.out _ _ (kB0) ?_; clear hK K; try simp only [Act.put, List.setIfInBounds_toArray, List.set_cons_zero, List.set_cons_succ])
                (repeat (first | (refine Plan.tree_read (v := ?_) rfl rfl ?_ ?_; rotate_left; (focus ((intro wS hSw; have hkS := (bcell hSw).1; try (have hkT := fun (b o : Nat) (h : b < w.heap.size) => hkS b o (by first | omega | (simp; omega) | (simp; done))); go_simp); try with_reducible rfl)); simp only [Act.put, List.setIfInBounds_toArray, List.set_cons_zero, List.set_cons_succ]) | (refine Plan.tree_skip rfl rfl ?_; simp only [Act.put, List.setIfInBounds_toArray, List.set_cons_zero, List.set_cons_succ])))
                refine Plan.tree_two rfl rfl (fun K hK => ?_) (fun K hK => ?_)
                · refine step_append_any _ (by rfl) _ _ _ (by rfl) W.heap.size 34 i0 _ 7 56 Tryd.underlying32 hi hz0 hz1 hz2 rfl (by omega) _ (0) ([]) (by rfl) kO0 W.heap.size none 0 0 [] (by rfl) Reads.none_ (fun _ h => by cases h) (by unfold maxLen; omega) (by omega) (by simp) ?_
                  intro v4 w4 hown4 hgr4 _
                  have kB4 : Below W.heap.size W w4 := kB0.trans (below_own kO0 (by simp) hgr4)
                  (refine hK.out _ _ (kB4) ?_; clear hK K; try simp only [Act.put, List.setIfInBounds_toArray, List.set_cons_zero, List.set_cons_succ])
                  (repeat (first | (refine Plan.tree_read (v := ?_) rfl rfl ?_ ?_; rotate_left; (focus ((intro wS hSw; have hkS := (bcell hSw).1; try (have hkT := fun (b o : Nat) (h : b < w.heap.size) => hkS b o (by first | omega | (simp; omega) | (simp; done))); go_simp); try with_reducible rfl)); simp only [Act.put, List.setIfInBounds_toArray, List.set_cons_zero, List.set_cons_succ]) | (refine Plan.tree_skip rfl rfl ?_; simp only [Act.put, List.setIfInBounds_toArray, List.set_cons_zero, List.set_cons_succ])))
                  (refine Plan.tree_write rfl (fun K hK => ?_); try go_simp)
                  have kB6 : Below W.heap.size W (w4.alloc (.cells e.cells.toArray 34)) := kB4.alloc kB4.size _
                  have kO6 : (w4.alloc (.cells e.cells.toArray 34)).ownsRow W.heap.size 34 7 v4 (0 + 0) ([] ++ []) := hown4.alloc _
                  have kR6 : Reads (w4.alloc (.cells e.cells.toArray 34)) (w4.heap.size + 1) 7 (some ⟨w4.heap.size, 0, none⟩) 1 e.cells := ⟨rfl, fun _ => ⟨_, rfl, Nat.lt_succ_self _, cells_at rfl _ _⟩⟩
                  (refine hK.out _ _ (kB6) ?_; clear hK K; try simp only [Act.put, List.setIfInBounds_toArray, List.set_cons_zero, List.set_cons_succ])
                  (repeat (first | (refine Plan.tree_read (v := ?_) rfl rfl ?_ ?_; rotate_left; (focus ((intro wS hSw; have hkS := (bcell hSw).1; try (have hkT := fun (b o : Nat) (h : b < w.heap.size) => hkS b o (by first | omega | (simp; omega) | (simp; done))); go_simp); try with_reducible rfl)); simp only [Act.put, List.setIfInBounds_toArray, List.set_cons_zero, List.set_cons_succ]) | (refine Plan.tree_skip rfl rfl ?_; simp only [Act.put, List.setIfInBounds_toArray, List.set_cons_zero, List.set_cons_succ])))
                  refine Plan.tree_write rfl (fun K hK => ?_)
                  refine step_append_any _ (by rfl) _ _ _ (by rfl) W.heap.size 34 i0 _ 7 56 Tryd.underlying32 hi hz0 hz1 hz2 rfl (by omega) v4 (0 + 0) ([] ++ []) (by rfl) kO6 (w4.heap.size + 1) (some ⟨w4.heap.size, 0, none⟩) 1 1 e.cells (by rfl) kR6 (cells_one e) (by unfold maxLen; omega) (by omega) kB6.size ?_
                  intro v7 w7 hown7 hgr7 _
                  have kB7 : Below W.heap.size W w7 := kB6.trans (below_own kO6 kB6.size hgr7)
                  (refine hK.out _ _ (kB7) ?_; clear hK K; try simp only [Act.put, List.setIfInBounds_toArray, List.set_cons_zero, List.set_cons_succ])
                  (repeat (first | (refine Plan.tree_read (v := ?_) rfl rfl ?_ ?_; rotate_left; (focus ((intro wS hSw; have hkS := (bcell hSw).1; try (have hkT := fun (b o : Nat) (h : b < w.heap.size) => hkS b o (by first | omega | (simp; omega) | (simp; done))); go_simp); try with_reducible rfl)); simp only [Act.put, List.setIfInBounds_toArray, List.set_cons_zero, List.set_cons_succ]) | (refine Plan.tree_skip rfl rfl ?_; simp only [Act.put, List.setIfInBounds_toArray, List.set_cons_zero, List.set_cons_succ])))
                  refine Plan.tree_write rfl (fun K hK => ?_)
                  refine step_append_any _ (by rfl) _ _ _ (by rfl) W.heap.size 34 i0 _ 7 56 Tryd.underlying32 hi hz0 hz1 hz2 rfl (by omega) v7 (0 + 0 + 1) ([] ++ [] ++ e.cells) (by rfl) hown7 W.heap.size Cr 0 cr (rowE []) (by rfl) (reads_ents (hCr.below kB7)) (rowE_one _) (by unfold maxLen; omega) (by omega) kB7.size ?_
                  intro v9 w9 hown9 hgr9 _
                  have kB9 : Below W.heap.size W w9 := kB7.trans (below_own hown7 kB7.size hgr9)
                  clear kB0 kO0 kB4 hown4 hgr4 kB6 kO6 kR6 kB7 hown7 hgr7 hgr9
                  (refine hK.out _ _ (kB9) ?_; clear hK K; try simp only [Act.put, List.setIfInBounds_toArray, List.set_cons_zero, List.set_cons_succ])
                  (repeat (first | (refine Plan.tree_read (v := ?_) rfl rfl ?_ ?_; rotate_left; (focus ((intro wS hSw; have hkS := (bcell hSw).1; try (have hkT := fun (b o : Nat) (h : b < w.heap.size) => hkS b o (by first | omega | (simp; omega) | (simp; done))); go_simp); try with_reducible rfl)); simp only [Act.put, List.setIfInBounds_toArray, List.set_cons_zero, List.set_cons_succ]) | (refine Plan.tree_skip rfl rfl ?_; simp only [Act.put, List.setIfInBounds_toArray, List.set_cons_zero, List.set_cons_succ])))
                  refine Plan.tree_done ?_
                  have hown8 : w9.ownsRow W.heap.size 34 7 v9 [e].length (rowE [e]) := by simpa [rowE] using hown9
                  obtain ⟨D9, c9, he9, hD9, hF9⟩ := ents_of_owns hown8
                  have hcap9 := owns_cap hown8 he9
                  subst he9
                  have HE9 := Lib.hid hD9
                  have hbF : Below w.heap.size w w9 := hBW.trans (kB9.mono hzW)
                  clear hown9 hown8 hD9 kB9 hF9
                  go_wp2_with fail
                  go_roundw
                  case rel =>
                    have hsh9 : ([e] = [] ∧ D9 = none ∧ c9 = 0) ∨ ∃ bq oq, D9 = some ⟨bq, oq, none⟩ := Or.inr (by obtain ⟨b, o, hq, _⟩ := HE9.out (by simp); exact ⟨b, o, hq⟩)
                    refine ⟨k + 1, D9, c9, [e], by omega, by go_num, rfl, ?_, hcap9, HE9.out, hbF, hbF.size, hsh9⟩
                    show _ = _
                    rw [hstep.out k e HX.out, if_pos HP.out, ← hA.out, ST.merge_nil_left]
                  case measure => simp [intOf]; omega
                · (try go_simp)
                  have kO1 := kO0
                  have kB1 := kB0
                  clear kO0 kB0
                  have kB0 : Below W.heap.size W ((W.alloc (.cells #[] 34)).alloc (.cells e.cells.toArray 34)).drew := (((Below.refl _ _).alloc (Nat.le_refl _) _).alloc (by simp) _).drew
                  have kO0 : (((W.alloc (.cells #[] 34)).alloc (.cells e.cells.toArray 34)).drew).ownsRow W.heap.size 34 7 (.slice (some ⟨W.heap.size, 0, none⟩) 0 0) 0 [] := ((World.ownsRow_made W #[] 0 (Nat.le_refl _) (by unfold maxLen; omega) (by simp)).alloc _).drew
                  have kR6 : Reads (((W.alloc (.cells #[] 34)).alloc (.cells e.cells.toArray 34)).drew) (W.heap.size + 1 + 1) 7 (some ⟨W.heap.size + 1, 0, none⟩) 1 e.cells := ⟨rfl, fun _ => ⟨_, rfl, Nat.lt_succ_self _, cells_at (w := W.alloc (.cells #[] 34)) (by simp) _ _⟩⟩
                  (refine hK.out _ _ (kB0) ?_; clear hK K; try simp only [Act.put, List.setIfInBounds_toArray, List.set_cons_zero, List.set_cons_succ])
                  (repeat (first | (refine Plan.tree_read (v := ?_) rfl rfl ?_ ?_; rotate_left; (focus ((intro wS hSw; have hkS := (bcell hSw).1; try (have hkT := fun (b o : Nat) (h : b < w.heap.size) => hkS b o (by first | omega | (simp; omega) | (simp; done))); go_simp); try with_reducible rfl)); simp only [Act.put, List.setIfInBounds_toArray, List.set_cons_zero, List.set_cons_succ]) | (refine Plan.tree_skip rfl rfl ?_; simp only [Act.put, List.setIfInBounds_toArray, List.set_cons_zero, List.set_cons_succ])))
                  refine Plan.tree_write rfl (fun K hK => ?_)
                  refine step_append_any _ (by rfl) _ _ _ (by rfl) W.heap.size 34 i0 _ 7 56 Tryd.underlying32 hi hz0 hz1 hz2 rfl (by omega) _ (0) ([]) (by rfl) kO0 W.heap.size none 0 0 [] (by rfl) Reads.none_ (fun _ h => by cases h) (by unfold maxLen; omega) (by omega) kB0.size ?_
                  intro v4 w4 hown4 hgr4 _
                  have kB4 : Below W.heap.size W w4 := kB0.trans (below_own kO0 kB0.size hgr4)
                  have kR4 : Reads w4 w4.heap.size 7 (some ⟨W.heap.size + 1, 0, none⟩) 1 e.cells := kR6.grown_off (by simp) hgr4 (by simp [Value.ownBlock])
                  (refine hK.out _ _ (kB4) ?_; clear hK K; try simp only [Act.put, List.setIfInBounds_toArray, List.set_cons_zero, List.set_cons_succ])
                  (repeat (first | (refine Plan.tree_read (v := ?_) rfl rfl ?_ ?_; rotate_left; (focus ((intro wS hSw; have hkS := (bcell hSw).1; try (have hkT := fun (b o : Nat) (h : b < w.heap.size) => hkS b o (by first | omega | (simp; omega) | (simp; done))); go_simp); try with_reducible rfl)); simp only [Act.put, List.setIfInBounds_toArray, List.set_cons_zero, List.set_cons_succ]) | (refine Plan.tree_skip rfl rfl ?_; simp only [Act.put, List.setIfInBounds_toArray, List.set_cons_zero, List.set_cons_succ])))
                  refine Plan.tree_write rfl (fun K hK => ?_)
                  refine step_append_any _ (by rfl) _ _ _ (by rfl) W.heap.size 34 i0 _ 7 56 Tryd.underlying32 hi hz0 hz1 hz2 rfl (by omega) v4 (0 + 0) ([] ++ []) (by rfl) hown4 w4.heap.size (some ⟨W.heap.size + 1, 0, none⟩) 1 1 e.cells (by rfl) kR4 (cells_one e) (by unfold maxLen; omega) (by omega) kB4.size ?_
                  intro v7 w7 hown7 hgr7 _
                  have kB7 : Below W.heap.size W w7 := kB4.trans (below_own hown4 kB4.size hgr7)
                  (refine hK.out _ _ (kB7) ?_; clear hK K; try simp only [Act.put, List.setIfInBounds_toArray, List.set_cons_zero, List.set_cons_succ])
                  (repeat (first | (refine Plan.tree_read (v := ?_) rfl rfl ?_ ?_; rotate_left; (focus ((intro wS hSw; have hkS := (bcell hSw).1; try (have hkT := fun (b o : Nat) (h : b < w.heap.size) => hkS b o (by first | omega | (simp; omega) | (simp; done))); go_simp); try with_reducible rfl)); simp only [Act.put, List.setIfInBounds_toArray, List.set_cons_zero, List.set_cons_succ]) | (refine Plan.tree_skip rfl rfl ?_; simp only [Act.put, List.setIfInBounds_toArray, List.set_cons_zero, List.set_cons_succ])))
                  refine Plan.tree_write rfl (fun K hK => ?_)
                  refine step_append_any _ (by rfl) _ _ _ (by rfl) W.heap.size 34 i0 _ 7 56 Tryd.underlying32 hi hz0 hz1 hz2 rfl (by omega) v7 (0 + 0 + 1) ([] ++ [] ++ e.cells) (by rfl) hown7 W.heap.size Cr 0 cr (rowE []) (by rfl) (reads_ents (hCr.below kB7)) (rowE_one _) (by unfold maxLen; omega) (by omega) kB7.size ?_
                  intro v9 w9 hown9 hgr9 _
                  have kB9 : Below W.heap.size W w9 := kB7.trans (below_own hown7 kB7.size hgr9)
                  clear kB0 kO0 kB4 hown4 hgr4 kR6 kR4 kB7 hown7 hgr7 hgr9
                  (refine hK.out _ _ (kB9) ?_; clear hK K; try simp only [Act.put, List.setIfInBounds_toArray, List.set_cons_zero, List.set_cons_succ])
                  (repeat (first | (refine Plan.tree_read (v := ?_) rfl rfl ?_ ?_; rotate_left; (focus ((intro wS hSw; have hkS := (bcell hSw).1; try (have hkT := fun (b o : Nat) (h : b < w.heap.size) => hkS b o (by first | omega | (simp; omega) | (simp; done))); go_simp); try with_reducible rfl)); simp only [Act.put, List.setIfInBounds_toArray, List.set_cons_zero, List.set_cons_succ]) | (refine Plan.tree_skip rfl rfl ?_; simp only [Act.put, List.setIfInBounds_toArray, List.set_cons_zero, List.set_cons_succ])))
                  refine Plan.tree_done ?_
                  have hown8 : w9.ownsRow W.heap.size 34 7 v9 [e].length (rowE [e]) := by simpa [rowE] using hown9
                  obtain ⟨D9, c9, he9, hD9, hF9⟩ := ents_of_owns hown8
                  have hcap9 := owns_cap hown8 he9
                  subst he9
                  have HE9 := Lib.hid hD9
                  have hbF : Below w.heap.size w w9 := hBW.trans (kB9.mono hzW)
                  clear hown9 hown8 hD9 kB9 hF9
                  go_wp2_with fail
                  go_roundw
                  case rel =>
                    have hsh9 : ([e] = [] ∧ D9 = none ∧ c9 = 0) ∨ ∃ bq oq, D9 = some ⟨bq, oq, none⟩ := Or.inr (by obtain ⟨b, o, hq, _⟩ := HE9.out (by simp); exact ⟨b, o, hq⟩)
                    refine ⟨k + 1, D9, c9, [e], by omega, by go_num, rfl, ?_, hcap9, HE9.out, hbF, hbF.size, hsh9⟩
                    show _ = _
                    rw [hstep.out k e HX.out, if_pos HP.out, ← hA.out, ST.merge_nil_left]
                  case measure => simp [intOf]; omega
              · (try go_simp)
                have kB0 : Below W.heap.size W (W.alloc (.cells e.cells.toArray 34)).drew := ((Below.refl _ _).alloc (Nat.le_refl _) _).drew
                (refine hK.out _ _ (kB0) ?_; clear hK K; try simp only [Act.put, List.setIfInBounds_toArray, List.set_cons_zero, List.set_cons_succ])
                (repeat (first | (refine Plan.tree_read (v := ?_) rfl rfl ?_ ?_; rotate_left; (focus ((intro wS hSw; have hkS := (bcell hSw).1; try (have hkT := fun (b o : Nat) (h : b < w.heap.size) => hkS b o (by first | omega | (simp; omega) | (simp; done))); go_simp); try with_reducible rfl)); simp only [Act.put, List.setIfInBounds_toArray, List.set_cons_zero, List.set_cons_succ]) | (refine Plan.tree_skip rfl rfl ?_; simp only [Act.put, List.setIfInBounds_toArray, List.set_cons_zero, List.set_cons_succ])))
                (refine Plan.tree_write rfl (fun K hK => ?_); try go_simp)
                have kB1 := kB0
                clear kB0
                have kB0 : Below W.heap.size W ((W.alloc (.cells e.cells.toArray 34)).alloc (.cells #[] 34)).drew := (((Below.refl _ _).alloc (Nat.le_refl _) _).alloc (by simp) _).drew
                have kO0 : (((W.alloc (.cells e.cells.toArray 34)).alloc (.cells #[] 34)).drew).ownsRow W.heap.size 34 7 (.slice (some ⟨W.heap.size + 1, 0, none⟩) 0 0) 0 [] := by
                  have h := (World.ownsRow_made (size := 7) (base := W.heap.size) (e := 34) (W.alloc (.cells e.cells.toArray 34)) #[] 0 (by simp) (by unfold maxLen; omega) (by simp)).drew
                  rw [World.size_alloc] at h
                  exact h
                have kR6 : Reads (((W.alloc (.cells e.cells.toArray 34)).alloc (.cells #[] 34)).drew) (W.heap.size + 1) 7 (some ⟨W.heap.size, 0, none⟩) 1 e.cells := ⟨rfl, fun _ => ⟨_, rfl, Nat.lt_succ_self _, fun j u hj => by
                  have := cells_at (w := W) rfl 34 e.cells j u hj
                  rw [← this]
                  exact World.cell?_alloc_lt (W.alloc (.cells e.cells.toArray 34)) _ _ (by rw [block_of_add]; simp)⟩⟩
                (refine hK.out _ _ (kB0) ?_; clear hK K; try simp only [Act.put, List.setIfInBounds_toArray, List.set_cons_zero, List.set_cons_succ])
                (repeat (first | (refine Plan.tree_read (v := ?_) rfl rfl ?_ ?_; rotate_left; (focus ((intro wS hSw; have hkS := (bcell hSw).1; try (have hkT := fun (b o : Nat) (h : b < w.heap.size) => hkS b o (by first | omega | (simp; omega) | (simp; done))); go_simp); try with_reducible rfl)); simp only [Act.put, List.setIfInBounds_toArray, List.set_cons_zero, List.set_cons_succ]) | (refine Plan.tree_skip rfl rfl ?_; simp only [Act.put, List.setIfInBounds_toArray, List.set_cons_zero, List.set_cons_succ])))
                refine Plan.tree_write rfl (fun K hK => ?_)
                refine step_append_any _ (by rfl) _ _ _ (by rfl) W.heap.size 34 i0 _ 7 56 Tryd.underlying32 hi hz0 hz1 hz2 rfl (by omega) _ (0) ([]) (by rfl) kO0 W.heap.size none 0 0 [] (by rfl) Reads.none_ (fun _ h => by cases h) (by unfold maxLen; omega) (by omega) kB0.size ?_
                intro v4 w4 hown4 hgr4 _
                have kB4 : Below W.heap.size W w4 := kB0.trans (below_own kO0 kB0.size hgr4)
                have kR4 : Reads w4 w4.heap.size 7 (some ⟨W.heap.size, 0, none⟩) 1 e.cells := kR6.grown_off (by simp) hgr4 (by simp [Value.ownBlock])
                (refine hK.out _ _ (kB4) ?_; clear hK K; try simp only [Act.put, List.setIfInBounds_toArray, List.set_cons_zero, List.set_cons_succ])
                (repeat (first | (refine Plan.tree_read (v := ?_) rfl rfl ?_ ?_; rotate_left; (focus ((intro wS hSw; have hkS := (bcell hSw).1; try (have hkT := fun (b o : Nat) (h : b < w.heap.size) => hkS b o (by first | omega | (simp; omega) | (simp; done))); go_simp); try with_reducible rfl)); simp only [Act.put, List.setIfInBounds_toArray, List.set_cons_zero, List.set_cons_succ]) | (refine Plan.tree_skip rfl rfl ?_; simp only [Act.put, List.setIfInBounds_toArray, List.set_cons_zero, List.set_cons_succ])))
                refine Plan.tree_write rfl (fun K hK => ?_)
                refine step_append_any _ (by rfl) _ _ _ (by rfl) W.heap.size 34 i0 _ 7 56 Tryd.underlying32 hi hz0 hz1 hz2 rfl (by omega) v4 (0 + 0) ([] ++ []) (by rfl) hown4 w4.heap.size (some ⟨W.heap.size, 0, none⟩) 1 1 e.cells (by rfl) kR4 (cells_one e) (by unfold maxLen; omega) (by omega) kB4.size ?_
                intro v7 w7 hown7 hgr7 _
                have kB7 : Below W.heap.size W w7 := kB4.trans (below_own hown4 kB4.size hgr7)
                (refine hK.out _ _ (kB7) ?_; clear hK K; try simp only [Act.put, List.setIfInBounds_toArray, List.set_cons_zero, List.set_cons_succ])
                (repeat (first | (refine Plan.tree_read (v := ?_) rfl rfl ?_ ?_; rotate_left; (focus ((intro wS hSw; have hkS := (bcell hSw).1; try (have hkT := fun (b o : Nat) (h : b < w.heap.size) => hkS b o (by first | omega | (simp; omega) | (simp; done))); go_simp); try with_reducible rfl)); simp only [Act.put, List.setIfInBounds_toArray, List.set_cons_zero, List.set_cons_succ]) | (refine Plan.tree_skip rfl rfl ?_; simp only [Act.put, List.setIfInBounds_toArray, List.set_cons_zero, List.set_cons_succ])))
                refine Plan.tree_write rfl (fun K hK => ?_)
                refine step_append_any _ (by rfl) _ _ _ (by rfl) W.heap.size 34 i0 _ 7 56 Tryd.underlying32 hi hz0 hz1 hz2 rfl (by omega) v7 (0 + 0 + 1) ([] ++ [] ++ e.cells) (by rfl) hown7 W.heap.size Cr 0 cr (rowE []) (by rfl) (reads_ents (hCr.below kB7)) (rowE_one _) (by unfold maxLen; omega) (by omega) kB7.size ?_
                intro v9 w9 hown9 hgr9 _
                have kB9 : Below W.heap.size W w9 := kB7.trans (below_own hown7 kB7.size hgr9)
                clear kB0 kO0 kB4 hown4 hgr4 kR6 kR4 kB7 hown7 hgr7 hgr9
                (refine hK.out _ _ (kB9) ?_; clear hK K; try simp only [Act.put, List.setIfInBounds_toArray, List.set_cons_zero, List.set_cons_succ])
                (repeat (first | (refine Plan.tree_read (v := ?_) rfl rfl ?_ ?_; rotate_left; (focus ((intro wS hSw; have hkS := (bcell hSw).1; try (have hkT := fun (b o : Nat) (h : b < w.heap.size) => hkS b o (by first | omega | (simp; omega) | (simp; done))); go_simp); try with_reducible rfl)); simp only [Act.put, List.setIfInBounds_toArray, List.set_cons_zero, List.set_cons_succ]) | (refine Plan.tree_skip rfl rfl ?_; simp only [Act.put, List.setIfInBounds_toArray, List.set_cons_zero, List.set_cons_succ])))
                refine Plan.tree_done ?_
                have hown8 : w9.ownsRow W.heap.size 34 7 v9 [e].length (rowE [e]) := by simpa [rowE] using hown9
                obtain ⟨D9, c9, he9, hD9, hF9⟩ := ents_of_owns hown8
                have hcap9 := owns_cap hown8 he9
                subst he9
                have HE9 := Lib.hid hD9
                have hbF : Below w.heap.size w w9 := hBW.trans (kB9.mono hzW)
                clear hown9 hown8 hD9 kB9 hF9
                go_wp2_with fail
                go_roundw
                case rel =>
                  have hsh9 : ([e] = [] ∧ D9 = none ∧ c9 = 0) ∨ ∃ bq oq, D9 = some ⟨bq, oq, none⟩ := Or.inr (by obtain ⟨b, o, hq, _⟩ := HE9.out (by simp); exact ⟨b, o, hq⟩)
                  refine ⟨k + 1, D9, c9, [e], by omega, by go_num, rfl, ?_, hcap9, HE9.out, hbF, hbF.size, hsh9⟩
                  show _ = _
                  rw [hstep.out k e HX.out, if_pos HP.out, ← hA.out, ST.merge_nil_left]
                case measure => simp [intOf]; omega
            · subst qD
              rcases Nat.lt_or_ge at1 dc with hdc | hdc
              · have hdc2 : ¬ dc = at1 := by omega
                have hQ : EntsAt W2 wr.heap.size (some ⟨bo, oo + at1 * 7, none⟩) (A.drop at1) := by have := ents_drop hD2 (k := at1) (cf := dc) hat hcap; rwa [if_neg hdc2] at this
                have R10 := Lib.hid (fun (wx : World) (hb : Below W2.heap.size W2 wx) => reads_ents (hQ.below (hb.mono (by omega))))
                go_wp2_with (first | (at_builtin; go_loud (refine wpList_append_any _ rfl _ _ 32 rfl W2.heap.size 34 i0 _ 7 56 Tryd.underlying32 hi hz0 hz1 hz2 rfl (by decide) _ 0 [] rfl kO10.out wr.heap.size (some ⟨bo, oo + at1 * 7, none⟩) (A.length - at1) _ (rowE (A.drop at1)) rfl (by have := R10.out (W2.alloc (.cells #[] 34)) ((Below.refl _ _).alloc (Nat.le_refl _) _); rw [HDL.out] at this; exact this) (rowE_one _) (by unfold maxLen; omega) (by omega) (by simp) ?_); intro v10 W hown10 hgr10 _) | fail)
                have hbW := below_own kO10.out (by simp) hgr10
                have hBW2 : Below W2.heap.size W2 W := ((Below.refl _ _).alloc (Nat.le_refl _) _).trans hbW
                have hzW2 := hBW2.size
                have hBW : Below w.heap.size w W := (hBw.trans (hB2.mono hz)).trans (hBW2.mono (by omega))
                have hzW : w.heap.size ≤ W.heap.size := by omega
                have hcb : wr.heap.size < W.heap.size := by omega
                have kk : ∀ j, W.cell? ⟨wr.heap.size, j, none⟩ = W0.cell? ⟨wr.heap.size, j, none⟩ := fun j => (hBW2.cell (p := ⟨wr.heap.size, j, none⟩) (by show wr.heap.size < _; omega)).trans (hu j)
                have k0 := (kk 0).trans u0
                have k1 := (kk 1).trans u1
                have k2 := (kk 2).trans u2
                have k3 := (kk 3).trans u3
                have k4 := (kk 4).trans u4
                have k5 := (kk 5).trans u5
                have k6 := (kk 6).trans u6
                have hTk : EntsAt W W.heap.size (some ⟨bo, oo, none⟩) (A.take at1) := ((ents_take hD2 at1).below (hBW2.mono (by omega))).more (by omega)
                have hown11 : W.ownsRow W2.heap.size 34 7 v10 (A.drop at1).length (rowE (A.drop at1)) := by have h := hown10; rw [List.nil_append, Nat.zero_add] at h; rw [HDL.out]; exact h
                obtain ⟨Cr, cr, hv10, hCr, _⟩ := ents_of_owns hown11
                subst hv10
                clear hown10 hown11 hgr10 hbW hBW2 kk u0 u1 u2 u3 u4 u5 u6 hu hQ R10 kO10 hD2 hB2
                go_wp2_with fail
                refine Plan.wp_region_tree (.rd 1 (.rd 2 (.rd 3 (.rd 5 (.rd 8 (.two 0 (.two 4 (.wr 6 (.wr 7 (.wr 9 (.rd 10 .done)))) 6 (.wr 4 (.wr 7 (.wr 9 (.rd 10 .done))))) 6 (.wr 0 (.wr 4 (.wr 7 (.wr 9 (.rd 10 .done))))))))))) (by kernel_rfl) (by kernel_rfl) ?_
                (repeat (first | (refine Plan.tree_read (v := ?_) rfl rfl ?_ ?_; rotate_left; (focus ((intro wS hSw; have hkS := (bcell hSw).1; try (have hkT := fun (b o : Nat) (h : b < w.heap.size) => hkS b o (by first | omega | (simp; omega) | (simp; done))); go_simp); try with_reducible rfl)); simp only [Act.put, List.setIfInBounds_toArray, List.set_cons_zero, List.set_cons_succ]) | (refine Plan.tree_skip rfl rfl ?_; simp only [Act.put, List.setIfInBounds_toArray, List.set_cons_zero, List.set_cons_succ])))
                refine Plan.tree_two rfl rfl (fun K hK => ?_) (fun K hK => ?_)
                · have kB0 : Below W.heap.size W (W.alloc (.cells #[] 34)).drew := ((Below.refl _ _).alloc (Nat.le_refl _) _).drew
                  have kO0 : ((W.alloc (.cells #[] 34)).drew).ownsRow W.heap.size 34 7 (.slice (some ⟨W.heap.size, 0, none⟩) 0 0) 0 [] := (World.ownsRow_made W #[] 0 (Nat.le_refl _) (by unfold maxLen; omega) (by simp)).drew
                  (try go_simp)
                  (refine hK.out _ _ (kB0) ?_; clear hK K; try simp only [Act.put, List.setIfInBounds_toArray, List.set_cons_zero, List.set_cons_succ])
                  (repeat (first | (refine Plan.tree_read (v := ?_) rfl rfl ?_ ?_; rotate_left; (focus ((intro wS hSw; have hkS := (bcell hSw).1; try (have hkT := fun (b o : Nat) (h : b < w.heap.size) => hkS b o (by first | omega | (simp; omega) | (simp; done))); go_simp); try with_reducible rfl)); simp only [Act.put, List.setIfInBounds_toArray, List.set_cons_zero, List.set_cons_succ]) | (refine Plan.tree_skip rfl rfl ?_; simp only [Act.put, List.setIfInBounds_toArray, List.set_cons_zero, List.set_cons_succ])))
                  refine Plan.tree_two rfl rfl (fun K hK => ?_) (fun K hK => ?_)
                  · refine step_append_any _ (by rfl) _ _ _ (by rfl) W.heap.size 34 i0 _ 7 56 Tryd.underlying32 hi hz0 hz1 hz2 rfl (by omega) _ (0) ([]) (by rfl) kO0 W.heap.size (some ⟨bo, oo, none⟩) at1 dc (rowE (A.take at1)) (by rfl) (by have := reads_ents (hTk.below kB0); rw [HTL.out] at this; exact this) (rowE_one _) (by unfold maxLen; omega) (by omega) (by simp) ?_
                    intro v4 w4 hown4 hgr4 _
                    have kB4 : Below W.heap.size W w4 := kB0.trans (below_own kO0 (by simp) hgr4)
                    (refine hK.out _ _ (kB4) ?_; clear hK K; try simp only [Act.put, List.setIfInBounds_toArray, List.set_cons_zero, List.set_cons_succ])
                    (repeat (first | (refine Plan.tree_read (v := ?_) rfl rfl ?_ ?_; rotate_left; (focus ((intro wS hSw; have hkS := (bcell hSw).1; try (have hkT := fun (b o : Nat) (h : b < w.heap.size) => hkS b o (by first | omega | (simp; omega) | (simp; done))); go_simp); try with_reducible rfl)); simp only [Act.put, List.setIfInBounds_toArray, List.set_cons_zero, List.set_cons_succ]) | (refine Plan.tree_skip rfl rfl ?_; simp only [Act.put, List.setIfInBounds_toArray, List.set_cons_zero, List.set_cons_succ])))
                    (refine Plan.tree_write rfl (fun K hK => ?_); try go_simp)
                    have kB6 : Below W.heap.size W (w4.alloc (.cells e.cells.toArray 34)) := kB4.alloc kB4.size _
                    have kO6 : (w4.alloc (.cells e.cells.toArray 34)).ownsRow W.heap.size 34 7 v4 (0 + at1) ([] ++ rowE (A.take at1)) := hown4.alloc _
                    have kR6 : Reads (w4.alloc (.cells e.cells.toArray 34)) (w4.heap.size + 1) 7 (some ⟨w4.heap.size, 0, none⟩) 1 e.cells := ⟨rfl, fun _ => ⟨_, rfl, Nat.lt_succ_self _, cells_at rfl _ _⟩⟩
                    (refine hK.out _ _ (kB6) ?_; clear hK K; try simp only [Act.put, List.setIfInBounds_toArray, List.set_cons_zero, List.set_cons_succ])
                    (repeat (first | (refine Plan.tree_read (v := ?_) rfl rfl ?_ ?_; rotate_left; (focus ((intro wS hSw; have hkS := (bcell hSw).1; try (have hkT := fun (b o : Nat) (h : b < w.heap.size) => hkS b o (by first | omega | (simp; omega) | (simp; done))); go_simp); try with_reducible rfl)); simp only [Act.put, List.setIfInBounds_toArray, List.set_cons_zero, List.set_cons_succ]) | (refine Plan.tree_skip rfl rfl ?_; simp only [Act.put, List.setIfInBounds_toArray, List.set_cons_zero, List.set_cons_succ])))
                    refine Plan.tree_write rfl (fun K hK => ?_)
                    refine step_append_any _ (by rfl) _ _ _ (by rfl) W.heap.size 34 i0 _ 7 56 Tryd.underlying32 hi hz0 hz1 hz2 rfl (by omega) v4 (0 + at1) ([] ++ rowE (A.take at1)) (by rfl) kO6 (w4.heap.size + 1) (some ⟨w4.heap.size, 0, none⟩) 1 1 e.cells (by rfl) kR6 (cells_one e) (by unfold maxLen; omega) (by omega) kB6.size ?_
                    intro v7 w7 hown7 hgr7 _
                    have kB7 : Below W.heap.size W w7 := kB6.trans (below_own kO6 kB6.size hgr7)
                    (refine hK.out _ _ (kB7) ?_; clear hK K; try simp only [Act.put, List.setIfInBounds_toArray, List.set_cons_zero, List.set_cons_succ])
                    (repeat (first | (refine Plan.tree_read (v := ?_) rfl rfl ?_ ?_; rotate_left; (focus ((intro wS hSw; have hkS := (bcell hSw).1; try (have hkT := fun (b o : Nat) (h : b < w.heap.size) => hkS b o (by first | omega | (simp; omega) | (simp; done))); go_simp); try with_reducible rfl)); simp only [Act.put, List.setIfInBounds_toArray, List.set_cons_zero, List.set_cons_succ]) | (refine Plan.tree_skip rfl rfl ?_; simp only [Act.put, List.setIfInBounds_toArray, List.set_cons_zero, List.set_cons_succ])))
                    refine Plan.tree_write rfl (fun K hK => ?_)
                    refine step_append_any _ (by rfl) _ _ _ (by rfl) W.heap.size 34 i0 _ 7 56 Tryd.underlying32 hi hz0 hz1 hz2 rfl (by omega) v7 (0 + at1 + 1) ([] ++ rowE (A.take at1) ++ e.cells) (by rfl) hown7 W.heap.size Cr (A.length - at1) cr (rowE (A.drop at1)) (by rfl) (by have := reads_ents (hCr.below kB7); rw [HDL.out] at this; exact this) (rowE_one _) (by unfold maxLen; omega) (by omega) kB7.size ?_
                    intro v9 w9 hown9 hgr9 _
                    have kB9 : Below W.heap.size W w9 := kB7.trans (below_own hown7 kB7.size hgr9)
                    clear kB0 kO0 kB4 hown4 hgr4 kB6 kO6 kR6 kB7 hown7 hgr7 hgr9
                    (refine hK.out _ _ (kB9) ?_; clear hK K; try simp only [Act.put, List.setIfInBounds_toArray, List.set_cons_zero, List.set_cons_succ])
                    (repeat (first | (refine Plan.tree_read (v := ?_) rfl rfl ?_ ?_; rotate_left; (focus ((intro wS hSw; have hkS := (bcell hSw).1; try (have hkT := fun (b o : Nat) (h : b < w.heap.size) => hkS b o (by first | omega | (simp; omega) | (simp; done))); go_simp); try with_reducible rfl)); simp only [Act.put, List.setIfInBounds_toArray, List.set_cons_zero, List.set_cons_succ]) | (refine Plan.tree_skip rfl rfl ?_; simp only [Act.put, List.setIfInBounds_toArray, List.set_cons_zero, List.set_cons_succ])))
                    refine Plan.tree_done ?_
                    rw [List.nil_append, ← rowE_snoc, ← rowE_append] at hown9
                    have hlenF : (0 + at1 + 1 + (A.length - at1)) = (A.take at1 ++ [e] ++ A.drop at1).length := by simp; omega
                    rw [hlenF] at hown9
                    obtain ⟨D9, c9, he9, hD9, hF9⟩ := ents_of_owns hown9
                    have hcap9 := owns_cap hown9 he9
                    subst he9
                    have HE9 := Lib.hid hD9
                    have hbF : Below w.heap.size w w9 := hBW.trans (kB9.mono hzW)
                    clear hown9 hD9 kB9 hF9 hlenF
                    go_wp2_with fail
                    go_roundw
                    case rel =>
                      have hsh9 : (A.take at1 ++ [e] ++ A.drop at1 = [] ∧ D9 = none ∧ c9 = 0) ∨ ∃ bq oq, D9 = some ⟨bq, oq, none⟩ := Or.inr (by obtain ⟨b, o, hq, _⟩ := HE9.out (by simp; omega); exact ⟨b, o, hq⟩)
                      refine ⟨k + 1, D9, c9, A.take at1 ++ [e] ++ A.drop at1, by omega, by go_num, rfl, ?_, hcap9, HE9.out, hbF, hbF.size, hsh9⟩
                      show _ = _
                      rw [hstep.out k e HX.out, if_pos HP.out, ← hA.out, HM.out, List.append_assoc]
                      rfl
                    case measure => simp [intOf]; omega
                  · (try go_simp)
                    have kO1 := kO0
                    have kB1 := kB0
                    clear kO0 kB0
                    have kB0 : Below W.heap.size W ((W.alloc (.cells #[] 34)).alloc (.cells e.cells.toArray 34)).drew := (((Below.refl _ _).alloc (Nat.le_refl _) _).alloc (by simp) _).drew
                    have kO0 : (((W.alloc (.cells #[] 34)).alloc (.cells e.cells.toArray 34)).drew).ownsRow W.heap.size 34 7 (.slice (some ⟨W.heap.size, 0, none⟩) 0 0) 0 [] := ((World.ownsRow_made W #[] 0 (Nat.le_refl _) (by unfold maxLen; omega) (by simp)).alloc _).drew
                    have kR6 : Reads (((W.alloc (.cells #[] 34)).alloc (.cells e.cells.toArray 34)).drew) (W.heap.size + 1 + 1) 7 (some ⟨W.heap.size + 1, 0, none⟩) 1 e.cells := ⟨rfl, fun _ => ⟨_, rfl, Nat.lt_succ_self _, cells_at (w := W.alloc (.cells #[] 34)) (by simp) _ _⟩⟩
                    (refine hK.out _ _ (kB0) ?_; clear hK K; try simp only [Act.put, List.setIfInBounds_toArray, List.set_cons_zero, List.set_cons_succ])
                    (repeat (first | (refine Plan.tree_read (v := ?_) rfl rfl ?_ ?_; rotate_left; (focus ((intro wS hSw; have hkS := (bcell hSw).1; try (have hkT := fun (b o : Nat) (h : b < w.heap.size) => hkS b o (by first | omega | (simp; omega) | (simp; done))); go_simp); try with_reducible rfl)); simp only [Act.put, List.setIfInBounds_toArray, List.set_cons_zero, List.set_cons_succ]) | (refine Plan.tree_skip rfl rfl ?_; simp only [Act.put, List.setIfInBounds_toArray, List.set_cons_zero, List.set_cons_succ])))
                    refine Plan.tree_write rfl (fun K hK => ?_)
                    refine step_append_any _ (by rfl) _ _ _ (by rfl) W.heap.size 34 i0 _ 7 56 Tryd.underlying32 hi hz0 hz1 hz2 rfl (by omega) _ (0) ([]) (by rfl) kO0 W.heap.size (some ⟨bo, oo, none⟩) at1 dc (rowE (A.take at1)) (by rfl) (by have := reads_ents (hTk.below kB0); rw [HTL.out] at this; exact this) (rowE_one _) (by unfold maxLen; omega) (by omega) kB0.size ?_
                    intro v4 w4 hown4 hgr4 _
                    have kB4 : Below W.heap.size W w4 := kB0.trans (below_own kO0 kB0.size hgr4)
                    have kR4 : Reads w4 w4.heap.size 7 (some ⟨W.heap.size + 1, 0, none⟩) 1 e.cells := kR6.grown_off (by simp) hgr4 (by simp [Value.ownBlock])
                    (refine hK.out _ _ (kB4) ?_; clear hK K; try simp only [Act.put, List.setIfInBounds_toArray, List.set_cons_zero, List.set_cons_succ])
                    (repeat (first | (refine Plan.tree_read (v := ?_) rfl rfl ?_ ?_; rotate_left; (focus ((intro wS hSw; have hkS := (bcell hSw).1; try (have hkT := fun (b o : Nat) (h : b < w.heap.size) => hkS b o (by first | omega | (simp; omega) | (simp; done))); go_simp); try with_reducible rfl)); simp only [Act.put, List.setIfInBounds_toArray, List.set_cons_zero, List.set_cons_succ]) | (refine Plan.tree_skip rfl rfl ?_; simp only [Act.put, List.setIfInBounds_toArray, List.set_cons_zero, List.set_cons_succ])))
                    refine Plan.tree_write rfl (fun K hK => ?_)
                    refine step_append_any _ (by rfl) _ _ _ (by rfl) W.heap.size 34 i0 _ 7 56 Tryd.underlying32 hi hz0 hz1 hz2 rfl (by omega) v4 (0 + at1) ([] ++ rowE (A.take at1)) (by rfl) hown4 w4.heap.size (some ⟨W.heap.size + 1, 0, none⟩) 1 1 e.cells (by rfl) kR4 (cells_one e) (by unfold maxLen; omega) (by omega) kB4.size ?_
                    intro v7 w7 hown7 hgr7 _
                    have kB7 : Below W.heap.size W w7 := kB4.trans (below_own hown4 kB4.size hgr7)
                    (refine hK.out _ _ (kB7) ?_; clear hK K; try simp only [Act.put, List.setIfInBounds_toArray, List.set_cons_zero, List.set_cons_succ])
                    (repeat (first | (refine Plan.tree_read (v := ?_) rfl rfl ?_ ?_; rotate_left; (focus ((intro wS hSw; have hkS := (bcell hSw).1; try (have hkT := fun (b o : Nat) (h : b < w.heap.size) => hkS b o (by first | omega | (simp; omega) | (simp; done))); go_simp); try with_reducible rfl)); simp only [Act.put, List.setIfInBounds_toArray, List.set_cons_zero, List.set_cons_succ]) | (refine Plan.tree_skip rfl rfl ?_; simp only [Act.put, List.setIfInBounds_toArray, List.set_cons_zero, List.set_cons_succ])))
                    refine Plan.tree_write rfl (fun K hK => ?_)
                    refine step_append_any _ (by rfl) _ _ _ (by rfl) W.heap.size 34 i0 _ 7 56 Tryd.underlying32 hi hz0 hz1 hz2 rfl (by omega) v7 (0 + at1 + 1) ([] ++ rowE (A.take at1) ++ e.cells) (by rfl) hown7 W.heap.size Cr (A.length - at1) cr (rowE (A.drop at1)) (by rfl) (by have := reads_ents (hCr.below kB7); rw [HDL.out] at this; exact this) (rowE_one _) (by unfold maxLen; omega) (by omega) kB7.size ?_
                    intro v9 w9 hown9 hgr9 _
                    have kB9 : Below W.heap.size W w9 := kB7.trans (below_own hown7 kB7.size hgr9)
                    clear kB0 kO0 kB4 hown4 hgr4 kR6 kR4 kB7 hown7 hgr7 hgr9
                    (refine hK.out _ _ (kB9) ?_; clear hK K; try simp only [Act.put, List.setIfInBounds_toArray, List.set_cons_zero, List.set_cons_succ])
                    (repeat (first | (refine Plan.tree_read (v := ?_) rfl rfl ?_ ?_; rotate_left; (focus ((intro wS hSw; have hkS := (bcell hSw).1; try (have hkT := fun (b o : Nat) (h : b < w.heap.size) => hkS b o (by first | omega | (simp; omega) | (simp; done))); go_simp); try with_reducible rfl)); simp only [Act.put, List.setIfInBounds_toArray, List.set_cons_zero, List.set_cons_succ]) | (refine Plan.tree_skip rfl rfl ?_; simp only [Act.put, List.setIfInBounds_toArray, List.set_cons_zero, List.set_cons_succ])))
                    refine Plan.tree_done ?_
                    rw [List.nil_append, ← rowE_snoc, ← rowE_append] at hown9
                    have hlenF : (0 + at1 + 1 + (A.length - at1)) = (A.take at1 ++ [e] ++ A.drop at1).length := by simp; omega
                    rw [hlenF] at hown9
                    obtain ⟨D9, c9, he9, hD9, hF9⟩ := ents_of_owns hown9
                    have hcap9 := owns_cap hown9 he9
                    subst he9
                    have HE9 := Lib.hid hD9
                    have hbF : Below w.heap.size w w9 := hBW.trans (kB9.mono hzW)
                    clear hown9 hD9 kB9 hF9 hlenF
                    go_wp2_with fail
                    go_roundw
                    case rel =>
                      have hsh9 : (A.take at1 ++ [e] ++ A.drop at1 = [] ∧ D9 = none ∧ c9 = 0) ∨ ∃ bq oq, D9 = some ⟨bq, oq, none⟩ := Or.inr (by obtain ⟨b, o, hq, _⟩ := HE9.out (by simp; omega); exact ⟨b, o, hq⟩)
                      refine ⟨k + 1, D9, c9, A.take at1 ++ [e] ++ A.drop at1, by omega, by go_num, rfl, ?_, hcap9, HE9.out, hbF, hbF.size, hsh9⟩
                      show _ = _
                      rw [hstep.out k e HX.out, if_pos HP.out, ← hA.out, HM.out, List.append_assoc]
                      rfl
                    case measure => simp [intOf]; omega
                · (try go_simp)
                  have kB0 : Below W.heap.size W (W.alloc (.cells e.cells.toArray 34)).drew := ((Below.refl _ _).alloc (Nat.le_refl _) _).drew
                  (refine hK.out _ _ (kB0) ?_; clear hK K; try simp only [Act.put, List.setIfInBounds_toArray, List.set_cons_zero, List.set_cons_succ])
                  (repeat (first | (refine Plan.tree_read (v := ?_) rfl rfl ?_ ?_; rotate_left; (focus ((intro wS hSw; have hkS := (bcell hSw).1; try (have hkT := fun (b o : Nat) (h : b < w.heap.size) => hkS b o (by first | omega | (simp; omega) | (simp; done))); go_simp); try with_reducible rfl)); simp only [Act.put, List.setIfInBounds_toArray, List.set_cons_zero, List.set_cons_succ]) | (refine Plan.tree_skip rfl rfl ?_; simp only [Act.put, List.setIfInBounds_toArray, List.set_cons_zero, List.set_cons_succ])))
                  (refine Plan.tree_write rfl (fun K hK => ?_); try go_simp)
                  have kB1 := kB0
                  clear kB0
                  have kB0 : Below W.heap.size W ((W.alloc (.cells e.cells.toArray 34)).alloc (.cells #[] 34)).drew := (((Below.refl _ _).alloc (Nat.le_refl _) _).alloc (by simp) _).drew
                  have kO0 : (((W.alloc (.cells e.cells.toArray 34)).alloc (.cells #[] 34)).drew).ownsRow W.heap.size 34 7 (.slice (some ⟨W.heap.size + 1, 0, none⟩) 0 0) 0 [] := by
                    have h := (World.ownsRow_made (size := 7) (base := W.heap.size) (e := 34) (W.alloc (.cells e.cells.toArray 34)) #[] 0 (by simp) (by unfold maxLen; omega) (by simp)).drew
                    rw [World.size_alloc] at h
                    exact h
                  have kR6 : Reads (((W.alloc (.cells e.cells.toArray 34)).alloc (.cells #[] 34)).drew) (W.heap.size + 1) 7 (some ⟨W.heap.size, 0, none⟩) 1 e.cells := ⟨rfl, fun _ => ⟨_, rfl, Nat.lt_succ_self _, fun j u hj => by
                    have := cells_at (w := W) rfl 34 e.cells j u hj
                    rw [← this]
                    exact World.cell?_alloc_lt (W.alloc (.cells e.cells.toArray 34)) _ _ (by rw [block_of_add]; simp)⟩⟩
                  (refine hK.out _ _ (kB0) ?_; clear hK K; try simp only [Act.put, List.setIfInBounds_toArray, List.set_cons_zero, List.set_cons_succ])
                  (repeat (first | (refine Plan.tree_read (v := ?_) rfl rfl ?_ ?_; rotate_left; (focus ((intro wS hSw; have hkS := (bcell hSw).1; try (have hkT := fun (b o : Nat) (h : b < w.heap.size) => hkS b o (by first | omega | (simp; omega) | (simp; done))); go_simp); try with_reducible rfl)); simp only [Act.put, List.setIfInBounds_toArray, List.set_cons_zero, List.set_cons_succ]) | (refine Plan.tree_skip rfl rfl ?_; simp only [Act.put, List.setIfInBounds_toArray, List.set_cons_zero, List.set_cons_succ])))
                  refine Plan.tree_write rfl (fun K hK => ?_)
                  refine step_append_any _ (by rfl) _ _ _ (by rfl) W.heap.size 34 i0 _ 7 56 Tryd.underlying32 hi hz0 hz1 hz2 rfl (by omega) _ (0) ([]) (by rfl) kO0 W.heap.size (some ⟨bo, oo, none⟩) at1 dc (rowE (A.take at1)) (by rfl) (by have := reads_ents (hTk.below kB0); rw [HTL.out] at this; exact this) (rowE_one _) (by unfold maxLen; omega) (by omega) kB0.size ?_
                  intro v4 w4 hown4 hgr4 _
                  have kB4 : Below W.heap.size W w4 := kB0.trans (below_own kO0 kB0.size hgr4)
                  have kR4 : Reads w4 w4.heap.size 7 (some ⟨W.heap.size, 0, none⟩) 1 e.cells := kR6.grown_off (by simp) hgr4 (by simp [Value.ownBlock])
                  (refine hK.out _ _ (kB4) ?_; clear hK K; try simp only [Act.put, List.setIfInBounds_toArray, List.set_cons_zero, List.set_cons_succ])
                  (repeat (first | (refine Plan.tree_read (v := ?_) rfl rfl ?_ ?_; rotate_left; (focus ((intro wS hSw; have hkS := (bcell hSw).1; try (have hkT := fun (b o : Nat) (h : b < w.heap.size) => hkS b o (by first | omega | (simp; omega) | (simp; done))); go_simp); try with_reducible rfl)); simp only [Act.put, List.setIfInBounds_toArray, List.set_cons_zero, List.set_cons_succ]) | (refine Plan.tree_skip rfl rfl ?_; simp only [Act.put, List.setIfInBounds_toArray, List.set_cons_zero, List.set_cons_succ])))
                  refine Plan.tree_write rfl (fun K hK => ?_)
                  refine step_append_any _ (by rfl) _ _ _ (by rfl) W.heap.size 34 i0 _ 7 56 Tryd.underlying32 hi hz0 hz1 hz2 rfl (by omega) v4 (0 + at1) ([] ++ rowE (A.take at1)) (by rfl) hown4 w4.heap.size (some ⟨W.heap.size, 0, none⟩) 1 1 e.cells (by rfl) kR4 (cells_one e) (by unfold maxLen; omega) (by omega) kB4.size ?_
                  intro v7 w7 hown7 hgr7 _
                  have kB7 : Below W.heap.size W w7 := kB4.trans (below_own hown4 kB4.size hgr7)
                  (refine hK.out _ _ (kB7) ?_; clear hK K; try simp only [Act.put, List.setIfInBounds_toArray, List.set_cons_zero, List.set_cons_succ])
                  (repeat (first | (refine Plan.tree_read (v := ?_) rfl rfl ?_ ?_; rotate_left; (focus ((intro wS hSw; have hkS := (bcell hSw).1; try (have hkT := fun (b o : Nat) (h : b < w.heap.size) => hkS b o (by first | omega | (simp; omega) | (simp; done))); go_simp); try with_reducible rfl)); simp only [Act.put, List.setIfInBounds_toArray, List.set_cons_zero, List.set_cons_succ]) | (refine Plan.tree_skip rfl rfl ?_; simp only [Act.put, List.setIfInBounds_toArray, List.set_cons_zero, List.set_cons_succ])))
                  refine Plan.tree_write rfl (fun K hK => ?_)
                  refine step_append_any _ (by rfl) _ _ _ (by rfl) W.heap.size 34 i0 _ 7 56 Tryd.underlying32 hi hz0 hz1 hz2 rfl (by omega) v7 (0 + at1 + 1) ([] ++ rowE (A.take at1) ++ e.cells) (by rfl) hown7 W.heap.size Cr (A.length - at1) cr (rowE (A.drop at1)) (by rfl) (by have := reads_ents (hCr.below kB7); rw [HDL.out] at this; exact this) (rowE_one _) (by unfold maxLen; omega) (by omega) kB7.size ?_
                  intro v9 w9 hown9 hgr9 _
                  have kB9 : Below W.heap.size W w9 := kB7.trans (below_own hown7 kB7.size hgr9)
                  clear kB0 kO0 kB4 hown4 hgr4 kR6 kR4 kB7 hown7 hgr7 hgr9
                  (refine hK.out _ _ (kB9) ?_; clear hK K; try simp only [Act.put, List.setIfInBounds_toArray, List.set_cons_zero, List.set_cons_succ])
                  (repeat (first | (refine Plan.tree_read (v := ?_) rfl rfl ?_ ?_; rotate_left; (focus ((intro wS hSw; have hkS := (bcell hSw).1; try (have hkT := fun (b o : Nat) (h : b < w.heap.size) => hkS b o (by first | omega | (simp; omega) | (simp; done))); go_simp); try with_reducible rfl)); simp only [Act.put, List.setIfInBounds_toArray, List.set_cons_zero, List.set_cons_succ]) | (refine Plan.tree_skip rfl rfl ?_; simp only [Act.put, List.setIfInBounds_toArray, List.set_cons_zero, List.set_cons_succ])))
                  refine Plan.tree_done ?_
                  rw [List.nil_append, ← rowE_snoc, ← rowE_append] at hown9
                  have hlenF : (0 + at1 + 1 + (A.length - at1)) = (A.take at1 ++ [e] ++ A.drop at1).length := by simp; omega
                  rw [hlenF] at hown9
                  obtain ⟨D9, c9, he9, hD9, hF9⟩ := ents_of_owns hown9
                  have hcap9 := owns_cap hown9 he9
                  subst he9
                  have HE9 := Lib.hid hD9
                  have hbF : Below w.heap.size w w9 := hBW.trans (kB9.mono hzW)
                  clear hown9 hD9 kB9 hF9 hlenF
                  go_wp2_with fail
                  go_roundw
                  case rel =>
                    have hsh9 : (A.take at1 ++ [e] ++ A.drop at1 = [] ∧ D9 = none ∧ c9 = 0) ∨ ∃ bq oq, D9 = some ⟨bq, oq, none⟩ := Or.inr (by obtain ⟨b, o, hq, _⟩ := HE9.out (by simp; omega); exact ⟨b, o, hq⟩)
                    refine ⟨k + 1, D9, c9, A.take at1 ++ [e] ++ A.drop at1, by omega, by go_num, rfl, ?_, hcap9, HE9.out, hbF, hbF.size, hsh9⟩
                    show _ = _
                    rw [hstep.out k e HX.out, if_pos HP.out, ← hA.out, HM.out, List.append_assoc]
                    rfl
                  case measure => simp [intOf]; omega
              · have hdc2 : at1 = dc := by omega
                subst hdc2
                have hQ : EntsAt W2 wr.heap.size (some ⟨bo, oo, none⟩) (A.drop at1) := by have := ents_drop hD2 (k := at1) (cf := at1) hat hcap; rwa [if_pos rfl] at this
                have HA0 : Hid (A.length - at1 = 0) := by show _ = _; omega
                have R10 := Lib.hid (fun (wx : World) (hb : Below W2.heap.size W2 wx) => reads_ents (hQ.below (hb.mono (by omega))))
                go_wp2_with (first | (at_builtin; go_loud (refine wpList_append_any _ rfl _ _ 32 rfl W2.heap.size 34 i0 _ 7 56 Tryd.underlying32 hi hz0 hz1 hz2 rfl (by decide) _ 0 [] rfl kO10.out wr.heap.size (some ⟨bo, oo, none⟩) 0 _ (rowE (A.drop at1)) rfl (by have := R10.out (W2.alloc (.cells #[] 34)) ((Below.refl _ _).alloc (Nat.le_refl _) _); rw [HDL.out] at this; rw [HA0.out] at this; exact this) (rowE_one _) (by unfold maxLen; omega) (by omega) (by simp) ?_); intro v10 W hown10 hgr10 _) | fail)
                have hbW := below_own kO10.out (by simp) hgr10
                have hBW2 : Below W2.heap.size W2 W := ((Below.refl _ _).alloc (Nat.le_refl _) _).trans hbW
                have hzW2 := hBW2.size
                have hBW : Below w.heap.size w W := (hBw.trans (hB2.mono hz)).trans (hBW2.mono (by omega))
                have hzW : w.heap.size ≤ W.heap.size := by omega
                have hcb : wr.heap.size < W.heap.size := by omega
                have kk : ∀ j, W.cell? ⟨wr.heap.size, j, none⟩ = W0.cell? ⟨wr.heap.size, j, none⟩ := fun j => (hBW2.cell (p := ⟨wr.heap.size, j, none⟩) (by show wr.heap.size < _; omega)).trans (hu j)
                have k0 := (kk 0).trans u0
                have k1 := (kk 1).trans u1
                have k2 := (kk 2).trans u2
                have k3 := (kk 3).trans u3
                have k4 := (kk 4).trans u4
                have k5 := (kk 5).trans u5
                have k6 := (kk 6).trans u6
                have hTk : EntsAt W W.heap.size (some ⟨bo, oo, none⟩) (A.take at1) := ((ents_take hD2 at1).below (hBW2.mono (by omega))).more (by omega)
                have hown11 : W.ownsRow W2.heap.size 34 7 v10 (A.drop at1).length (rowE (A.drop at1)) := by have h := hown10; rw [List.nil_append, Nat.zero_add] at h; rw [HDL.out]; rw [HA0.out]; exact h
                obtain ⟨Cr, cr, hv10, hCr, _⟩ := ents_of_owns hown11
                subst hv10
                clear hown10 hown11 hgr10 hbW hBW2 kk u0 u1 u2 u3 u4 u5 u6 hu hQ R10 kO10 hD2 hB2
                go_wp2_with fail
                refine Plan.wp_region_tree (.rd 1 (.rd 2 (.rd 3 (.rd 5 (.rd 8 (.two 0 (.two 4 (.wr 6 (.wr 7 (.wr 9 (.rd 10 .done)))) 6 (.wr 4 (.wr 7 (.wr 9 (.rd 10 .done))))) 6 (.wr 0 (.wr 4 (.wr 7 (.wr 9 (.rd 10 .done))))))))))) (by kernel_rfl) (by kernel_rfl) ?_
                (repeat (first | (refine Plan.tree_read (v := ?_) rfl rfl ?_ ?_; rotate_left; (focus ((intro wS hSw; have hkS := (bcell hSw).1; try (have hkT := fun (b o : Nat) (h : b < w.heap.size) => hkS b o (by first | omega | (simp; omega) | (simp; done))); go_simp); try with_reducible rfl)); simp only [Act.put, List.setIfInBounds_toArray, List.set_cons_zero, List.set_cons_succ]) | (refine Plan.tree_skip rfl rfl ?_; simp only [Act.put, List.setIfInBounds_toArray, List.set_cons_zero, List.set_cons_succ])))
                refine Plan.tree_two rfl rfl (fun K hK => ?_) (fun K hK => ?_)
                · have kB0 : Below W.heap.size W (W.alloc (.cells #[] 34)).drew := ((Below.refl _ _).alloc (Nat.le_refl _) _).drew
                  have kO0 : ((W.alloc (.cells #[] 34)).drew).ownsRow W.heap.size 34 7 (.slice (some ⟨W.heap.size, 0, none⟩) 0 0) 0 [] := (World.ownsRow_made W #[] 0 (Nat.le_refl _) (by unfold maxLen; omega) (by simp)).drew
                  (try go_simp)
                  (refine hK.out _ _ (kB0) ?_; clear hK K; try simp only [Act.put, List.setIfInBounds_toArray, List.set_cons_zero, List.set_cons_succ])
                  (repeat (first | (refine Plan.tree_read (v := ?_) rfl rfl ?_ ?_; rotate_left; (focus ((intro wS hSw; have hkS := (bcell hSw).1; try (have hkT := fun (b o : Nat) (h : b < w.heap.size) => hkS b o (by first | omega | (simp; omega) | (simp; done))); go_simp); try with_reducible rfl)); simp only [Act.put, List.setIfInBounds_toArray, List.set_cons_zero, List.set_cons_succ]) | (refine Plan.tree_skip rfl rfl ?_; simp only [Act.put, List.setIfInBounds_toArray, List.set_cons_zero, List.set_cons_succ])))
                  refine Plan.tree_two rfl rfl (fun K hK => ?_) (fun K hK => ?_)
                  · refine step_append_any _ (by rfl) _ _ _ (by rfl) W.heap.size 34 i0 _ 7 56 Tryd.underlying32 hi hz0 hz1 hz2 rfl (by omega) _ (0) ([]) (by rfl) kO0 W.heap.size (some ⟨bo, oo, none⟩) at1 at1 (rowE (A.take at1)) (by rfl) (by have := reads_ents (hTk.below kB0); rw [HTL.out] at this; exact this) (rowE_one _) (by unfold maxLen; omega) (by omega) (by simp) ?_
                    intro v4 w4 hown4 hgr4 _
                    have kB4 : Below W.heap.size W w4 := kB0.trans (below_own kO0 (by simp) hgr4)
                    (refine hK.out _ _ (kB4) ?_; clear hK K; try simp only [Act.put, List.setIfInBounds_toArray, List.set_cons_zero, List.set_cons_succ])
                    (repeat (first | (refine Plan.tree_read (v := ?_) rfl rfl ?_ ?_; rotate_left; (focus ((intro wS hSw; have hkS := (bcell hSw).1; try (have hkT := fun (b o : Nat) (h : b < w.heap.size) => hkS b o (by first | omega | (simp; omega) | (simp; done))); go_simp); try with_reducible rfl)); simp only [Act.put, List.setIfInBounds_toArray, List.set_cons_zero, List.set_cons_succ]) | (refine Plan.tree_skip rfl rfl ?_; simp only [Act.put, List.setIfInBounds_toArray, List.set_cons_zero, List.set_cons_succ])))
                    (refine Plan.tree_write rfl (fun K hK => ?_); try go_simp)
                    have kB6 : Below W.heap.size W (w4.alloc (.cells e.cells.toArray 34)) := kB4.alloc kB4.size _
                    have kO6 : (w4.alloc (.cells e.cells.toArray 34)).ownsRow W.heap.size 34 7 v4 (0 + at1) ([] ++ rowE (A.take at1)) := hown4.alloc _
                    have kR6 : Reads (w4.alloc (.cells e.cells.toArray 34)) (w4.heap.size + 1) 7 (some ⟨w4.heap.size, 0, none⟩) 1 e.cells := ⟨rfl, fun _ => ⟨_, rfl, Nat.lt_succ_self _, cells_at rfl _ _⟩⟩
                    (refine hK.out _ _ (kB6) ?_; clear hK K; try simp only [Act.put, List.setIfInBounds_toArray, List.set_cons_zero, List.set_cons_succ])
                    (repeat (first | (refine Plan.tree_read (v := ?_) rfl rfl ?_ ?_; rotate_left; (focus ((intro wS hSw; have hkS := (bcell hSw).1; try (have hkT := fun (b o : Nat) (h : b < w.heap.size) => hkS b o (by first | omega | (simp; omega) | (simp; done))); go_simp); try with_reducible rfl)); simp only [Act.put, List.setIfInBounds_toArray, List.set_cons_zero, List.set_cons_succ]) | (refine Plan.tree_skip rfl rfl ?_; simp only [Act.put, List.setIfInBounds_toArray, List.set_cons_zero, List.set_cons_succ])))
                    refine Plan.tree_write rfl (fun K hK => ?_)
                    refine step_append_any _ (by rfl) _ _ _ (by rfl) W.heap.size 34 i0 _ 7 56 Tryd.underlying32 hi hz0 hz1 hz2 rfl (by omega) v4 (0 + at1) ([] ++ rowE (A.take at1)) (by rfl) kO6 (w4.heap.size + 1) (some ⟨w4.heap.size, 0, none⟩) 1 1 e.cells (by rfl) kR6 (cells_one e) (by unfold maxLen; omega) (by omega) kB6.size ?_
                    intro v7 w7 hown7 hgr7 _
                    have kB7 : Below W.heap.size W w7 := kB6.trans (below_own kO6 kB6.size hgr7)
                    (refine hK.out _ _ (kB7) ?_; clear hK K; try simp only [Act.put, List.setIfInBounds_toArray, List.set_cons_zero, List.set_cons_succ])
                    (repeat (first | (refine Plan.tree_read (v := ?_) rfl rfl ?_ ?_; rotate_left; (focus ((intro wS hSw; have hkS := (bcell hSw).1; try (have hkT := fun (b o : Nat) (h : b < w.heap.size) => hkS b o (by first | omega | (simp; omega) | (simp; done))); go_simp); try with_reducible rfl)); simp only [Act.put, List.setIfInBounds_toArray, List.set_cons_zero, List.set_cons_succ]) | (refine Plan.tree_skip rfl rfl ?_; simp only [Act.put, List.setIfInBounds_toArray, List.set_cons_zero, List.set_cons_succ])))
                    refine Plan.tree_write rfl (fun K hK => ?_)
                    refine step_append_any _ (by rfl) _ _ _ (by rfl) W.heap.size 34 i0 _ 7 56 Tryd.underlying32 hi hz0 hz1 hz2 rfl (by omega) v7 (0 + at1 + 1) ([] ++ rowE (A.take at1) ++ e.cells) (by rfl) hown7 W.heap.size Cr 0 cr (rowE (A.drop at1)) (by rfl) (by have := reads_ents (hCr.below kB7); rw [HDL.out] at this; rw [HA0.out] at this; exact this) (rowE_one _) (by unfold maxLen; omega) (by omega) kB7.size ?_
                    intro v9 w9 hown9 hgr9 _
                    have kB9 : Below W.heap.size W w9 := kB7.trans (below_own hown7 kB7.size hgr9)
                    clear kB0 kO0 kB4 hown4 hgr4 kB6 kO6 kR6 kB7 hown7 hgr7 hgr9
                    (refine hK.out _ _ (kB9) ?_; clear hK K; try simp only [Act.put, List.setIfInBounds_toArray, List.set_cons_zero, List.set_cons_succ])
                    (repeat (first | (refine Plan.tree_read (v := ?_) rfl rfl ?_ ?_; rotate_left; (focus ((intro wS hSw; have hkS := (bcell hSw).1; try (have hkT := fun (b o : Nat) (h : b < w.heap.size) => hkS b o (by first | omega | (simp; omega) | (simp; done))); go_simp); try with_reducible rfl)); simp only [Act.put, List.setIfInBounds_toArray, List.set_cons_zero, List.set_cons_succ]) | (refine Plan.tree_skip rfl rfl ?_; simp only [Act.put, List.setIfInBounds_toArray, List.set_cons_zero, List.set_cons_succ])))
                    refine Plan.tree_done ?_
                    rw [List.nil_append, ← rowE_snoc, ← rowE_append] at hown9
                    have hlenF : (0 + at1 + 1 + 0) = (A.take at1 ++ [e] ++ A.drop at1).length := by simp; omega
                    rw [hlenF] at hown9
                    obtain ⟨D9, c9, he9, hD9, hF9⟩ := ents_of_owns hown9
                    have hcap9 := owns_cap hown9 he9
                    subst he9
                    have HE9 := Lib.hid hD9
                    have hbF : Below w.heap.size w w9 := hBW.trans (kB9.mono hzW)
                    clear hown9 hD9 kB9 hF9 hlenF
                    go_wp2_with fail
                    go_roundw
                    case rel =>
                      have hsh9 : (A.take at1 ++ [e] ++ A.drop at1 = [] ∧ D9 = none ∧ c9 = 0) ∨ ∃ bq oq, D9 = some ⟨bq, oq, none⟩ := Or.inr (by obtain ⟨b, o, hq, _⟩ := HE9.out (by simp; omega); exact ⟨b, o, hq⟩)
                      refine ⟨k + 1, D9, c9, A.take at1 ++ [e] ++ A.drop at1, by omega, by go_num, rfl, ?_, hcap9, HE9.out, hbF, hbF.size, hsh9⟩
                      show _ = _
                      rw [hstep.out k e HX.out, if_pos HP.out, ← hA.out, HM.out, List.append_assoc]
                      rfl
                    case measure => simp [intOf]; omega
                  · (try go_simp)
                    have kO1 := kO0
                    have kB1 := kB0
                    clear kO0 kB0
                    have kB0 : Below W.heap.size W ((W.alloc (.cells #[] 34)).alloc (.cells e.cells.toArray 34)).drew := (((Below.refl _ _).alloc (Nat.le_refl _) _).alloc (by simp) _).drew
                    have kO0 : (((W.alloc (.cells #[] 34)).alloc (.cells e.cells.toArray 34)).drew).ownsRow W.heap.size 34 7 (.slice (some ⟨W.heap.size, 0, none⟩) 0 0) 0 [] := ((World.ownsRow_made W #[] 0 (Nat.le_refl _) (by unfold maxLen; omega) (by simp)).alloc _).drew
                    have kR6 : Reads (((W.alloc (.cells #[] 34)).alloc (.cells e.cells.toArray 34)).drew) (W.heap.size + 1 + 1) 7 (some ⟨W.heap.size + 1, 0, none⟩) 1 e.cells := ⟨rfl, fun _ => ⟨_, rfl, Nat.lt_succ_self _, cells_at (w := W.alloc (.cells #[] 34)) (by simp) _ _⟩⟩
                    (refine hK.out _ _ (kB0) ?_; clear hK K; try simp only [Act.put, List.setIfInBounds_toArray, List.set_cons_zero, List.set_cons_succ])
                    (repeat (first | (refine Plan.tree_read (v := ?_) rfl rfl ?_ ?_; rotate_left; (focus ((intro wS hSw; have hkS := (bcell hSw).1; try (have hkT := fun (b o : Nat) (h : b < w.heap.size) => hkS b o (by first | omega | (simp; omega) | (simp; done))); go_simp); try with_reducible rfl)); simp only [Act.put, List.setIfInBounds_toArray, List.set_cons_zero, List.set_cons_succ]) | (refine Plan.tree_skip rfl rfl ?_; simp only [Act.put, List.setIfInBounds_toArray, List.set_cons_zero, List.set_cons_succ])))
                    refine Plan.tree_write rfl (fun K hK => ?_)
                    refine step_append_any _ (by rfl) _ _ _ (by rfl) W.heap.size 34 i0 _ 7 56 Tryd.underlying32 hi hz0 hz1 hz2 rfl (by omega) _ (0) ([]) (by rfl) kO0 W.heap.size (some ⟨bo, oo, none⟩) at1 at1 (rowE (A.take at1)) (by rfl) (by have := reads_ents (hTk.below kB0); rw [HTL.out] at this; exact this) (rowE_one _) (by unfold maxLen; omega) (by omega) kB0.size ?_
                    intro v4 w4 hown4 hgr4 _
                    have kB4 : Below W.heap.size W w4 := kB0.trans (below_own kO0 kB0.size hgr4)
                    have kR4 : Reads w4 w4.heap.size 7 (some ⟨W.heap.size + 1, 0, none⟩) 1 e.cells := kR6.grown_off (by simp) hgr4 (by simp [Value.ownBlock])
                    (refine hK.out _ _ (kB4) ?_; clear hK K; try simp only [Act.put, List.setIfInBounds_toArray, List.set_cons_zero, List.set_cons_succ])
                    (repeat (first | (refine Plan.tree_read (v := ?_) rfl rfl ?_ ?_; rotate_left; (focus ((intro wS hSw; have hkS := (bcell hSw).1; try (have hkT := fun (b o : Nat) (h : b < w.heap.size) => hkS b o (by first | omega | (simp; omega) | (simp; done))); go_simp); try with_reducible rfl)); simp only [Act.put, List.setIfInBounds_toArray, List.set_cons_zero, List.set_cons_succ]) | (refine Plan.tree_skip rfl rfl ?_; simp only [Act.put, List.setIfInBounds_toArray, List.set_cons_zero, List.set_cons_succ])))
                    refine Plan.tree_write rfl (fun K hK => ?_)
                    refine step_append_any _ (by rfl) _ _ _ (by rfl) W.heap.size 34 i0 _ 7 56 Tryd.underlying32 hi hz0 hz1 hz2 rfl (by omega) v4 (0 + at1) ([] ++ rowE (A.take at1)) (by rfl) hown4 w4.heap.size (some ⟨W.heap.size + 1, 0, none⟩) 1 1 e.cells (by rfl) kR4 (cells_one e) (by unfold maxLen; omega) (by omega) kB4.size ?_
                    intro v7 w7 hown7 hgr7 _
                    have kB7 : Below W.heap.size W w7 := kB4.trans (below_own hown4 kB4.size hgr7)
                    (refine hK.out _ _ (kB7) ?_; clear hK K; try simp only [Act.put, List.setIfInBounds_toArray, List.set_cons_zero, List.set_cons_succ])
                    (repeat (first | (refine Plan.tree_read (v := ?_) rfl rfl ?_ ?_; rotate_left; (focus ((intro wS hSw; have hkS := (bcell hSw).1; try (have hkT := fun (b o : Nat) (h : b < w.heap.size) => hkS b o (by first | omega | (simp; omega) | (simp; done))); go_simp); try with_reducible rfl)); simp only [Act.put, List.setIfInBounds_toArray, List.set_cons_zero, List.set_cons_succ]) | (refine Plan.tree_skip rfl rfl ?_; simp only [Act.put, List.setIfInBounds_toArray, List.set_cons_zero, List.set_cons_succ])))
                    refine Plan.tree_write rfl (fun K hK => ?_)
                    refine step_append_any _ (by rfl) _ _ _ (by rfl) W.heap.size 34 i0 _ 7 56 Tryd.underlying32 hi hz0 hz1 hz2 rfl (by omega) v7 (0 + at1 + 1) ([] ++ rowE (A.take at1) ++ e.cells) (by rfl) hown7 W.heap.size Cr 0 cr (rowE (A.drop at1)) (by rfl) (by have := reads_ents (hCr.below kB7); rw [HDL.out] at this; rw [HA0.out] at this; exact this) (rowE_one _) (by unfold maxLen; omega) (by omega) kB7.size ?_
                    intro v9 w9 hown9 hgr9 _
                    have kB9 : Below W.heap.size W w9 := kB7.trans (below_own hown7 kB7.size hgr9)
                    clear kB0 kO0 kB4 hown4 hgr4 kR6 kR4 kB7 hown7 hgr7 hgr9
                    (refine hK.out _ _ (kB9) ?_; clear hK K; try simp only [Act.put, List.setIfInBounds_toArray, List.set_cons_zero, List.set_cons_succ])
                    (repeat (first | (refine Plan.tree_read (v := ?_) rfl rfl ?_ ?_; rotate_left; (focus ((intro wS hSw; have hkS := (bcell hSw).1; try (have hkT := fun (b o : Nat) (h : b < w.heap.size) => hkS b o (by first | omega | (simp; omega) | (simp; done))); go_simp); try with_reducible rfl)); simp only [Act.put, List.setIfInBounds_toArray, List.set_cons_zero, List.set_cons_succ]) | (refine Plan.tree_skip rfl rfl ?_; simp only [Act.put, List.setIfInBounds_toArray, List.set_cons_zero, List.set_cons_succ])))
                    refine Plan.tree_done ?_
                    rw [List.nil_append, ← rowE_snoc, ← rowE_append] at hown9
                    have hlenF : (0 + at1 + 1 + 0) = (A.take at1 ++ [e] ++ A.drop at1).length := by simp; omega
                    rw [hlenF] at hown9
                    obtain ⟨D9, c9, he9, hD9, hF9⟩ := ents_of_owns hown9
                    have hcap9 := owns_cap hown9 he9
                    subst he9
                    have HE9 := Lib.hid hD9
                    have hbF : Below w.heap.size w w9 := hBW.trans (kB9.mono hzW)
                    clear hown9 hD9 kB9 hF9 hlenF
                    go_wp2_with fail
                    go_roundw
                    case rel =>
                      have hsh9 : (A.take at1 ++ [e] ++ A.drop at1 = [] ∧ D9 = none ∧ c9 = 0) ∨ ∃ bq oq, D9 = some ⟨bq, oq, none⟩ := Or.inr (by obtain ⟨b, o, hq, _⟩ := HE9.out (by simp; omega); exact ⟨b, o, hq⟩)
                      refine ⟨k + 1, D9, c9, A.take at1 ++ [e] ++ A.drop at1, by omega, by go_num, rfl, ?_, hcap9, HE9.out, hbF, hbF.size, hsh9⟩
                      show _ = _
                      rw [hstep.out k e HX.out, if_pos HP.out, ← hA.out, HM.out, List.append_assoc]
                      rfl
                    case measure => simp [intOf]; omega
                · (try go_simp)
                  have kB0 : Below W.heap.size W (W.alloc (.cells e.cells.toArray 34)).drew := ((Below.refl _ _).alloc (Nat.le_refl _) _).drew
                  (refine hK.out _ _ (kB0) ?_; clear hK K; try simp only [Act.put, List.setIfInBounds_toArray, List.set_cons_zero, List.set_cons_succ])
                  (repeat (first | (refine Plan.tree_read (v := ?_) rfl rfl ?_ ?_; rotate_left; (focus ((intro wS hSw; have hkS := (bcell hSw).1; try (have hkT := fun (b o : Nat) (h : b < w.heap.size) => hkS b o (by first | omega | (simp; omega) | (simp; done))); go_simp); try with_reducible rfl)); simp only [Act.put, List.setIfInBounds_toArray, List.set_cons_zero, List.set_cons_succ]) | (refine Plan.tree_skip rfl rfl ?_; simp only [Act.put, List.setIfInBounds_toArray, List.set_cons_zero, List.set_cons_succ])))
                  (refine Plan.tree_write rfl (fun K hK => ?_); try go_simp)
                  have kB1 := kB0
                  clear kB0
                  have kB0 : Below W.heap.size W ((W.alloc (.cells e.cells.toArray 34)).alloc (.cells #[] 34)).drew := (((Below.refl _ _).alloc (Nat.le_refl _) _).alloc (by simp) _).drew
                  have kO0 : (((W.alloc (.cells e.cells.toArray 34)).alloc (.cells #[] 34)).drew).ownsRow W.heap.size 34 7 (.slice (some ⟨W.heap.size + 1, 0, none⟩) 0 0) 0 [] := by
                    have h := (World.ownsRow_made (size := 7) (base := W.heap.size) (e := 34) (W.alloc (.cells e.cells.toArray 34)) #[] 0 (by simp) (by unfold maxLen; omega) (by simp)).drew
                    rw [World.size_alloc] at h
                    exact h
                  have kR6 : Reads (((W.alloc (.cells e.cells.toArray 34)).alloc (.cells #[] 34)).drew) (W.heap.size + 1) 7 (some ⟨W.heap.size, 0, none⟩) 1 e.cells := ⟨rfl, fun _ => ⟨_, rfl, Nat.lt_succ_self _, fun j u hj => by
                    have := cells_at (w := W) rfl 34 e.cells j u hj
                    rw [← this]
                    exact World.cell?_alloc_lt (W.alloc (.cells e.cells.toArray 34)) _ _ (by rw [block_of_add]; simp)⟩⟩
                  (refine hK.out _ _ (kB0) ?_; clear hK K; try simp only [Act.put, List.setIfInBounds_toArray, List.set_cons_zero, List.set_cons_succ])
                  (repeat (first | (refine Plan.tree_read (v := ?_) rfl rfl ?_ ?_; rotate_left; (focus ((intro wS hSw; have hkS := (bcell hSw).1; try (have hkT := fun (b o : Nat) (h : b < w.heap.size) => hkS b o (by first | omega | (simp; omega) | (simp; done))); go_simp); try with_reducible rfl)); simp only [Act.put, List.setIfInBounds_toArray, List.set_cons_zero, List.set_cons_succ]) | (refine Plan.tree_skip rfl rfl ?_; simp only [Act.put, List.setIfInBounds_toArray, List.set_cons_zero, List.set_cons_succ])))
                  refine Plan.tree_write rfl (fun K hK => ?_)
                  refine step_append_any _ (by rfl) _ _ _ (by rfl) W.heap.size 34 i0 _ 7 56 Tryd.underlying32 hi hz0 hz1 hz2 rfl (by omega) _ (0) ([]) (by rfl) kO0 W.heap.size (some ⟨bo, oo, none⟩) at1 at1 (rowE (A.take at1)) (by rfl) (by have := reads_ents (hTk.below kB0); rw [HTL.out] at this; exact this) (rowE_one _) (by unfold maxLen; omega) (by omega) kB0.size ?_
                  intro v4 w4 hown4 hgr4 _
                  have kB4 : Below W.heap.size W w4 := kB0.trans (below_own kO0 kB0.size hgr4)
                  have kR4 : Reads w4 w4.heap.size 7 (some ⟨W.heap.size, 0, none⟩) 1 e.cells := kR6.grown_off (by simp) hgr4 (by simp [Value.ownBlock])
                  (refine hK.out _ _ (kB4) ?_; clear hK K; try simp only [Act.put, List.setIfInBounds_toArray, List.set_cons_zero, List.set_cons_succ])
                  (repeat (first | (refine Plan.tree_read (v := ?_) rfl rfl ?_ ?_; rotate_left; (focus ((intro wS hSw; have hkS := (bcell hSw).1; try (have hkT := fun (b o : Nat) (h : b < w.heap.size) => hkS b o (by first | omega | (simp; omega) | (simp; done))); go_simp); try with_reducible rfl)); simp only [Act.put, List.setIfInBounds_toArray, List.set_cons_zero, List.set_cons_succ]) | (refine Plan.tree_skip rfl rfl ?_; simp only [Act.put, List.setIfInBounds_toArray, List.set_cons_zero, List.set_cons_succ])))
                  refine Plan.tree_write rfl (fun K hK => ?_)
                  refine step_append_any _ (by rfl) _ _ _ (by rfl) W.heap.size 34 i0 _ 7 56 Tryd.underlying32 hi hz0 hz1 hz2 rfl (by omega) v4 (0 + at1) ([] ++ rowE (A.take at1)) (by rfl) hown4 w4.heap.size (some ⟨W.heap.size, 0, none⟩) 1 1 e.cells (by rfl) kR4 (cells_one e) (by unfold maxLen; omega) (by omega) kB4.size ?_
                  intro v7 w7 hown7 hgr7 _
                  have kB7 : Below W.heap.size W w7 := kB4.trans (below_own hown4 kB4.size hgr7)
                  (refine hK.out _ _ (kB7) ?_; clear hK K; try simp only [Act.put, List.setIfInBounds_toArray, List.set_cons_zero, List.set_cons_succ])
                  (repeat (first | (refine Plan.tree_read (v := ?_) rfl rfl ?_ ?_; rotate_left; (focus ((intro wS hSw; have hkS := (bcell hSw).1; try (have hkT := fun (b o : Nat) (h : b < w.heap.size) => hkS b o (by first | omega | (simp; omega) | (simp; done))); go_simp); try with_reducible rfl)); simp only [Act.put, List.setIfInBounds_toArray, List.set_cons_zero, List.set_cons_succ]) | (refine Plan.tree_skip rfl rfl ?_; simp only [Act.put, List.setIfInBounds_toArray, List.set_cons_zero, List.set_cons_succ])))
                  refine Plan.tree_write rfl (fun K hK => ?_)
                  refine step_append_any _ (by rfl) _ _ _ (by rfl) W.heap.size 34 i0 _ 7 56 Tryd.underlying32 hi hz0 hz1 hz2 rfl (by omega) v7 (0 + at1 + 1) ([] ++ rowE (A.take at1) ++ e.cells) (by rfl) hown7 W.heap.size Cr 0 cr (rowE (A.drop at1)) (by rfl) (by have := reads_ents (hCr.below kB7); rw [HDL.out] at this; rw [HA0.out] at this; exact this) (rowE_one _) (by unfold maxLen; omega) (by omega) kB7.size ?_
                  intro v9 w9 hown9 hgr9 _
                  have kB9 : Below W.heap.size W w9 := kB7.trans (below_own hown7 kB7.size hgr9)
                  clear kB0 kO0 kB4 hown4 hgr4 kR6 kR4 kB7 hown7 hgr7 hgr9
                  (refine hK.out _ _ (kB9) ?_; clear hK K; try simp only [Act.put, List.setIfInBounds_toArray, List.set_cons_zero, List.set_cons_succ])
                  (repeat (first | (refine Plan.tree_read (v := ?_) rfl rfl ?_ ?_; rotate_left; (focus ((intro wS hSw; have hkS := (bcell hSw).1; try (have hkT := fun (b o : Nat) (h : b < w.heap.size) => hkS b o (by first | omega | (simp; omega) | (simp; done))); go_simp); try with_reducible rfl)); simp only [Act.put, List.setIfInBounds_toArray, List.set_cons_zero, List.set_cons_succ]) | (refine Plan.tree_skip rfl rfl ?_; simp only [Act.put, List.setIfInBounds_toArray, List.set_cons_zero, List.set_cons_succ])))
                  refine Plan.tree_done ?_
                  rw [List.nil_append, ← rowE_snoc, ← rowE_append] at hown9
                  have hlenF : (0 + at1 + 1 + 0) = (A.take at1 ++ [e] ++ A.drop at1).length := by simp; omega
                  rw [hlenF] at hown9
                  obtain ⟨D9, c9, he9, hD9, hF9⟩ := ents_of_owns hown9
                  have hcap9 := owns_cap hown9 he9
                  subst he9
                  have HE9 := Lib.hid hD9
                  have hbF : Below w.heap.size w w9 := hBW.trans (kB9.mono hzW)
                  clear hown9 hD9 kB9 hF9 hlenF
                  go_wp2_with fail
                  go_roundw
                  case rel =>
                    have hsh9 : (A.take at1 ++ [e] ++ A.drop at1 = [] ∧ D9 = none ∧ c9 = 0) ∨ ∃ bq oq, D9 = some ⟨bq, oq, none⟩ := Or.inr (by obtain ⟨b, o, hq, _⟩ := HE9.out (by simp; omega); exact ⟨b, o, hq⟩)
                    refine ⟨k + 1, D9, c9, A.take at1 ++ [e] ++ A.drop at1, by omega, by go_num, rfl, ?_, hcap9, HE9.out, hbF, hbF.size, hsh9⟩
                    show _ = _
                    rw [hstep.out k e HX.out, if_pos HP.out, ← hA.out, HM.out, List.append_assoc]
                    rfl
                  case measure => simp [intOf]; omega
          · obtain ⟨p, rfl⟩ : ∃ p, at1 = p + 1 := ⟨at1 - 1, by omega⟩
            obtain ⟨x, hx⟩ : ∃ x, A[p]? = some x := ⟨_, List.getElem?_eq_getElem (by omega)⟩
            obtain ⟨bx, ox, rfl, hbx, y0, _⟩ := hD.at_ hx
            have y0' : W0.cell? ⟨bx, ox + p * 7, none⟩ = some (.int .i64 x.day) := (hB0.cell (p := ⟨bx, _, none⟩) hbx).trans y0
            have HXX := Lib.hid hx
            have d5 : decide ((0 : Int) < ((p : Int) + 1)) = true := decide_eq_true (by omega)
            have d7 : (0 : Int) < ((p : Int) + 1) := by omega
            have d6 : decide (0 < p + 1) = true := decide_eq_true (by omega)
            have v3 : IntKind.i64.wrap (p : Int) = (p : Int) := by rw [IntKind.wrap_i64]; omega
            have v4 : (p : Int) < (A.length : Int) := by omega
            have v5 : p < A.length := by omega
            clear hx y0
            by_cases hg : e.day < x.day
            · have d8 : decide (e.day < x.day) = true := decide_eq_true hg
              have HG : Hid (∀ j x, p ≤ j → A[j]? = some x → ltDay e x = true) := fun j z h1 h2 => by
                rcases Nat.lt_or_ge j (p + 1) with c | c
                · have : j = p := by omega
                  subst this
                  have := HXX.out; rw [h2] at this; cases this
                  exact d8
                · exact hgt.out j z c h2
              clear STP
              go_wp2_with fail
              go_quiet (fail)
              go_wp2_with fail
              go_roundw
              case rel => exact ⟨p, m + nq, by go_num, by omega, HG.out, rfl⟩
              case measure => simp [intOf]
            · have d8 : decide (e.day < x.day) = false := decide_eq_false hg
              have HM : Hid (ST.merge ltDay A [e] = A.take (p + 1) ++ e :: A.drop (p + 1)) := STP.out (fun _ z hz => by
                rw [Nat.add_sub_cancel] at hz
                have := HXX.out; rw [hz] at this; cases this
                exact d8)
              clear STP
              obtain ⟨at1, hat1⟩ : ∃ a, a = p + 1 := ⟨_, rfl⟩
              go_wp2_with fail
              go_quiet (fail)
              have hpa : (p : Int) + 1 = (at1 : Int) := by omega
              rw [← hat1] at HM hat
              have HAT := Lib.hid hat1
              clear hat1
              generalize hW2 : (W0.drewN m).drewN nq = W2
              have hB2 : Below wr.heap.size wr W2 := by rw [← hW2]; exact below_drewN (below_drewN hB0 _) _
              have hz2' : wr.heap.size + 1 = W2.heap.size := by rw [← hW2]; exact hz0'
              have hu : ∀ j, W2.cell? ⟨wr.heap.size, j, none⟩ = W0.cell? ⟨wr.heap.size, j, none⟩ := fun j => by rw [← hW2]; rfl
              have hD2 := hD.below hB2
              clear hW2 hB0 hz0' hD
              have hdl : (A.drop at1).length = A.length - at1 := List.length_drop ..
              have htl : (A.take at1).length = at1 := by rw [List.length_take]; omega
              have HDL := Lib.hid hdl
              have HTL := Lib.hid htl
              clear hdl htl
              have kO10 : Hid ((W2.alloc (.cells #[] 34)).ownsRow W2.heap.size 34 7 (.slice (some ⟨W2.heap.size, 0, none⟩) 0 0) 0 []) := World.ownsRow_made W2 #[] 0 (Nat.le_refl _) (by unfold maxLen; omega) rfl
              have hq1 : at1 ≤ dc := by omega
              have hq2 : (at1 : Int) ≤ (dc : Int) := by omega
              have hq3 : (0 : Int) ≤ (at1 : Int) := by omega
              have hq4 : (at1 : Int) ≤ (A.length : Int) := by omega
              rcases Nat.lt_or_ge at1 dc with hdc | hdc
              · have hdc2 : ¬ dc = at1 := by omega
                have hQ : EntsAt W2 wr.heap.size (some ⟨bx, ox + at1 * 7, none⟩) (A.drop at1) := by have := ents_drop hD2 (k := at1) (cf := dc) hat hcap; rwa [if_neg hdc2] at this
                have R10 := Lib.hid (fun (wx : World) (hb : Below W2.heap.size W2 wx) => reads_ents (hQ.below (hb.mono (by omega))))
                go_wp2_with (first | (at_builtin; go_loud (refine wpList_append_any _ rfl _ _ 32 rfl W2.heap.size 34 i0 _ 7 56 Tryd.underlying32 hi hz0 hz1 hz2 rfl (by decide) _ 0 [] rfl kO10.out wr.heap.size (some ⟨bx, ox + at1 * 7, none⟩) (A.length - at1) _ (rowE (A.drop at1)) rfl (by have := R10.out (W2.alloc (.cells #[] 34)) ((Below.refl _ _).alloc (Nat.le_refl _) _); rw [HDL.out] at this; exact this) (rowE_one _) (by unfold maxLen; omega) (by omega) (by simp) ?_); intro v10 W hown10 hgr10 _) | fail)
                have hbW := below_own kO10.out (by simp) hgr10
                have hBW2 : Below W2.heap.size W2 W := ((Below.refl _ _).alloc (Nat.le_refl _) _).trans hbW
                have hzW2 := hBW2.size
                have hBW : Below w.heap.size w W := (hBw.trans (hB2.mono hz)).trans (hBW2.mono (by omega))
                have hzW : w.heap.size ≤ W.heap.size := by omega
                have hcb : wr.heap.size < W.heap.size := by omega
                have kk : ∀ j, W.cell? ⟨wr.heap.size, j, none⟩ = W0.cell? ⟨wr.heap.size, j, none⟩ := fun j => (hBW2.cell (p := ⟨wr.heap.size, j, none⟩) (by show wr.heap.size < _; omega)).trans (hu j)
                have k0 := (kk 0).trans u0
                have k1 := (kk 1).trans u1
                have k2 := (kk 2).trans u2
                have k3 := (kk 3).trans u3
                have k4 := (kk 4).trans u4
                have k5 := (kk 5).trans u5
                have k6 := (kk 6).trans u6
                have hTk : EntsAt W W.heap.size (some ⟨bx, ox, none⟩) (A.take at1) := ((ents_take hD2 at1).below (hBW2.mono (by omega))).more (by omega)
                have hown11 : W.ownsRow W2.heap.size 34 7 v10 (A.drop at1).length (rowE (A.drop at1)) := by have h := hown10; rw [List.nil_append, Nat.zero_add] at h; rw [HDL.out]; exact h
                obtain ⟨Cr, cr, hv10, hCr, _⟩ := ents_of_owns hown11
                subst hv10
                clear hown10 hown11 hgr10 hbW hBW2 kk u0 u1 u2 u3 u4 u5 u6 hu hQ R10 kO10 hD2 hB2
                go_wp2_with fail
                refine Plan.wp_region_tree (.rd 1 (.rd 2 (.rd 3 (.rd 5 (.rd 8 (.two 0 (.two 4 (.wr 6 (.wr 7 (.wr 9 (.rd 10 .done)))) 6 (.wr 4 (.wr 7 (.wr 9 (.rd 10 .done))))) 6 (.wr 0 (.wr 4 (.wr 7 (.wr 9 (.rd 10 .done))))))))))) (by kernel_rfl) (by kernel_rfl) ?_
                (repeat (first | (refine Plan.tree_read (v := ?_) rfl rfl ?_ ?_; rotate_left; (focus ((intro wS hSw; have hkS := (bcell hSw).1; try (have hkT := fun (b o : Nat) (h : b < w.heap.size) => hkS b o (by first | omega | (simp; omega) | (simp; done))); go_simp); try with_reducible rfl)); simp only [Act.put, List.setIfInBounds_toArray, List.set_cons_zero, List.set_cons_succ]) | (refine Plan.tree_skip rfl rfl ?_; simp only [Act.put, List.setIfInBounds_toArray, List.set_cons_zero, List.set_cons_succ])))
                refine Plan.tree_two rfl rfl (fun K hK => ?_) (fun K hK => ?_)
                · have kB0 : Below W.heap.size W (W.alloc (.cells #[] 34)).drew := ((Below.refl _ _).alloc (Nat.le_refl _) _).drew
                  have kO0 : ((W.alloc (.cells #[] 34)).drew).ownsRow W.heap.size 34 7 (.slice (some ⟨W.heap.size, 0, none⟩) 0 0) 0 [] := (World.ownsRow_made W #[] 0 (Nat.le_refl _) (by unfold maxLen; omega) (by simp)).drew
                  (try go_simp)
                  (refine hK.out _ _ (kB0) ?_; clear hK K; try simp only [Act.put, List.setIfInBounds_toArray, List.set_cons_zero, List.set_cons_succ])
                  (repeat (first | (refine Plan.tree_read (v := ?_) rfl rfl ?_ ?_; rotate_left; (focus ((intro wS hSw; have hkS := (bcell hSw).1; try (have hkT := fun (b o : Nat) (h : b < w.heap.size) => hkS b o (by first | omega | (simp; omega) | (simp; done))); go_simp); try with_reducible rfl)); simp only [Act.put, List.setIfInBounds_toArray, List.set_cons_zero, List.set_cons_succ]) | (refine Plan.tree_skip rfl rfl ?_; simp only [Act.put, List.setIfInBounds_toArray, List.set_cons_zero, List.set_cons_succ])))
                  refine Plan.tree_two rfl rfl (fun K hK => ?_) (fun K hK => ?_)
                  · refine step_append_any _ (by rfl) _ _ _ (by rfl) W.heap.size 34 i0 _ 7 56 Tryd.underlying32 hi hz0 hz1 hz2 rfl (by omega) _ (0) ([]) (by rfl) kO0 W.heap.size (some ⟨bx, ox, none⟩) at1 dc (rowE (A.take at1)) (by rfl) (by have := reads_ents (hTk.below kB0); rw [HTL.out] at this; exact this) (rowE_one _) (by unfold maxLen; omega) (by omega) (by simp) ?_
                    intro v4 w4 hown4 hgr4 _
                    have kB4 : Below W.heap.size W w4 := kB0.trans (below_own kO0 (by simp) hgr4)
                    (refine hK.out _ _ (kB4) ?_; clear hK K; try simp only [Act.put, List.setIfInBounds_toArray, List.set_cons_zero, List.set_cons_succ])
                    (repeat (first | (refine Plan.tree_read (v := ?_) rfl rfl ?_ ?_; rotate_left; (focus ((intro wS hSw; have hkS := (bcell hSw).1; try (have hkT := fun (b o : Nat) (h : b < w.heap.size) => hkS b o (by first | omega | (simp; omega) | (simp; done))); go_simp); try with_reducible rfl)); simp only [Act.put, List.setIfInBounds_toArray, List.set_cons_zero, List.set_cons_succ]) | (refine Plan.tree_skip rfl rfl ?_; simp only [Act.put, List.setIfInBounds_toArray, List.set_cons_zero, List.set_cons_succ])))
                    (refine Plan.tree_write rfl (fun K hK => ?_); try go_simp)
                    have kB6 : Below W.heap.size W (w4.alloc (.cells e.cells.toArray 34)) := kB4.alloc kB4.size _
                    have kO6 : (w4.alloc (.cells e.cells.toArray 34)).ownsRow W.heap.size 34 7 v4 (0 + at1) ([] ++ rowE (A.take at1)) := hown4.alloc _
                    have kR6 : Reads (w4.alloc (.cells e.cells.toArray 34)) (w4.heap.size + 1) 7 (some ⟨w4.heap.size, 0, none⟩) 1 e.cells := ⟨rfl, fun _ => ⟨_, rfl, Nat.lt_succ_self _, cells_at rfl _ _⟩⟩
                    (refine hK.out _ _ (kB6) ?_; clear hK K; try simp only [Act.put, List.setIfInBounds_toArray, List.set_cons_zero, List.set_cons_succ])
                    (repeat (first | (refine Plan.tree_read (v := ?_) rfl rfl ?_ ?_; rotate_left; (focus ((intro wS hSw; have hkS := (bcell hSw).1; try (have hkT := fun (b o : Nat) (h : b < w.heap.size) => hkS b o (by first | omega | (simp; omega) | (simp; done))); go_simp); try with_reducible rfl)); simp only [Act.put, List.setIfInBounds_toArray, List.set_cons_zero, List.set_cons_succ]) | (refine Plan.tree_skip rfl rfl ?_; simp only [Act.put, List.setIfInBounds_toArray, List.set_cons_zero, List.set_cons_succ])))
                    refine Plan.tree_write rfl (fun K hK => ?_)
                    refine step_append_any _ (by rfl) _ _ _ (by rfl) W.heap.size 34 i0 _ 7 56 Tryd.underlying32 hi hz0 hz1 hz2 rfl (by omega) v4 (0 + at1) ([] ++ rowE (A.take at1)) (by rfl) kO6 (w4.heap.size + 1) (some ⟨w4.heap.size, 0, none⟩) 1 1 e.cells (by rfl) kR6 (cells_one e) (by unfold maxLen; omega) (by omega) kB6.size ?_
                    intro v7 w7 hown7 hgr7 _
                    have kB7 : Below W.heap.size W w7 := kB6.trans (below_own kO6 kB6.size hgr7)
                    (refine hK.out _ _ (kB7) ?_; clear hK K; try simp only [Act.put, List.setIfInBounds_toArray, List.set_cons_zero, List.set_cons_succ])
                    (repeat (first | (refine Plan.tree_read (v := ?_) rfl rfl ?_ ?_; rotate_left; (focus ((intro wS hSw; have hkS := (bcell hSw).1; try (have hkT := fun (b o : Nat) (h : b < w.heap.size) => hkS b o (by first | omega | (simp; omega) | (simp; done))); go_simp); try with_reducible rfl)); simp only [Act.put, List.setIfInBounds_toArray, List.set_cons_zero, List.set_cons_succ]) | (refine Plan.tree_skip rfl rfl ?_; simp only [Act.put, List.setIfInBounds_toArray, List.set_cons_zero, List.set_cons_succ])))
                    refine Plan.tree_write rfl (fun K hK => ?_)
                    refine step_append_any _ (by rfl) _ _ _ (by rfl) W.heap.size 34 i0 _ 7 56 Tryd.underlying32 hi hz0 hz1 hz2 rfl (by omega) v7 (0 + at1 + 1) ([] ++ rowE (A.take at1) ++ e.cells) (by rfl) hown7 W.heap.size Cr (A.length - at1) cr (rowE (A.drop at1)) (by rfl) (by have := reads_ents (hCr.below kB7); rw [HDL.out] at this; exact this) (rowE_one _) (by unfold maxLen; omega) (by omega) kB7.size ?_
                    intro v9 w9 hown9 hgr9 _
                    have kB9 : Below W.heap.size W w9 := kB7.trans (below_own hown7 kB7.size hgr9)
                    clear kB0 kO0 kB4 hown4 hgr4 kB6 kO6 kR6 kB7 hown7 hgr7 hgr9
                    (refine hK.out _ _ (kB9) ?_; clear hK K; try simp only [Act.put, List.setIfInBounds_toArray, List.set_cons_zero, List.set_cons_succ])
                    (repeat (first | (refine Plan.tree_read (v := ?_) rfl rfl ?_ ?_; rotate_left; (focus ((intro wS hSw; have hkS := (bcell hSw).1; try (have hkT := fun (b o : Nat) (h : b < w.heap.size) => hkS b o (by first | omega | (simp; omega) | (simp; done))); go_simp); try with_reducible rfl)); simp only [Act.put, List.setIfInBounds_toArray, List.set_cons_zero, List.set_cons_succ]) | (refine Plan.tree_skip rfl rfl ?_; simp only [Act.put, List.setIfInBounds_toArray, List.set_cons_zero, List.set_cons_succ])))
                    refine Plan.tree_done ?_
                    rw [List.nil_append, ← rowE_snoc, ← rowE_append] at hown9
                    have hlenF : (0 + at1 + 1 + (A.length - at1)) = (A.take at1 ++ [e] ++ A.drop at1).length := by simp; omega
                    rw [hlenF] at hown9
                    obtain ⟨D9, c9, he9, hD9, hF9⟩ := ents_of_owns hown9
                    have hcap9 := owns_cap hown9 he9
                    subst he9
                    have HE9 := Lib.hid hD9
                    have hbF : Below w.heap.size w w9 := hBW.trans (kB9.mono hzW)
                    clear hown9 hD9 kB9 hF9 hlenF
                    go_wp2_with fail
                    go_roundw
                    case rel =>
                      have hsh9 : (A.take at1 ++ [e] ++ A.drop at1 = [] ∧ D9 = none ∧ c9 = 0) ∨ ∃ bq oq, D9 = some ⟨bq, oq, none⟩ := Or.inr (by obtain ⟨b, o, hq, _⟩ := HE9.out (by simp; omega); exact ⟨b, o, hq⟩)
                      refine ⟨k + 1, D9, c9, A.take at1 ++ [e] ++ A.drop at1, by omega, by go_num, rfl, ?_, hcap9, HE9.out, hbF, hbF.size, hsh9⟩
                      show _ = _
                      rw [hstep.out k e HX.out, if_pos HP.out, ← hA.out, HM.out, List.append_assoc]
                      rfl
                    case measure => simp [intOf]; omega
                  · (try go_simp)
                    have kO1 := kO0
                    have kB1 := kB0
                    clear kO0 kB0
                    have kB0 : Below W.heap.size W ((W.alloc (.cells #[] 34)).alloc (.cells e.cells.toArray 34)).drew := (((Below.refl _ _).alloc (Nat.le_refl _) _).alloc (by simp) _).drew
                    have kO0 : (((W.alloc (.cells #[] 34)).alloc (.cells e.cells.toArray 34)).drew).ownsRow W.heap.size 34 7 (.slice (some ⟨W.heap.size, 0, none⟩) 0 0) 0 [] := ((World.ownsRow_made W #[] 0 (Nat.le_refl _) (by unfold maxLen; omega) (by simp)).alloc _).drew
                    have kR6 : Reads (((W.alloc (.cells #[] 34)).alloc (.cells e.cells.toArray 34)).drew) (W.heap.size + 1 + 1) 7 (some ⟨W.heap.size + 1, 0, none⟩) 1 e.cells := ⟨rfl, fun _ => ⟨_, rfl, Nat.lt_succ_self _, cells_at (w := W.alloc (.cells #[] 34)) (by simp) _ _⟩⟩
                    (refine hK.out _ _ (kB0) ?_; clear hK K; try simp only [Act.put, List.setIfInBounds_toArray, List.set_cons_zero, List.set_cons_succ])
                    (repeat (first | (refine Plan.tree_read (v := ?_) rfl rfl ?_ ?_; rotate_left; (focus ((intro wS hSw; have hkS := (bcell hSw).1; try (have hkT := fun (b o : Nat) (h : b < w.heap.size) => hkS b o (by first | omega | (simp; omega) | (simp; done))); go_simp); try with_reducible rfl)); simp only [Act.put, List.setIfInBounds_toArray, List.set_cons_zero, List.set_cons_succ]) | (refine Plan.tree_skip rfl rfl ?_; simp only [Act.put, List.setIfInBounds_toArray, List.set_cons_zero, List.set_cons_succ])))
                    refine Plan.tree_write rfl (fun K hK => ?_)
                    refine step_append_any _ (by rfl) _ _ _ (by rfl) W.heap.size 34 i0 _ 7 56 Tryd.underlying32 hi hz0 hz1 hz2 rfl (by omega) _ (0) ([]) (by rfl) kO0 W.heap.size (some ⟨bx, ox, none⟩) at1 dc (rowE (A.take at1)) (by rfl) (by have := reads_ents (hTk.below kB0); rw [HTL.out] at this; exact this) (rowE_one _) (by unfold maxLen; omega) (by omega) kB0.size ?_
                    intro v4 w4 hown4 hgr4 _
                    have kB4 : Below W.heap.size W w4 := kB0.trans (below_own kO0 kB0.size hgr4)
                    have kR4 : Reads w4 w4.heap.size 7 (some ⟨W.heap.size + 1, 0, none⟩) 1 e.cells := kR6.grown_off (by simp) hgr4 (by simp [Value.ownBlock])
                    (refine hK.out _ _ (kB4) ?_; clear hK K; try simp only [Act.put, List.setIfInBounds_toArray, List.set_cons_zero, List.set_cons_succ])
                    (repeat (first | (refine Plan.tree_read (v := ?_) rfl rfl ?_ ?_; rotate_left; (focus ((intro wS hSw; have hkS := (bcell hSw).1; try (have hkT := fun (b o : Nat) (h : b < w.heap.size) => hkS b o (by first | omega | (simp; omega) | (simp; done))); go_simp); try with_reducible rfl)); simp only [Act.put, List.setIfInBounds_toArray, List.set_cons_zero, List.set_cons_succ]) | (refine Plan.tree_skip rfl rfl ?_; simp only [Act.put, List.setIfInBounds_toArray, List.set_cons_zero, List.set_cons_succ])))
                    refine Plan.tree_write rfl (fun K hK => ?_)
                    refine step_append_any _ (by rfl) _ _ _ (by rfl) W.heap.size 34 i0 _ 7 56 Tryd.underlying32 hi hz0 hz1 hz2 rfl (by omega) v4 (0 + at1) ([] ++ rowE (A.take at1)) (by rfl) hown4 w4.heap.size (some ⟨W.heap.size + 1, 0, none⟩) 1 1 e.cells (by rfl) kR4 (cells_one e) (by unfold maxLen; omega) (by omega) kB4.size ?_
                    intro v7 w7 hown7 hgr7 _
                    have kB7 : Below W.heap.size W w7 := kB4.trans (below_own hown4 kB4.size hgr7)
                    (refine hK.out _ _ (kB7) ?_; clear hK K; try simp only [Act.put, List.setIfInBounds_toArray, List.set_cons_zero, List.set_cons_succ])
                    (repeat (first | (refine Plan.tree_read (v := ?_) rfl rfl ?_ ?_; rotate_left; (focus ((intro wS hSw; have hkS := (bcell hSw).1; try (have hkT := fun (b o : Nat) (h : b < w.heap.size) => hkS b o (by first | omega | (simp; omega) | (simp; done))); go_simp); try with_reducible rfl)); simp only [Act.put, List.setIfInBounds_toArray, List.set_cons_zero, List.set_cons_succ]) | (refine Plan.tree_skip rfl rfl ?_; simp only [Act.put, List.setIfInBounds_toArray, List.set_cons_zero, List.set_cons_succ])))
                    refine Plan.tree_write rfl (fun K hK => ?_)
                    refine step_append_any _ (by rfl) _ _ _ (by rfl) W.heap.size 34 i0 _ 7 56 Tryd.underlying32 hi hz0 hz1 hz2 rfl (by omega) v7 (0 + at1 + 1) ([] ++ rowE (A.take at1) ++ e.cells) (by rfl) hown7 W.heap.size Cr (A.length - at1) cr (rowE (A.drop at1)) (by rfl) (by have := reads_ents (hCr.below kB7); rw [HDL.out] at this; exact this) (rowE_one _) (by unfold maxLen; omega) (by omega) kB7.size ?_
                    intro v9 w9 hown9 hgr9 _
                    have kB9 : Below W.heap.size W w9 := kB7.trans (below_own hown7 kB7.size hgr9)
                    clear kB0 kO0 kB4 hown4 hgr4 kR6 kR4 kB7 hown7 hgr7 hgr9
                    (refine hK.out _ _ (kB9) ?_; clear hK K; try simp only [Act.put, List.setIfInBounds_toArray, List.set_cons_zero, List.set_cons_succ])
                    (repeat (first | (refine Plan.tree_read (v := ?_) rfl rfl ?_ ?_; rotate_left; (focus ((intro wS hSw; have hkS := (bcell hSw).1; try (have hkT := fun (b o : Nat) (h : b < w.heap.size) => hkS b o (by first | omega | (simp; omega) | (simp; done))); go_simp); try with_reducible rfl)); simp only [Act.put, List.setIfInBounds_toArray, List.set_cons_zero, List.set_cons_succ]) | (refine Plan.tree_skip rfl rfl ?_; simp only [Act.put, List.setIfInBounds_toArray, List.set_cons_zero, List.set_cons_succ])))
                    refine Plan.tree_done ?_
                    rw [List.nil_append, ← rowE_snoc, ← rowE_append] at hown9
                    have hlenF : (0 + at1 + 1 + (A.length - at1)) = (A.take at1 ++ [e] ++ A.drop at1).length := by simp; omega
                    rw [hlenF] at hown9
                    obtain ⟨D9, c9, he9, hD9, hF9⟩ := ents_of_owns hown9
                    have hcap9 := owns_cap hown9 he9
                    subst he9
                    have HE9 := Lib.hid hD9
                    have hbF : Below w.heap.size w w9 := hBW.trans (kB9.mono hzW)
                    clear hown9 hD9 kB9 hF9 hlenF
                    go_wp2_with fail
                    go_roundw
                    case rel =>
                      have hsh9 : (A.take at1 ++ [e] ++ A.drop at1 = [] ∧ D9 = none ∧ c9 = 0) ∨ ∃ bq oq, D9 = some ⟨bq, oq, none⟩ := Or.inr (by obtain ⟨b, o, hq, _⟩ := HE9.out (by simp; omega); exact ⟨b, o, hq⟩)
                      refine ⟨k + 1, D9, c9, A.take at1 ++ [e] ++ A.drop at1, by omega, by go_num, rfl, ?_, hcap9, HE9.out, hbF, hbF.size, hsh9⟩
                      show _ = _
                      rw [hstep.out k e HX.out, if_pos HP.out, ← hA.out, HM.out, List.append_assoc]
                      rfl
                    case measure => simp [intOf]; omega
                · (try go_simp)
                  have kB0 : Below W.heap.size W (W.alloc (.cells e.cells.toArray 34)).drew := ((Below.refl _ _).alloc (Nat.le_refl _) _).drew
                  (refine hK.out _ _ (kB0) ?_; clear hK K; try simp only [Act.put, List.setIfInBounds_toArray, List.set_cons_zero, List.set_cons_succ])
                  (repeat (first | (refine Plan.tree_read (v := ?_) rfl rfl ?_ ?_; rotate_left; (focus ((intro wS hSw; have hkS := (bcell hSw).1; try (have hkT := fun (b o : Nat) (h : b < w.heap.size) => hkS b o (by first | omega | (simp; omega) | (simp; done))); go_simp); try with_reducible rfl)); simp only [Act.put, List.setIfInBounds_toArray, List.set_cons_zero, List.set_cons_succ]) | (refine Plan.tree_skip rfl rfl ?_; simp only [Act.put, List.setIfInBounds_toArray, List.set_cons_zero, List.set_cons_succ])))
                  (refine Plan.tree_write rfl (fun K hK => ?_); try go_simp)
                  have kB1 := kB0
                  clear kB0
                  have kB0 : Below W.heap.size W ((W.alloc (.cells e.cells.toArray 34)).alloc (.cells #[] 34)).drew := (((Below.refl _ _).alloc (Nat.le_refl _) _).alloc (by simp) _).drew
                  have kO0 : (((W.alloc (.cells e.cells.toArray 34)).alloc (.cells #[] 34)).drew).ownsRow W.heap.size 34 7 (.slice (some ⟨W.heap.size + 1, 0, none⟩) 0 0) 0 [] := by
                    have h := (World.ownsRow_made (size := 7) (base := W.heap.size) (e := 34) (W.alloc (.cells e.cells.toArray 34)) #[] 0 (by simp) (by unfold maxLen; omega) (by simp)).drew
                    rw [World.size_alloc] at h
                    exact h
                  have kR6 : Reads (((W.alloc (.cells e.cells.toArray 34)).alloc (.cells #[] 34)).drew) (W.heap.size + 1) 7 (some ⟨W.heap.size, 0, none⟩) 1 e.cells := ⟨rfl, fun _ => ⟨_, rfl, Nat.lt_succ_self _, fun j u hj => by
                    have := cells_at (w := W) rfl 34 e.cells j u hj
                    rw [← this]
                    exact World.cell?_alloc_lt (W.alloc (.cells e.cells.toArray 34)) _ _ (by rw [block_of_add]; simp)⟩⟩
                  (refine hK.out _ _ (kB0) ?_; clear hK K; try simp only [Act.put, List.setIfInBounds_toArray, List.set_cons_zero, List.set_cons_succ])
                  (repeat (first | (refine Plan.tree_read (v := ?_) rfl rfl ?_ ?_; rotate_left; (focus ((intro wS hSw; have hkS := (bcell hSw).1; try (have hkT := fun (b o : Nat) (h : b < w.heap.size) => hkS b o (by first | omega | (simp; omega) | (simp; done))); go_simp); try with_reducible rfl)); simp only [Act.put, List.setIfInBounds_toArray, List.set_cons_zero, List.set_cons_succ]) | (refine Plan.tree_skip rfl rfl ?_; simp only [Act.put, List.setIfInBounds_toArray, List.set_cons_zero, List.set_cons_succ])))
                  refine Plan.tree_write rfl (fun K hK => ?_)
                  refine step_append_any _ (by rfl) _ _ _ (by rfl) W.heap.size 34 i0 _ 7 56 Tryd.underlying32 hi hz0 hz1 hz2 rfl (by omega) _ (0) ([]) (by rfl) kO0 W.heap.size (some ⟨bx, ox, none⟩) at1 dc (rowE (A.take at1)) (by rfl) (by have := reads_ents (hTk.below kB0); rw [HTL.out] at this; exact this) (rowE_one _) (by unfold maxLen; omega) (by omega) kB0.size ?_
                  intro v4 w4 hown4 hgr4 _
                  have kB4 : Below W.heap.size W w4 := kB0.trans (below_own kO0 kB0.size hgr4)
                  have kR4 : Reads w4 w4.heap.size 7 (some ⟨W.heap.size, 0, none⟩) 1 e.cells := kR6.grown_off (by simp) hgr4 (by simp [Value.ownBlock])
                  (refine hK.out _ _ (kB4) ?_; clear hK K; try simp only [Act.put, List.setIfInBounds_toArray, List.set_cons_zero, List.set_cons_succ])
                  (repeat (first | (refine Plan.tree_read (v := ?_) rfl rfl ?_ ?_; rotate_left; (focus ((intro wS hSw; have hkS := (bcell hSw).1; try (have hkT := fun (b o : Nat) (h : b < w.heap.size) => hkS b o (by first | omega | (simp; omega) | (simp; done))); go_simp); try with_reducible rfl)); simp only [Act.put, List.setIfInBounds_toArray, List.set_cons_zero, List.set_cons_succ]) | (refine Plan.tree_skip rfl rfl ?_; simp only [Act.put, List.setIfInBounds_toArray, List.set_cons_zero, List.set_cons_succ])))
                  refine Plan.tree_write rfl (fun K hK => ?_)
                  refine step_append_any _ (by rfl) _ _ _ (by rfl) W.heap.size 34 i0 _ 7 56 Tryd.underlying32 hi hz0 hz1 hz2 rfl (by omega) v4 (0 + at1) ([] ++ rowE (A.take at1)) (by rfl) hown4 w4.heap.size (some ⟨W.heap.size, 0, none⟩) 1 1 e.cells (by rfl) kR4 (cells_one e) (by unfold maxLen; omega) (by omega) kB4.size ?_
                  intro v7 w7 hown7 hgr7 _
                  have kB7 : Below W.heap.size W w7 := kB4.trans (below_own hown4 kB4.size hgr7)
                  (refine hK.out _ _ (kB7) ?_; clear hK K; try simp only [Act.put, List.setIfInBounds_toArray, List.set_cons_zero, List.set_cons_succ])
                  (repeat (first | (refine Plan.tree_read (v := ?_) rfl rfl ?_ ?_; rotate_left; (focus ((intro wS hSw; have hkS := (bcell hSw).1; try (have hkT := fun (b o : Nat) (h : b < w.heap.size) => hkS b o (by first | omega | (simp; omega) | (simp; done))); go_simp); try with_reducible rfl)); simp only [Act.put, List.setIfInBounds_toArray, List.set_cons_zero, List.set_cons_succ]) | (refine Plan.tree_skip rfl rfl ?_; simp only [Act.put, List.setIfInBounds_toArray, List.set_cons_zero, List.set_cons_succ])))
                  refine Plan.tree_write rfl (fun K hK => ?_)
                  refine step_append_any _ (by rfl) _ _ _ (by rfl) W.heap.size 34 i0 _ 7 56 Tryd.underlying32 hi hz0 hz1 hz2 rfl (by omega) v7 (0 + at1 + 1) ([] ++ rowE (A.take at1) ++ e.cells) (by rfl) hown7 W.heap.size Cr (A.length - at1) cr (rowE (A.drop at1)) (by rfl) (by have := reads_ents (hCr.below kB7); rw [HDL.out] at this; exact this) (rowE_one _) (by unfold maxLen; omega) (by omega) kB7.size ?_
                  intro v9 w9 hown9 hgr9 _
                  have kB9 : Below W.heap.size W w9 := kB7.trans (below_own hown7 kB7.size hgr9)
                  clear kB0 kO0 kB4 hown4 hgr4 kR6 kR4 kB7 hown7 hgr7 hgr9
                  (refine hK.out _ _ (kB9) ?_; clear hK K; try simp only [Act.put, List.setIfInBounds_toArray, List.set_cons_zero, List.set_cons_succ])
                  (repeat (first | (refine Plan.tree_read (v := ?_) rfl rfl ?_ ?_; rotate_left; (focus ((intro wS hSw; have hkS := (bcell hSw).1; try (have hkT := fun (b o : Nat) (h : b < w.heap.size) => hkS b o (by first | omega | (simp; omega) | (simp; done))); go_simp); try with_reducible rfl)); simp only [Act.put, List.setIfInBounds_toArray, List.set_cons_zero, List.set_cons_succ]) | (refine Plan.tree_skip rfl rfl ?_; simp only [Act.put, List.setIfInBounds_toArray, List.set_cons_zero, List.set_cons_succ])))
                  refine Plan.tree_done ?_
                  rw [List.nil_append, ← rowE_snoc, ← rowE_append] at hown9
                  have hlenF : (0 + at1 + 1 + (A.length - at1)) = (A.take at1 ++ [e] ++ A.drop at1).length := by simp; omega
                  rw [hlenF] at hown9
                  obtain ⟨D9, c9, he9, hD9, hF9⟩ := ents_of_owns hown9
                  have hcap9 := owns_cap hown9 he9
                  subst he9
                  have HE9 := Lib.hid hD9
                  have hbF : Below w.heap.size w w9 := hBW.trans (kB9.mono hzW)
                  clear hown9 hD9 kB9 hF9 hlenF
                  go_wp2_with fail
                  go_roundw
                  case rel =>
                    have hsh9 : (A.take at1 ++ [e] ++ A.drop at1 = [] ∧ D9 = none ∧ c9 = 0) ∨ ∃ bq oq, D9 = some ⟨bq, oq, none⟩ := Or.inr (by obtain ⟨b, o, hq, _⟩ := HE9.out (by simp; omega); exact ⟨b, o, hq⟩)
                    refine ⟨k + 1, D9, c9, A.take at1 ++ [e] ++ A.drop at1, by omega, by go_num, rfl, ?_, hcap9, HE9.out, hbF, hbF.size, hsh9⟩
                    show _ = _
                    rw [hstep.out k e HX.out, if_pos HP.out, ← hA.out, HM.out, List.append_assoc]
                    rfl
                  case measure => simp [intOf]; omega
              · have hdc2 : at1 = dc := by omega
                subst hdc2
                have hQ : EntsAt W2 wr.heap.size (some ⟨bx, ox, none⟩) (A.drop at1) := by have := ents_drop hD2 (k := at1) (cf := at1) hat hcap; rwa [if_pos rfl] at this
                have HA0 : Hid (A.length - at1 = 0) := by show _ = _; omega
                have R10 := Lib.hid (fun (wx : World) (hb : Below W2.heap.size W2 wx) => reads_ents (hQ.below (hb.mono (by omega))))
                go_wp2_with (first | (at_builtin; go_loud (refine wpList_append_any _ rfl _ _ 32 rfl W2.heap.size 34 i0 _ 7 56 Tryd.underlying32 hi hz0 hz1 hz2 rfl (by decide) _ 0 [] rfl kO10.out wr.heap.size (some ⟨bx, ox, none⟩) 0 _ (rowE (A.drop at1)) rfl (by have := R10.out (W2.alloc (.cells #[] 34)) ((Below.refl _ _).alloc (Nat.le_refl _) _); rw [HDL.out] at this; rw [HA0.out] at this; exact this) (rowE_one _) (by unfold maxLen; omega) (by omega) (by simp) ?_); intro v10 W hown10 hgr10 _) | fail)
                have hbW := below_own kO10.out (by simp) hgr10
                have hBW2 : Below W2.heap.size W2 W := ((Below.refl _ _).alloc (Nat.le_refl _) _).trans hbW
                have hzW2 := hBW2.size
                have hBW : Below w.heap.size w W := (hBw.trans (hB2.mono hz)).trans (hBW2.mono (by omega))
                have hzW : w.heap.size ≤ W.heap.size := by omega
                have hcb : wr.heap.size < W.heap.size := by omega
                have kk : ∀ j, W.cell? ⟨wr.heap.size, j, none⟩ = W0.cell? ⟨wr.heap.size, j, none⟩ := fun j => (hBW2.cell (p := ⟨wr.heap.size, j, none⟩) (by show wr.heap.size < _; omega)).trans (hu j)
                have k0 := (kk 0).trans u0
                have k1 := (kk 1).trans u1
                have k2 := (kk 2).trans u2
                have k3 := (kk 3).trans u3
                have k4 := (kk 4).trans u4
                have k5 := (kk 5).trans u5
                have k6 := (kk 6).trans u6
                have hTk : EntsAt W W.heap.size (some ⟨bx, ox, none⟩) (A.take at1) := ((ents_take hD2 at1).below (hBW2.mono (by omega))).more (by omega)
                have hown11 : W.ownsRow W2.heap.size 34 7 v10 (A.drop at1).length (rowE (A.drop at1)) := by have h := hown10; rw [List.nil_append, Nat.zero_add] at h; rw [HDL.out]; rw [HA0.out]; exact h
                obtain ⟨Cr, cr, hv10, hCr, _⟩ := ents_of_owns hown11
                subst hv10
                clear hown10 hown11 hgr10 hbW hBW2 kk u0 u1 u2 u3 u4 u5 u6 hu hQ R10 kO10 hD2 hB2
                go_wp2_with fail
                refine Plan.wp_region_tree (.rd 1 (.rd 2 (.rd 3 (.rd 5 (.rd 8 (.two 0 (.two 4 (.wr 6 (.wr 7 (.wr 9 (.rd 10 .done)))) 6 (.wr 4 (.wr 7 (.wr 9 (.rd 10 .done))))) 6 (.wr 0 (.wr 4 (.wr 7 (.wr 9 (.rd 10 .done))))))))))) (by kernel_rfl) (by kernel_rfl) ?_
                (repeat (first | (refine Plan.tree_read (v := ?_) rfl rfl ?_ ?_; rotate_left; (focus ((intro wS hSw; have hkS := (bcell hSw).1; try (have hkT := fun (b o : Nat) (h : b < w.heap.size) => hkS b o (by first | omega | (simp; omega) | (simp; done))); go_simp); try with_reducible rfl)); simp only [Act.put, List.setIfInBounds_toArray, List.set_cons_zero, List.set_cons_succ]) | (refine Plan.tree_skip rfl rfl ?_; simp only [Act.put, List.setIfInBounds_toArray, List.set_cons_zero, List.set_cons_succ])))
                refine Plan.tree_two rfl rfl (fun K hK => ?_) (fun K hK => ?_)
                · have kB0 : Below W.heap.size W (W.alloc (.cells #[] 34)).drew := ((Below.refl _ _).alloc (Nat.le_refl _) _).drew
                  have kO0 : ((W.alloc (.cells #[] 34)).drew).ownsRow W.heap.size 34 7 (.slice (some ⟨W.heap.size, 0, none⟩) 0 0) 0 [] := (World.ownsRow_made W #[] 0 (Nat.le_refl _) (by unfold maxLen; omega) (by simp)).drew
                  (try go_simp)
                  (refine hK.out _ _ (kB0) ?_; clear hK K; try simp only [Act.put, List.setIfInBounds_toArray, List.set_cons_zero, List.set_cons_succ])
                  (repeat (first | (refine Plan.tree_read (v := ?_) rfl rfl ?_ ?_; rotate_left; (focus ((intro wS hSw; have hkS := (bcell hSw).1; try (have hkT := fun (b o : Nat) (h : b < w.heap.size) => hkS b o (by first | omega | (simp; omega) | (simp; done))); go_simp); try with_reducible rfl)); simp only [Act.put, List.setIfInBounds_toArray, List.set_cons_zero, List.set_cons_succ]) | (refine Plan.tree_skip rfl rfl ?_; simp only [Act.put, List.setIfInBounds_toArray, List.set_cons_zero, List.set_cons_succ])))
                  refine Plan.tree_two rfl rfl (fun K hK => ?_) (fun K hK => ?_)
                  · refine step_append_any _ (by rfl) _ _ _ (by rfl) W.heap.size 34 i0 _ 7 56 Tryd.underlying32 hi hz0 hz1 hz2 rfl (by omega) _ (0) ([]) (by rfl) kO0 W.heap.size (some ⟨bx, ox, none⟩) at1 at1 (rowE (A.take at1)) (by rfl) (by have := reads_ents (hTk.below kB0); rw [HTL.out] at this; exact this) (rowE_one _) (by unfold maxLen; omega) (by omega) (by simp) ?_
                    intro v4 w4 hown4 hgr4 _
                    have kB4 : Below W.heap.size W w4 := kB0.trans (below_own kO0 (by simp) hgr4)
                    (refine hK.out _ _ (kB4) ?_; clear hK K; try simp only [Act.put, List.setIfInBounds_toArray, List.set_cons_zero, List.set_cons_succ])
                    (repeat (first | (refine Plan.tree_read (v := ?_) rfl rfl ?_ ?_; rotate_left; (focus ((intro wS hSw; have hkS := (bcell hSw).1; try (have hkT := fun (b o : Nat) (h : b < w.heap.size) => hkS b o (by first | omega | (simp; omega) | (simp; done))); go_simp); try with_reducible rfl)); simp only [Act.put, List.setIfInBounds_toArray, List.set_cons_zero, List.set_cons_succ]) | (refine Plan.tree_skip rfl rfl ?_; simp only [Act.put, List.setIfInBounds_toArray, List.set_cons_zero, List.set_cons_succ])))
                    (refine Plan.tree_write rfl (fun K hK => ?_); try go_simp)
                    have kB6 : Below W.heap.size W (w4.alloc (.cells e.cells.toArray 34)) := kB4.alloc kB4.size _
                    have kO6 : (w4.alloc (.cells e.cells.toArray 34)).ownsRow W.heap.size 34 7 v4 (0 + at1) ([] ++ rowE (A.take at1)) := hown4.alloc _
                    have kR6 : Reads (w4.alloc (.cells e.cells.toArray 34)) (w4.heap.size + 1) 7 (some ⟨w4.heap.size, 0, none⟩) 1 e.cells := ⟨rfl, fun _ => ⟨_, rfl, Nat.lt_succ_self _, cells_at rfl _ _⟩⟩
                    (refine hK.out _ _ (kB6) ?_; clear hK K; try simp only [Act.put, List.setIfInBounds_toArray, List.set_cons_zero, List.set_cons_succ])
                    (repeat (first | (refine Plan.tree_read (v := ?_) rfl rfl ?_ ?_; rotate_left; (focus ((intro wS hSw; have hkS := (bcell hSw).1; try (have hkT := fun (b o : Nat) (h : b < w.heap.size) => hkS b o (by first | omega | (simp; omega) | (simp; done))); go_simp); try with_reducible rfl)); simp only [Act.put, List.setIfInBounds_toArray, List.set_cons_zero, List.set_cons_succ]) | (refine Plan.tree_skip rfl rfl ?_; simp only [Act.put, List.setIfInBounds_toArray, List.set_cons_zero, List.set_cons_succ])))
                    refine Plan.tree_write rfl (fun K hK => ?_)
                    refine step_append_any _ (by rfl) _ _ _ (by rfl) W.heap.size 34 i0 _ 7 56 Tryd.underlying32 hi hz0 hz1 hz2 rfl (by omega) v4 (0 + at1) ([] ++ rowE (A.take at1)) (by rfl) kO6 (w4.heap.size + 1) (some ⟨w4.heap.size, 0, none⟩) 1 1 e.cells (by rfl) kR6 (cells_one e) (by unfold maxLen; omega) (by omega) kB6.size ?_
                    intro v7 w7 hown7 hgr7 _
                    have kB7 : Below W.heap.size W w7 := kB6.trans (below_own kO6 kB6.size hgr7)
                    (refine hK.out _ _ (kB7) ?_; clear hK K; try simp only [Act.put, List.setIfInBounds_toArray, List.set_cons_zero, List.set_cons_succ])
                    (repeat (first | (refine Plan.tree_read (v := ?_) rfl rfl ?_ ?_; rotate_left; (focus ((intro wS hSw; have hkS := (bcell hSw).1; try (have hkT := fun (b o : Nat) (h : b < w.heap.size) => hkS b o (by first | omega | (simp; omega) | (simp; done))); go_simp); try with_reducible rfl)); simp only [Act.put, List.setIfInBounds_toArray, List.set_cons_zero, List.set_cons_succ]) | (refine Plan.tree_skip rfl rfl ?_; simp only [Act.put, List.setIfInBounds_toArray, List.set_cons_zero, List.set_cons_succ])))
                    refine Plan.tree_write rfl (fun K hK => ?_)
                    refine step_append_any _ (by rfl) _ _ _ (by rfl) W.heap.size 34 i0 _ 7 56 Tryd.underlying32 hi hz0 hz1 hz2 rfl (by omega) v7 (0 + at1 + 1) ([] ++ rowE (A.take at1) ++ e.cells) (by rfl) hown7 W.heap.size Cr 0 cr (rowE (A.drop at1)) (by rfl) (by have := reads_ents (hCr.below kB7); rw [HDL.out] at this; rw [HA0.out] at this; exact this) (rowE_one _) (by unfold maxLen; omega) (by omega) kB7.size ?_
                    intro v9 w9 hown9 hgr9 _
                    have kB9 : Below W.heap.size W w9 := kB7.trans (below_own hown7 kB7.size hgr9)
                    clear kB0 kO0 kB4 hown4 hgr4 kB6 kO6 kR6 kB7 hown7 hgr7 hgr9
                    (refine hK.out _ _ (kB9) ?_; clear hK K; try simp only [Act.put, List.setIfInBounds_toArray, List.set_cons_zero, List.set_cons_succ])
                    (repeat (first | (refine Plan.tree_read (v := ?_) rfl rfl ?_ ?_; rotate_left; (focus ((intro wS hSw; have hkS := (bcell hSw).1; try (have hkT := fun (b o : Nat) (h : b < w.heap.size) => hkS b o (by first | omega | (simp; omega) | (simp; done))); go_simp); try with_reducible rfl)); simp only [Act.put, List.setIfInBounds_toArray, List.set_cons_zero, List.set_cons_succ]) | (refine Plan.tree_skip rfl rfl ?_; simp only [Act.put, List.setIfInBounds_toArray, List.set_cons_zero, List.set_cons_succ])))
                    refine Plan.tree_done ?_
                    rw [List.nil_append, ← rowE_snoc, ← rowE_append] at hown9
                    have hlenF : (0 + at1 + 1 + 0) = (A.take at1 ++ [e] ++ A.drop at1).length := by simp; omega
                    rw [hlenF] at hown9
                    obtain ⟨D9, c9, he9, hD9, hF9⟩ := ents_of_owns hown9
                    have hcap9 := owns_cap hown9 he9
                    subst he9
                    have HE9 := Lib.hid hD9
                    have hbF : Below w.heap.size w w9 := hBW.trans (kB9.mono hzW)
                    clear hown9 hD9 kB9 hF9 hlenF
                    go_wp2_with fail
                    go_roundw
                    case rel =>
                      have hsh9 : (A.take at1 ++ [e] ++ A.drop at1 = [] ∧ D9 = none ∧ c9 = 0) ∨ ∃ bq oq, D9 = some ⟨bq, oq, none⟩ := Or.inr (by obtain ⟨b, o, hq, _⟩ := HE9.out (by simp; omega); exact ⟨b, o, hq⟩)
                      refine ⟨k + 1, D9, c9, A.take at1 ++ [e] ++ A.drop at1, by omega, by go_num, rfl, ?_, hcap9, HE9.out, hbF, hbF.size, hsh9⟩
                      show _ = _
                      rw [hstep.out k e HX.out, if_pos HP.out, ← hA.out, HM.out, List.append_assoc]
                      rfl
                    case measure => simp [intOf]; omega
                  · (try go_simp)
                    have kO1 := kO0
                    have kB1 := kB0
                    clear kO0 kB0
                    have kB0 : Below W.heap.size W ((W.alloc (.cells #[] 34)).alloc (.cells e.cells.toArray 34)).drew := (((Below.refl _ _).alloc (Nat.le_refl _) _).alloc (by simp) _).drew
                    have kO0 : (((W.alloc (.cells #[] 34)).alloc (.cells e.cells.toArray 34)).drew).ownsRow W.heap.size 34 7 (.slice (some ⟨W.heap.size, 0, none⟩) 0 0) 0 [] := ((World.ownsRow_made W #[] 0 (Nat.le_refl _) (by unfold maxLen; omega) (by simp)).alloc _).drew
                    have kR6 : Reads (((W.alloc (.cells #[] 34)).alloc (.cells e.cells.toArray 34)).drew) (W.heap.size + 1 + 1) 7 (some ⟨W.heap.size + 1, 0, none⟩) 1 e.cells := ⟨rfl, fun _ => ⟨_, rfl, Nat.lt_succ_self _, cells_at (w := W.alloc (.cells #[] 34)) (by simp) _ _⟩⟩
                    (refine hK.out _ _ (kB0) ?_; clear hK K; try simp only [Act.put, List.setIfInBounds_toArray, List.set_cons_zero, List.set_cons_succ])
                    (repeat (first | (refine Plan.tree_read (v := ?_) rfl rfl ?_ ?_; rotate_left; (focus ((intro wS hSw; have hkS := (bcell hSw).1; try (have hkT := fun (b o : Nat) (h : b < w.heap.size) => hkS b o (by first | omega | (simp; omega) | (simp; done))); go_simp); try with_reducible rfl)); simp only [Act.put, List.setIfInBounds_toArray, List.set_cons_zero, List.set_cons_succ]) | (refine Plan.tree_skip rfl rfl ?_; simp only [Act.put, List.setIfInBounds_toArray, List.set_cons_zero, List.set_cons_succ])))
                    refine Plan.tree_write rfl (fun K hK => ?_)
                    refine step_append_any _ (by rfl) _ _ _ (by rfl) W.heap.size 34 i0 _ 7 56 Tryd.underlying32 hi hz0 hz1 hz2 rfl (by omega) _ (0) ([]) (by rfl) kO0 W.heap.size (some ⟨bx, ox, none⟩) at1 at1 (rowE (A.take at1)) (by rfl) (by have := reads_ents (hTk.below kB0); rw [HTL.out] at this; exact this) (rowE_one _) (by unfold maxLen; omega) (by omega) kB0.size ?_
                    intro v4 w4 hown4 hgr4 _
                    have kB4 : Below W.heap.size W w4 := kB0.trans (below_own kO0 kB0.size hgr4)
                    have kR4 : Reads w4 w4.heap.size 7 (some ⟨W.heap.size + 1, 0, none⟩) 1 e.cells := kR6.grown_off (by simp) hgr4 (by simp [Value.ownBlock])
                    (refine hK.out _ _ (kB4) ?_; clear hK K; try simp only [Act.put, List.setIfInBounds_toArray, List.set_cons_zero, List.set_cons_succ])
                    (repeat (first | (refine Plan.tree_read (v := ?_) rfl rfl ?_ ?_; rotate_left; (focus ((intro wS hSw; have hkS := (bcell hSw).1; try (have hkT := fun (b o : Nat) (h : b < w.heap.size) => hkS b o (by first | omega | (simp; omega) | (simp; done))); go_simp); try with_reducible rfl)); simp only [Act.put, List.setIfInBounds_toArray, List.set_cons_zero, List.set_cons_succ]) | (refine Plan.tree_skip rfl rfl ?_; simp only [Act.put, List.setIfInBounds_toArray, List.set_cons_zero, List.set_cons_succ])))
                    refine Plan.tree_write rfl (fun K hK => ?_)
                    refine step_append_any _ (by rfl) _ _ _ (by rfl) W.heap.size 34 i0 _ 7 56 Tryd.underlying32 hi hz0 hz1 hz2 rfl (by omega) v4 (0 + at1) ([] ++ rowE (A.take at1)) (by rfl) hown4 w4.heap.size (some ⟨W.heap.size + 1, 0, none⟩) 1 1 e.cells (by rfl) kR4 (cells_one e) (by unfold maxLen; omega) (by omega) kB4.size ?_
                    intro v7 w7 hown7 hgr7 _
                    have kB7 : Below W.heap.size W w7 := kB4.trans (below_own hown4 kB4.size hgr7)
                    (refine hK.out _ _ (kB7) ?_; clear hK K; try simp only [Act.put, List.setIfInBounds_toArray, List.set_cons_zero, List.set_cons_succ])
                    (repeat (first | (refine Plan.tree_read (v := ?_) rfl rfl ?_ ?_; rotate_left; (focus ((intro wS hSw; have hkS := (bcell hSw).1; try (have hkT := fun (b o : Nat) (h : b < w.heap.size) => hkS b o (by first | omega | (simp; omega) | (simp; done))); go_simp); try with_reducible rfl)); simp only [Act.put, List.setIfInBounds_toArray, List.set_cons_zero, List.set_cons_succ]) | (refine Plan.tree_skip rfl rfl ?_; simp only [Act.put, List.setIfInBounds_toArray, List.set_cons_zero, List.set_cons_succ])))
                    refine Plan.tree_write rfl (fun K hK => ?_)
                    refine step_append_any _ (by rfl) _ _ _ (by rfl) W.heap.size 34 i0 _ 7 56 Tryd.underlying32 hi hz0 hz1 hz2 rfl (by omega) v7 (0 + at1 + 1) ([] ++ rowE (A.take at1) ++ e.cells) (by rfl) hown7 W.heap.size Cr 0 cr (rowE (A.drop at1)) (by rfl) (by have := reads_ents (hCr.below kB7); rw [HDL.out] at this; rw [HA0.out] at this; exact this) (rowE_one _) (by unfold maxLen; omega) (by omega) kB7.size ?_
                    intro v9 w9 hown9 hgr9 _
                    have kB9 : Below W.heap.size W w9 := kB7.trans (below_own hown7 kB7.size hgr9)
                    clear kB0 kO0 kB4 hown4 hgr4 kR6 kR4 kB7 hown7 hgr7 hgr9
                    (refine hK.out _ _ (kB9) ?_; clear hK K; try simp only [Act.put, List.setIfInBounds_toArray, List.set_cons_zero, List.set_cons_succ])
                    (repeat (first | (refine Plan.tree_read (v := ?_) rfl rfl ?_ ?_; rotate_left; (focus ((intro wS hSw; have hkS := (bcell hSw).1; try (have hkT := fun (b o : Nat) (h : b < w.heap.size) => hkS b o (by first | omega | (simp; omega) | (simp; done))); go_simp); try with_reducible rfl)); simp only [Act.put, List.setIfInBounds_toArray, List.set_cons_zero, List.set_cons_succ]) | (refine Plan.tree_skip rfl rfl ?_; simp only [Act.put, List.setIfInBounds_toArray, List.set_cons_zero, List.set_cons_succ])))
                    refine Plan.tree_done ?_
                    rw [List.nil_append, ← rowE_snoc, ← rowE_append] at hown9
                    have hlenF : (0 + at1 + 1 + 0) = (A.take at1 ++ [e] ++ A.drop at1).length := by simp; omega
                    rw [hlenF] at hown9
                    obtain ⟨D9, c9, he9, hD9, hF9⟩ := ents_of_owns hown9
                    have hcap9 := owns_cap hown9 he9
                    subst he9
                    have HE9 := Lib.hid hD9
                    have hbF : Below w.heap.size w w9 := hBW.trans (kB9.mono hzW)
                    clear hown9 hD9 kB9 hF9 hlenF
                    go_wp2_with fail
                    go_roundw
                    case rel =>
                      have hsh9 : (A.take at1 ++ [e] ++ A.drop at1 = [] ∧ D9 = none ∧ c9 = 0) ∨ ∃ bq oq, D9 = some ⟨bq, oq, none⟩ := Or.inr (by obtain ⟨b, o, hq, _⟩ := HE9.out (by simp; omega); exact ⟨b, o, hq⟩)
                      refine ⟨k + 1, D9, c9, A.take at1 ++ [e] ++ A.drop at1, by omega, by go_num, rfl, ?_, hcap9, HE9.out, hbF, hbF.size, hsh9⟩
                      show _ = _
                      rw [hstep.out k e HX.out, if_pos HP.out, ← hA.out, HM.out, List.append_assoc]
                      rfl
                    case measure => simp [intOf]; omega
                · (try go_simp)
                  have kB0 : Below W.heap.size W (W.alloc (.cells e.cells.toArray 34)).drew := ((Below.refl _ _).alloc (Nat.le_refl _) _).drew
                  (refine hK.out _ _ (kB0) ?_; clear hK K; try simp only [Act.put, List.setIfInBounds_toArray, List.set_cons_zero, List.set_cons_succ])
                  (repeat (first | (refine Plan.tree_read (v := ?_) rfl rfl ?_ ?_; rotate_left; (focus ((intro wS hSw; have hkS := (bcell hSw).1; try (have hkT := fun (b o : Nat) (h : b < w.heap.size) => hkS b o (by first | omega | (simp; omega) | (simp; done))); go_simp); try with_reducible rfl)); simp only [Act.put, List.setIfInBounds_toArray, List.set_cons_zero, List.set_cons_succ]) | (refine Plan.tree_skip rfl rfl ?_; simp only [Act.put, List.setIfInBounds_toArray, List.set_cons_zero, List.set_cons_succ])))
                  (refine Plan.tree_write rfl (fun K hK => ?_); try go_simp)
                  have kB1 := kB0
                  clear kB0
                  have kB0 : Below W.heap.size W ((W.alloc (.cells e.cells.toArray 34)).alloc (.cells #[] 34)).drew := (((Below.refl _ _).alloc (Nat.le_refl _) _).alloc (by simp) _).drew
                  have kO0 : (((W.alloc (.cells e.cells.toArray 34)).alloc (.cells #[] 34)).drew).ownsRow W.heap.size 34 7 (.slice (some ⟨W.heap.size + 1, 0, none⟩) 0 0) 0 [] := by
                    have h := (World.ownsRow_made (size := 7) (base := W.heap.size) (e := 34) (W.alloc (.cells e.cells.toArray 34)) #[] 0 (by simp) (by unfold maxLen; omega) (by simp)).drew
                    rw [World.size_alloc] at h
                    exact h
                  have kR6 : Reads (((W.alloc (.cells e.cells.toArray 34)).alloc (.cells #[] 34)).drew) (W.heap.size + 1) 7 (some ⟨W.heap.size, 0, none⟩) 1 e.cells := ⟨rfl, fun _ => ⟨_, rfl, Nat.lt_succ_self _, fun j u hj => by
                    have := cells_at (w := W) rfl 34 e.cells j u hj
                    rw [← this]
                    exact World.cell?_alloc_lt (W.alloc (.cells e.cells.toArray 34)) _ _ (by rw [block_of_add]; simp)⟩⟩
                  (refine hK.out _ _ (kB0) ?_; clear hK K; try simp only [Act.put, List.setIfInBounds_toArray, List.set_cons_zero, List.set_cons_succ])
                  (repeat (first | (refine Plan.tree_read (v := ?_) rfl rfl ?_ ?_; rotate_left; (focus ((intro wS hSw; have hkS := (bcell hSw).1; try (have hkT := fun (b o : Nat) (h : b < w.heap.size) => hkS b o (by first | omega | (simp; omega) | (simp; done))); go_simp); try with_reducible rfl)); simp only [Act.put, List.setIfInBounds_toArray, List.set_cons_zero, List.set_cons_succ]) | (refine Plan.tree_skip rfl rfl ?_; simp only [Act.put, List.setIfInBounds_toArray, List.set_cons_zero, List.set_cons_succ])))
                  refine Plan.tree_write rfl (fun K hK => ?_)
                  refine step_append_any _ (by rfl) _ _ _ (by rfl) W.heap.size 34 i0 _ 7 56 Tryd.underlying32 hi hz0 hz1 hz2 rfl (by omega) _ (0) ([]) (by rfl) kO0 W.heap.size (some ⟨bx, ox, none⟩) at1 at1 (rowE (A.take at1)) (by rfl) (by have := reads_ents (hTk.below kB0); rw [HTL.out] at this; exact this) (rowE_one _) (by unfold maxLen; omega) (by omega) kB0.size ?_
                  intro v4 w4 hown4 hgr4 _
                  have kB4 : Below W.heap.size W w4 := kB0.trans (below_own kO0 kB0.size hgr4)
                  have kR4 : Reads w4 w4.heap.size 7 (some ⟨W.heap.size, 0, none⟩) 1 e.cells := kR6.grown_off (by simp) hgr4 (by simp [Value.ownBlock])
                  (refine hK.out _ _ (kB4) ?_; clear hK K; try simp only [Act.put, List.setIfInBounds_toArray, List.set_cons_zero, List.set_cons_succ])
                  (repeat (first | (refine Plan.tree_read (v := ?_) rfl rfl ?_ ?_; rotate_left; (focus ((intro wS hSw; have hkS := (bcell hSw).1; try (have hkT := fun (b o : Nat) (h : b < w.heap.size) => hkS b o (by first | omega | (simp; omega) | (simp; done))); go_simp); try with_reducible rfl)); simp only [Act.put, List.setIfInBounds_toArray, List.set_cons_zero, List.set_cons_succ]) | (refine Plan.tree_skip rfl rfl ?_; simp only [Act.put, List.setIfInBounds_toArray, List.set_cons_zero, List.set_cons_succ])))
                  refine Plan.tree_write rfl (fun K hK => ?_)
                  refine step_append_any _ (by rfl) _ _ _ (by rfl) W.heap.size 34 i0 _ 7 56 Tryd.underlying32 hi hz0 hz1 hz2 rfl (by omega) v4 (0 + at1) ([] ++ rowE (A.take at1)) (by rfl) hown4 w4.heap.size (some ⟨W.heap.size, 0, none⟩) 1 1 e.cells (by rfl) kR4 (cells_one e) (by unfold maxLen; omega) (by omega) kB4.size ?_
                  intro v7 w7 hown7 hgr7 _
                  have kB7 : Below W.heap.size W w7 := kB4.trans (below_own hown4 kB4.size hgr7)
                  (refine hK.out _ _ (kB7) ?_; clear hK K; try simp only [Act.put, List.setIfInBounds_toArray, List.set_cons_zero, List.set_cons_succ])
                  (repeat (first | (refine Plan.tree_read (v := ?_) rfl rfl ?_ ?_; rotate_left; (focus ((intro wS hSw; have hkS := (bcell hSw).1; try (have hkT := fun (b o : Nat) (h : b < w.heap.size) => hkS b o (by first | omega | (simp; omega) | (simp; done))); go_simp); try with_reducible rfl)); simp only [Act.put, List.setIfInBounds_toArray, List.set_cons_zero, List.set_cons_succ]) | (refine Plan.tree_skip rfl rfl ?_; simp only [Act.put, List.setIfInBounds_toArray, List.set_cons_zero, List.set_cons_succ])))
                  refine Plan.tree_write rfl (fun K hK => ?_)
                  refine step_append_any _ (by rfl) _ _ _ (by rfl) W.heap.size 34 i0 _ 7 56 Tryd.underlying32 hi hz0 hz1 hz2 rfl (by omega) v7 (0 + at1 + 1) ([] ++ rowE (A.take at1) ++ e.cells) (by rfl) hown7 W.heap.size Cr 0 cr (rowE (A.drop at1)) (by rfl) (by have := reads_ents (hCr.below kB7); rw [HDL.out] at this; rw [HA0.out] at this; exact this) (rowE_one _) (by unfold maxLen; omega) (by omega) kB7.size ?_
                  intro v9 w9 hown9 hgr9 _
                  have kB9 : Below W.heap.size W w9 := kB7.trans (below_own hown7 kB7.size hgr9)
                  clear kB0 kO0 kB4 hown4 hgr4 kR6 kR4 kB7 hown7 hgr7 hgr9
                  (refine hK.out _ _ (kB9) ?_; clear hK K; try simp only [Act.put, List.setIfInBounds_toArray, List.set_cons_zero, List.set_cons_succ])
                  (repeat (first | (refine Plan.tree_read (v := ?_) rfl rfl ?_ ?_; rotate_left; (focus ((intro wS hSw; have hkS := (bcell hSw).1; try (have hkT := fun (b o : Nat) (h : b < w.heap.size) => hkS b o (by first | omega | (simp; omega) | (simp; done))); go_simp); try with_reducible rfl)); simp only [Act.put, List.setIfInBounds_toArray, List.set_cons_zero, List.set_cons_succ]) | (refine Plan.tree_skip rfl rfl ?_; simp only [Act.put, List.setIfInBounds_toArray, List.set_cons_zero, List.set_cons_succ])))
                  refine Plan.tree_done ?_
                  rw [List.nil_append, ← rowE_snoc, ← rowE_append] at hown9
                  have hlenF : (0 + at1 + 1 + 0) = (A.take at1 ++ [e] ++ A.drop at1).length := by simp; omega
                  rw [hlenF] at hown9
                  obtain ⟨D9, c9, he9, hD9, hF9⟩ := ents_of_owns hown9
                  have hcap9 := owns_cap hown9 he9
                  subst he9
                  have HE9 := Lib.hid hD9
                  have hbF : Below w.heap.size w w9 := hBW.trans (kB9.mono hzW)
                  clear hown9 hD9 kB9 hF9 hlenF
                  go_wp2_with fail
                  go_roundw
                  case rel =>
                    have hsh9 : (A.take at1 ++ [e] ++ A.drop at1 = [] ∧ D9 = none ∧ c9 = 0) ∨ ∃ bq oq, D9 = some ⟨bq, oq, none⟩ := Or.inr (by obtain ⟨b, o, hq, _⟩ := HE9.out (by simp; omega); exact ⟨b, o, hq⟩)
                    refine ⟨k + 1, D9, c9, A.take at1 ++ [e] ++ A.drop at1, by omega, by go_num, rfl, ?_, hcap9, HE9.out, hbF, hbF.size, hsh9⟩
                    show _ = _
                    rw [hstep.out k e HX.out, if_pos HP.out, ← hA.out, HM.out, List.append_assoc]
                    rfl
                  case measure => simp [intOf]; omega
    · have hke : k = l.length := by omega
      subst hke
      have HE : Hid (linesR l owner fr un known = A) := by show _ = _; rw [hL.out, hA.out]
      go_wp2_with fail
      go_ret
      rw [HE.out]
      exact ⟨D, dc, rfl, hcap, hD, hBw⟩
end Go.Proofs.YtminphldifncaaaDoor
