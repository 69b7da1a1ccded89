/- Joined of: PlanB W5 V1 V3 V6 MakeRow DY0 DY. -/
import Derived.Laws.MakeOwn
import Derived.Test.YtkbceeobnbbfbaaDoorG06
import Derived.Test.YtkbceeobnbbfbaaDoorG05
/- A region that draws its order, by a plan: nothing that stood at the region's start turns (but by the last operation, in the first form); the second form's plan is a tree: where two operations that write may come up, both ways are walked. -/
set_option linter.unusedSimpArgs false
set_option linter.unusedVariables false
namespace Go.Proofs.YtkbceeobnbbfbaaDoor.Plan
open Go Go.RowKit
section
variable {P : Program} {ops : Array Oper} {Q : Exit → Act → World → Prop} {md : Region.Mode} {S : World → Prop}
theorem wp_region_below {id : Nat} {l : List Oper} {a : Act} {w : World} (last : Nat) (plan : List (Nat × Bool)) (hm : P.follows .mixedOrders = true) (hB : (Region.noSelect l.toArray && decide (plan.length = l.length) && planB .any l.toArray last plan (Array.replicate l.length false)) = true)
    (h : wpPlan P l.toArray (NoPanic Q) (Below w.heap.size w) plan a w.drew) : (Code.region id l.toArray true).wp P Q a w :=
  wp_region_plan (Below w.heap.size w) last plan hm hB (Below.refl _ _).drew h
/-- One step more. -/
theorem below_go {a w w1 : World} (h : Below a.heap.size a w) (hb : Below w.heap.size w w1) : Below a.heap.size a w1 := h.trans (hb.mono h.size)
theorem below_drew_go {a w1 : World} (hb : Below a.drew.heap.size a.drew w1) : Below a.heap.size a w1 := below_go (Below.refl _ _).drew hb

inductive Tree where
  | done
  | rd (i : Nat) (t : Tree)
  | wr (i : Nat) (t : Tree)
  | two (i : Nat) (t : Tree) (j : Nat) (u : Tree)
  | three (i : Nat) (t : Tree) (j : Nat) (u : Tree) (k : Nat) (v : Tree)
def wpTree (P : Program) (ops : Array Oper) (Q : Exit → Act → World → Prop) (S : World → Prop) : Tree → Act → World → Prop
  | .done, a, w => Q .normal a w
  | .rd i t, a, w => ∃ o v, ops[i]? = some o ∧ YieldsIf P ops S o v a ∧ wpTree P ops Q S t (a.put o.dst v) w
  | .wr i t, a, w => wpOp P ops Q i (fun a' w' => S w' ∧ wpTree P ops Q S t a' w') a w
  | .two i t j u, a, w => wpOp P ops Q i (fun a' w' => S w' ∧ wpTree P ops Q S t a' w') a w ∧ wpOp P ops Q j (fun a' w' => S w' ∧ wpTree P ops Q S u a' w') a w
  | .three i t j u k v, a, w => wpOp P ops Q i (fun a' w' => S w' ∧ wpTree P ops Q S t a' w') a w ∧ wpOp P ops Q j (fun a' w' => S w' ∧ wpTree P ops Q S u a' w') a w ∧ wpOp P ops Q k (fun a' w' => S w' ∧ wpTree P ops Q S v a' w') a w
def treeB (md : Region.Mode) (ops : Array Oper) : Nat → Tree → Array Bool → Bool
  | 0, .done, listed => (Region.ready md ops listed).isEmpty
  | f + 1, .rd i t, listed => (Region.ready md ops listed).contains i && Region.free md ops listed i && treeB md ops f t (listed.setIfInBounds i true)
  | f + 1, .wr i t, listed => decide (Region.ready md ops listed = [i]) && treeB md ops f t (listed.setIfInBounds i true)
  | f + 1, .two i t j u, listed => decide (Region.ready md ops listed = [i, j]) && treeB md ops f t (listed.setIfInBounds i true) && treeB md ops f u (listed.setIfInBounds j true)
  | f + 1, .three i t j u k v, listed => decide (Region.ready md ops listed = [i, j, k]) && treeB md ops f t (listed.setIfInBounds i true) && treeB md ops f u (listed.setIfInBounds j true) && treeB md ops f v (listed.setIfInBounds k true)
  | _, _, _ => false
theorem tree_H (hsel : Region.noSelect ops = true) (hQ : ∀ c a d v w, Q (.panic c) (Act.put a d v) w → Q (.panic c) a w) : ∀ (f : Nat) (t : Tree) (listed : Array Bool) (a : Act) (w : World), treeB md ops f t listed = true → S w → wpTree P ops Q S t a w →
    wpAnyH P md ops Q S f listed a w
  | 0, .done, listed, a, w, hB, _, h => ⟨by simpa [treeB] using hB, h⟩
  | f + 1, .rd i t, listed, a, w, hB, hS, h => by
    simp only [treeB, Bool.and_eq_true] at hB
    obtain ⟨⟨h1, h2⟩, h5⟩ := hB
    obtain ⟨o, v, ho, hy, hr⟩ := h
    exact wpAnyH_take ho hsel h2 h1 (fun c a w => hQ c a _ _ w) hy hS (tree_H hsel hQ f t _ _ _ h5 hS hr)
  | f + 1, .wr i t, listed, a, w, hB, hS, h => by
    simp only [treeB, Bool.and_eq_true, decide_eq_true_eq] at hB
    obtain ⟨h1, h3⟩ := hB
    refine wpAnyH_all h1 (by simp) fun j hj => ?_
    obtain rfl : j = i := by simpa using hj
    exact wpOp_mono (fun a' w' h' => ⟨h'.1, tree_H hsel hQ f t _ a' w' h3 h'.1 h'.2⟩) h
  | f + 1, .two i t j u, listed, a, w, hB, hS, h => by
    simp only [treeB, Bool.and_eq_true, decide_eq_true_eq] at hB
    obtain ⟨⟨h1, h2⟩, h3⟩ := hB
    refine wpAnyH_all h1 (by simp) fun k hk => ?_
    rcases (by simpa using hk : k = i ∨ k = j) with rfl | rfl
    · exact wpOp_mono (fun a' w' h' => ⟨h'.1, tree_H hsel hQ f t _ a' w' h2 h'.1 h'.2⟩) h.1
    · exact wpOp_mono (fun a' w' h' => ⟨h'.1, tree_H hsel hQ f u _ a' w' h3 h'.1 h'.2⟩) h.2
  | f + 1, .three i t j u k v, listed, a, w, hB, hS, h => by
    simp only [treeB, Bool.and_eq_true, decide_eq_true_eq] at hB
    obtain ⟨⟨⟨h1, h2⟩, h3⟩, h4⟩ := hB
    refine wpAnyH_all h1 (by simp) fun m hm => ?_
    rcases (by simpa using hm : m = i ∨ m = j ∨ m = k) with rfl | rfl | rfl
    · exact wpOp_mono (fun a' w' h' => ⟨h'.1, tree_H hsel hQ f t _ a' w' h2 h'.1 h'.2⟩) h.1
    · exact wpOp_mono (fun a' w' h' => ⟨h'.1, tree_H hsel hQ f u _ a' w' h3 h'.1 h'.2⟩) h.2.1
    · exact wpOp_mono (fun a' w' h' => ⟨h'.1, tree_H hsel hQ f v _ a' w' h4 h'.1 h'.2⟩) h.2.2
  | 0, .three _ _ _ _ _ _, _, _, _, hB, _, _ => by simp [treeB] at hB
  | 0, .rd _ _, _, _, _, hB, _, _ => by simp [treeB] at hB
  | 0, .wr _ _, _, _, _, hB, _, _ => by simp [treeB] at hB
  | 0, .two _ _ _ _, _, _, _, hB, _, _ => by simp [treeB] at hB
  | f + 1, .done, _, _, _, hB, _, _ => by simp [treeB] at hB
theorem wp_region_tree {id : Nat} {l : List Oper} {a : Act} {w : World} (t : Tree) (hm : P.follows .mixedOrders = true) (hB : (Region.noSelect l.toArray && treeB .any l.toArray l.length t (Array.replicate l.length false)) = true)
    (h : wpTree P l.toArray (NoPanic Q) (Below w.heap.size w) t a w.drew) : (Code.region id l.toArray true).wp P Q a w := by
  simp only [Bool.and_eq_true] at hB
  obtain ⟨h1, h3⟩ := hB
  refine wp_region_noPanic (wp_region_any hm (wpAny_of_held (S := Below w.heap.size w) _ _ _ _ ?_))
  rw [show l.toArray.size = l.length by simp]
  exact tree_H h1 (fun _ _ _ _ _ h => h) _ t _ a _ h3 (Below.refl _ _).drew h
theorem grown_drew (w : World) (row : Option Nat) : w.grownBy w.drew row := ⟨rfl, rfl, rfl, Nat.le_refl _, fun _ _ _ => rfl⟩
/-- The same where a row of the call's own may be written. -/
theorem wp_region_grown {id : Nat} {l : List Oper} {a : Act} {w : World} (row : Option Nat) (t : Tree) (hm : P.follows .mixedOrders = true) (hB : (Region.noSelect l.toArray && treeB .any l.toArray l.length t (Array.replicate l.length false)) = true)
    (h : wpTree P l.toArray (NoPanic Q) (fun w' => w.grownBy w' row) t a w.drew) : (Code.region id l.toArray true).wp P Q a w := by
  simp only [Bool.and_eq_true] at hB
  obtain ⟨h1, h3⟩ := hB
  refine wp_region_noPanic (wp_region_any hm (wpAny_of_held (S := fun w' => w.grownBy w' row) _ _ _ _ ?_))
  rw [show l.toArray.size = l.length by simp]
  exact tree_H h1 (fun _ _ _ _ _ h => h) _ t _ a _ h3 (grown_drew _ _) h
theorem grown_cells {w w' : World} {row : Option Nat} (h : w.grownBy w' row) : ∀ b o, b < w.heap.size → some b ≠ row → w'.cell? ⟨b, o, none⟩ = w.cell? ⟨b, o, none⟩ :=
  fun b o hb hn => World.cell?_of_block (a := ⟨b, o, none⟩) (h.block b hb hn)
theorem grown_go {w w1 w2 : World} {row : Option Nat} (h : w.grownBy w1 row) (g : w1.grownBy w2 row) : w.grownBy w2 row :=
  ⟨g.os.trans h.os, g.tape.trans h.tape, g.output.trans h.output, Nat.le_trans h.size g.size, fun i hi hn => (g.block i (Nat.lt_of_lt_of_le hi h.size) hn).trans (h.block i hi hn)⟩
theorem grown_alloc {w w1 : World} {row : Option Nat} (h : w.grownBy w1 row) (o : Obj) : w.grownBy (w1.alloc o) row :=
  ⟨h.os, h.tape, h.output, Nat.le_trans h.size (by simp), fun i hi hn => (Below.heap_alloc w1 o i (Nat.lt_of_lt_of_le hi h.size)).trans (h.block i hi hn)⟩
theorem tree_done {l : List Oper} {a : Act} {w : World} (h : Q .normal a w) : wpTree P l.toArray (NoPanic Q) S .done a w := h
theorem tree_read {l : List Oper} {i : Nat} {o : Oper} {v : Value} {t : Tree} {a : Act} {w : World} (ho : l[i]? = some o) (hw : Region.wanted o (yielded l.toArray a.tmps) = true) (hy : ∀ w, S w → (execOp a.eval o).run P w = .ok (.value v) w)
    (h : wpTree P l.toArray Q S t (a.put o.dst v) w) : wpTree P l.toArray Q S (.rd i t) a w := ⟨o, v, list_op ho, .inl ⟨hw, hy⟩, h⟩
theorem tree_skip {l : List Oper} {i : Nat} {o : Oper} {t : Tree} {a : Act} {w : World} (ho : l[i]? = some o) (hw : Region.wanted o (yielded l.toArray a.tmps) = false)
    (h : wpTree P l.toArray Q S t (a.put o.dst undef) w) : wpTree P l.toArray Q S (.rd i t) a w := ⟨o, undef, list_op ho, .inr ⟨hw, rfl⟩, h⟩
theorem tree_write {l : List Oper} {i : Nat} {o : Oper} {t : Tree} {a : Act} {w : World} (ho : l[i]? = some o)
    (h : ∀ K : Act → World → Prop, Shut (∀ a' w', S w' → wpTree P l.toArray Q S t a' w' → K a' w') → if Region.wanted o (yielded l.toArray a.tmps) = true then Oper.wp P o a w K Q else K (a.put o.dst undef) w) : wpTree P l.toArray Q S (.wr i t) a w :=
  wpOp_step (list_op ho) fun K hK => h K fun a' w' h1 h2 => hK a' w' ⟨h1, h2⟩
theorem tree_two {l : List Oper} {i j : Nat} {oi oj : Oper} {t u : Tree} {a : Act} {w : World} (hi : l[i]? = some oi) (hj : l[j]? = some oj)
    (h1 : ∀ K : Act → World → Prop, Shut (∀ a' w', S w' → wpTree P l.toArray Q S t a' w' → K a' w') → if Region.wanted oi (yielded l.toArray a.tmps) = true then Oper.wp P oi a w K Q else K (a.put oi.dst undef) w)
    (h2 : ∀ K : Act → World → Prop, Shut (∀ a' w', S w' → wpTree P l.toArray Q S u a' w' → K a' w') → if Region.wanted oj (yielded l.toArray a.tmps) = true then Oper.wp P oj a w K Q else K (a.put oj.dst undef) w) : wpTree P l.toArray Q S (.two i t j u) a w :=
  ⟨wpOp_step (list_op hi) fun K hK => h1 K fun a' w' h1 h2 => hK a' w' ⟨h1, h2⟩, wpOp_step (list_op hj) fun K hK => h2 K fun a' w' h1 h2 => hK a' w' ⟨h1, h2⟩⟩
theorem tree_three {l : List Oper} {i j k : Nat} {oi oj ok : Oper} {t u v : Tree} {a : Act} {w : World} (hi : l[i]? = some oi) (hj : l[j]? = some oj) (hk : l[k]? = some ok)
    (h1 : ∀ K : Act → World → Prop, Shut (∀ a' w', S w' → wpTree P l.toArray Q S t a' w' → K a' w') → if Region.wanted oi (yielded l.toArray a.tmps) = true then Oper.wp P oi a w K Q else K (a.put oi.dst undef) w)
    (h2 : ∀ K : Act → World → Prop, Shut (∀ a' w', S w' → wpTree P l.toArray Q S u a' w' → K a' w') → if Region.wanted oj (yielded l.toArray a.tmps) = true then Oper.wp P oj a w K Q else K (a.put oj.dst undef) w)
    (h3 : ∀ K : Act → World → Prop, Shut (∀ a' w', S w' → wpTree P l.toArray Q S v a' w' → K a' w') → if Region.wanted ok (yielded l.toArray a.tmps) = true then Oper.wp P ok a w K Q else K (a.put ok.dst undef) w) : wpTree P l.toArray Q S (.three i t j u k v) a w :=
  ⟨wpOp_step (list_op hi) fun K hK => h1 K fun a' w' h1 h2 => hK a' w' ⟨h1, h2⟩, wpOp_step (list_op hj) fun K hK => h2 K fun a' w' h1 h2 => hK a' w' ⟨h1, h2⟩, wpOp_step (list_op hk) fun K hK => h3 K fun a' w' h1 h2 => hK a' w' ⟨h1, h2⟩⟩
end
end Go.Proofs.YtkbceeobnbbfbaaDoor.Plan

/- The walk of call.short. -/
namespace Go.Proofs.YtkbceeobnbbfbaaDoor
open Go.RowKit CM
attribute [local go_sem] alloc_drewN setCell_drewN shape_drewN

theorem rtN_of {R : List Rt} {k : Nat} {r : Rt} (h : R[k]? = some r) : rtN R k = r := by unfold rtN; rw [List.getD_eq_getElem?_getD, h]; rfl
set_option maxHeartbeats 2000000 in
theorem short_any (X : Bas) (pl : Pl) (R : List Rt) (G : List (Int × Int)) (C : Option Addr) (cr : Nat) (D : Option Addr) (cg : Nat) (k : Nat) (w : World) {B : Nat} (hR : RightsAt w B C R) (hG : PairsAt w B D G) (hB : B ≤ w.heap.size)
    (hl : pl.length ≤ 1000000) (hr : R.length ≤ 1000000) (hg : G.length ≤ 1000000) (hk : k < R.length) :
    Calls Tryd.prog 27 #[.agg #[.string X.nm, .slice X.a1 X.l1 X.c1, .int .i64 X.cl, .slice X.P pl.length X.cP, .slice X.a4 X.l4 X.c4, .slice X.a5 X.l5 X.c5, .slice X.a6 X.l6 X.c6, .slice X.a7 X.l7 X.c7, .slice X.a8 X.l8 X.c8, .slice X.a9 X.l9 X.c9, .int .i64 X.er], .slice C R.length cr, .slice D G.length cg, .int .i64 k] w (BoolIs (shortF pl R G k) w) := by
  obtain ⟨r, hx⟩ : ∃ r, R[k]? = some r := ⟨_, List.getElem?_eq_getElem hk⟩
  obtain ⟨b, off, rfl, hb, r0, r1, r2, r3, r4, _⟩ := hR.at_ hx
  have hrt := rtN_of hx
  have hbw : b < w.heap.size := by omega
  have hbw2 : b ≤ w.heap.size := by omega
  clear hx
  by_cases h1 : k < G.length
  · obtain ⟨x, hy⟩ : ∃ x, G[k]? = some x := ⟨_, List.getElem?_eq_getElem h1⟩
    obtain ⟨b2, off2, rfl, hb2, c0, c1⟩ := hG.at_ hy
    have hcw : b2 < w.heap.size := by omega
    have hcw2 : b2 ≤ w.heap.size := by omega
    have hgt := gotG_of hy
    clear hy
    have hF : shortF pl R G k = (decide (x.2 < r.rate) && isPl pl r.place) := by
      unfold shortF rateR; rw [decide_eq_true h1, hgt, hrt]; rfl
    by_cases h2 : x.2 < r.rate
    · have hF : Hid (shortF pl R G k = isPl pl r.place) := Lib.hid (by rw [hF, decide_eq_true h2]; rfl)
      have d2 : decide (x.2 < r.rate) = true := decide_eq_true h2
      have K1 := Lib.hid (fun wx => cisPlace_any X pl r.place wx (by omega))
      clear hrt hgt
      go_enter Tryd.func27, Tryd.ntmps27
      go_wp2_with fail
      refine Plan.wp_region_below 26 [(0, true), (1, true), (2, true), (3, true), (4, true), (5, true), (6, true), (7, true), (8, true), (9, true), (10, true), (11, true), (12, true), (13, true), (14, true), (15, true), (16, true), (17, true), (18, true), (19, true), (20, true), (21, true), (22, true), (23, true), (24, false), (25, true), (26, false)] (by kernel_rfl) (by kernel_rfl) ?_
      (repeat (first | (refine Plan.plan_read (v := ?_) rfl rfl ?_ ?_; rotate_left; (focus ((intro wS hSw; have hkS := (bcell hSw).1; try (have hkT := fun (b o : Nat) (h : b < w.heap.size) => hkS b o (by first | omega | (simp; omega) | (simp; done))); go_simp); try with_reducible rfl)); simp only [Act.put, List.setIfInBounds_toArray, List.set_cons_zero, List.set_cons_succ]) | (refine Plan.plan_skip rfl rfl ?_; simp only [Act.put, List.setIfInBounds_toArray, List.set_cons_zero, List.set_cons_succ])))
      refine Plan.plan_write rfl (fun K hK => ?_)
      go_simp
      go_at_call 30
      (with_reducible refine (K1.out _).mono ?_)
      rintro e1 w1 ⟨rfl, hb1⟩
      have kB := Plan.below_drew_go hb1
      go_simp
      refine hK.out _ _ kB ?_
      clear hK K
      try simp only [Act.put, List.setIfInBounds_toArray, List.set_cons_zero, List.set_cons_succ]
      (repeat (first | (refine Plan.plan_read (v := ?_) rfl rfl ?_ ?_; rotate_left; (focus ((intro wS hSw; have hkS := (bcell hSw).1; try (have hkT := fun (b o : Nat) (h : b < w.heap.size) => hkS b o (by first | omega | (simp; omega) | (simp; done))); go_simp); try with_reducible rfl)); simp only [Act.put, List.setIfInBounds_toArray, List.set_cons_zero, List.set_cons_succ]) | (refine Plan.plan_skip rfl rfl ?_; simp only [Act.put, List.setIfInBounds_toArray, List.set_cons_zero, List.set_cons_succ])))
      refine Plan.plan_last rfl (fun K hK => ?_)
      go_simp
      refine hK.out _ _ ?_
      clear hK K
      try simp only [Act.put, List.setIfInBounds_toArray, List.set_cons_zero, List.set_cons_succ]
      go_wp2_with fail
      go_ret
      exact ⟨ret_bool hF.out.symm, ((Below.refl _ _).alloc (Nat.le_refl _) _).trans (kB.mono (by simp))⟩
    · have hF : Hid (shortF pl R G k = false) := Lib.hid (by rw [hF, decide_eq_false h2]; rfl)
      have d2 : decide (x.2 < r.rate) = false := decide_eq_false h2
      have d3 : r.rate ≤ x.2 := by omega
      have d4 : decide (r.rate ≤ x.2) = true := decide_eq_true d3
      clear hrt hgt
      go_enter Tryd.func27, Tryd.ntmps27
      go_wp2_with fail
      refine Plan.wp_region_below 26 [(0, true), (1, true), (2, true), (3, true), (4, true), (5, true), (6, true), (7, true), (8, true), (9, true), (10, true), (11, true), (12, true), (13, true), (14, true), (15, true), (16, true), (17, true), (18, true), (19, true), (20, true), (21, true), (22, true), (23, true), (24, true), (25, true), (26, false)] (by kernel_rfl) (by kernel_rfl) ?_
      (repeat (first | (refine Plan.plan_read (v := ?_) rfl rfl ?_ ?_; rotate_left; (focus ((intro wS hSw; have hkS := (bcell hSw).1; try (have hkT := fun (b o : Nat) (h : b < w.heap.size) => hkS b o (by first | omega | (simp; omega) | (simp; done))); go_simp); try with_reducible rfl)); simp only [Act.put, List.setIfInBounds_toArray, List.set_cons_zero, List.set_cons_succ]) | (refine Plan.plan_skip rfl rfl ?_; simp only [Act.put, List.setIfInBounds_toArray, List.set_cons_zero, List.set_cons_succ])))
      refine Plan.plan_last rfl (fun K hK => ?_)
      go_simp
      refine hK.out _ _ ?_
      clear hK K
      try simp only [Act.put, List.setIfInBounds_toArray, List.set_cons_zero, List.set_cons_succ]
      go_wp2_with fail
      go_ret
      exact ⟨ret_bool hF.out.symm, ((Below.refl _ _).alloc (Nat.le_refl _) _).drew⟩
  · have hF : Hid (shortF pl R G k = false) := Lib.hid (by unfold shortF; rw [decide_eq_false h1]; rfl)
    have d1 : decide (k < G.length) = false := decide_eq_false h1
    clear hrt
    go_enter Tryd.func27, Tryd.ntmps27
    go_wp2_with fail
    refine Plan.wp_region_below 26 [(0, true), (1, true), (2, true), (3, true), (4, true), (5, true), (6, true), (7, true), (8, true), (9, true), (10, true), (11, true), (12, true), (13, true), (14, true), (15, true), (16, true), (17, true), (18, true), (19, true), (20, true), (21, true), (22, true), (23, true), (24, true), (25, true), (26, false)] (by kernel_rfl) (by kernel_rfl) ?_
    (repeat (first | (refine Plan.plan_read (v := ?_) rfl rfl ?_ ?_; rotate_left; (focus ((intro wS hSw; have hkS := (bcell hSw).1; try (have hkT := fun (b o : Nat) (h : b < w.heap.size) => hkS b o (by first | omega | (simp; omega) | (simp; done))); go_simp); try with_reducible rfl)); simp only [Act.put, List.setIfInBounds_toArray, List.set_cons_zero, List.set_cons_succ]) | (refine Plan.plan_skip rfl rfl ?_; simp only [Act.put, List.setIfInBounds_toArray, List.set_cons_zero, List.set_cons_succ])))
    refine Plan.plan_last rfl (fun K hK => ?_)
    go_simp
    refine hK.out _ _ ?_
    clear hK K
    try simp only [Act.put, List.setIfInBounds_toArray, List.set_cons_zero, List.set_cons_succ]
    go_wp2_with fail
    go_ret
    exact ⟨ret_bool hF.out.symm, ((Below.refl _ _).alloc (Nat.le_refl _) _).drew⟩
end Go.Proofs.YtkbceeobnbbfbaaDoor

/- Walks of small functions that look through lists: membership, equality; the bounds. -/
namespace Go.Proofs.YtkbceeobnbbfbaaDoor
open Go.RowKit CM
attribute [local go_sem] alloc_drewN setCell_drewN shape_drewN

def BoolEq (b : Bool) (w : World) (e : Ending) (w' : World) : Prop := e = .returned (.bool b) ∧ w = w'
def hasI (l : List Int) (n : Int) : Bool := decide (n ∈ l)
theorem hasI_no {l : List Int} {n : Int} (h : n ∉ l.take l.length) : hasI l n = false := by
  rw [List.take_length] at h; exact decide_eq_false h
theorem not_take_succ {α : Type} {l : List α} {n x : α} {k : Nat} (h : n ∉ l.take k) (hx : l[k]? = some x) (hne : x ≠ n) : n ∉ l.take (k + 1) := by
  rw [List.take_add_one, hx]
  intro hm
  rcases List.mem_append.1 hm with g | g
  · exact h g
  · simp at g; exact hne g.symm
/-- The index of a number, or -1. -/
def IdxIs (l : List Int) (n : Int) (w : World) (e : Ending) (w' : World) : Prop := ∃ i : Int, e = .returned (.int .i64 i) ∧ w = w' ∧ (decide (0 ≤ i) = hasI l n)
theorem index_any (l : List Int) (C : Option Addr) (cc : Nat) (n : Int) (w : World) {B : Nat} (hC : IntsAt w B C l) (hl : l.length ≤ 9223372036854775807) :
    Calls Tryd.prog 43 #[.slice C l.length cc, .int .i64 n] w (IdxIs l n w) := by
  go_enter Tryd.func43, Tryd.ntmps43
  go_wp2_with fail
  go_loop [8] (fun i => ∃ k : Nat, k ≤ l.length ∧ i = .int .i64 k ∧ Hid (n ∉ l.take k)) (fun i => l.length - (intOf i).toNat)
  case atStart => exact ⟨0, Nat.zero_le _, rfl, by show _ ∉ _; simp⟩
  case round =>
    obtain ⟨k, hk, rfl, hn⟩ := hrel
    by_cases hlt : k < l.length
    · obtain ⟨x, hx⟩ : ∃ x, l[k]? = some x := ⟨_, List.getElem?_eq_getElem hlt⟩
      obtain ⟨b, off, rfl, hb, c0⟩ := hC.at_ hx
      by_cases g : x = n
      · have hF : Hid (hasI l n = true) := decide_eq_true (g ▸ List.mem_of_getElem? hx)
        have g1 : (n == x) = true := by simpa using g.symm
        clear hx g
        go_wp2_with fail
        go_ret
        exact ⟨k, rfl, rfl, by rw [hF.out]; simp⟩
      · have hN : Hid (n ∉ l.take (k + 1)) := not_take_succ hn.out hx g
        have g1 : (n == x) = false := by simpa using fun e => g e.symm
        clear hx
        go_wp2_with fail
        go_round
        case rel => exact ⟨k + 1, by omega, by go_num, hN⟩
        case measure => simp [intOf]; omega
    · have hke : k = l.length := by omega
      subst hke
      have hF : Hid (hasI l n = false) := hasI_no hn.out
      go_wp2_with fail
      go_ret
      exact ⟨-1, rfl, rfl, by rw [hF.out]; rfl⟩
theorem contains_any (l : List Int) (C : Option Addr) (cc : Nat) (n : Int) (w : World) {B : Nat} (hC : IntsAt w B C l) (hl : l.length ≤ 9223372036854775807) :
    Calls Tryd.prog 31 #[.slice C l.length cc, .int .i64 n] w (BoolEq (hasI l n) w) := by
  have K1 := Lib.hid (fun wx (hq : IntsAt wx B C l) => index_any l C cc n wx hq hl)
  go_enter Tryd.func31, Tryd.ntmps31
  go_wp2_with (first | (go_at_call 43; ((with_reducible refine (K1.out _ hC).mono ?_); rintro e1 w1 ⟨i, rfl, rfl, hi⟩; have hi := Lib.hid hi)) | fail)
  go_ret
  exact ⟨rfl, rfl⟩
end Go.Proofs.YtkbceeobnbbfbaaDoor

/- The walk of the reference's Reach. -/
namespace Go.Proofs.YtkbceeobnbbfbaaDoor
open Go.RowKit CM
attribute [local go_sem] alloc_drewN setCell_drewN shape_drewN

theorem hasI_nats {l : List Nat} {n : Nat} : hasI (natsI l) (n : Int) = decide (n ∈ l) := by
  unfold hasI natsI
  congr 1
  simp only [List.mem_map, eq_iff_iff]
  constructor
  · rintro ⟨a, h1, h2⟩
    have : a = n := by omega
    exact this ▸ h1
  · exact fun h => ⟨n, h, rfl⟩
theorem natsI_len (l : List Nat) : (natsI l).length = l.length := by simp [natsI]
end Go.Proofs.YtkbceeobnbbfbaaDoor

/- Walks of the reference's There and Left. -/
namespace Go.Proofs.YtkbceeobnbbfbaaDoor
open Go.RowKit CM
attribute [local go_sem] alloc_drewN setCell_drewN shape_drewN

theorem thereN_yes {pl : Pl} {S : List Int} {k q : Nat} (h : 0 < supF S k) (hq : q ∈ reach pl k) : thereN pl (supF S) (k + 1) q = satA (thereN pl (supF S) k q) (supF S k) := by rw [thereN_succ, if_pos ⟨h, hq⟩]
theorem thereN_no {pl : Pl} {S : List Int} {k q : Nat} (h : ¬ (0 < supF S k ∧ q ∈ reach pl k)) : thereN pl (supF S) (k + 1) q = thereN pl (supF S) k q := by rw [thereN_succ, if_neg h]
end Go.Proofs.YtkbceeobnbbfbaaDoor

/- make of an empty row with room, whatever the element's size: the new cells under a name. -/
namespace Go.Proofs.YtkbceeobnbbfbaaDoor
open Go.RowKit

theorem make_row0 {P : Program} (t e : TypeId) (i : TypeInfo) (z : Value) (size : Nat) (ht : P.underlying t = some (.slice e)) (hi : P.info? e = some i) (hz : i.zero = some z) (hsize : i.size = size) (n : Nat) (hb : i.bytes * n ≤ 281474976710656) (hn : n ≤ maxLen) :
    ∃ M : Array Value, M.size = n * size ∧ ∀ wx : World, (Instr.makeSlice t (.int .i64 0) (.int .i64 (n : Int))).run P wx = .ok (.slice (some ⟨wx.heap.size, 0, none⟩) 0 n) (wx.alloc (.cells M e)) := by
  subst hsize
  refine ⟨madeCells z.cells (n * i.size), size_madeCells _ _, fun wx => ?_⟩
  have hb' : (i.bytes : Int) * (n : Int) ≤ 281474976710656 := by
    have h : ((i.bytes * n : Nat) : Int) ≤ 281474976710656 := by omega
    rwa [Int.natCast_mul] at h
  have hr := run_make (P := P) wx t e i z ht hi hz .i64 .i64 0 n (Int.le_refl _) (by omega) hb' (by unfold maxLen at hn; omega)
  simp only [Int.toNat_zero, Int.toNat_natCast] at hr
  exact hr
end Go.Proofs.YtkbceeobnbbfbaaDoor

/- Plain facts for the walk of Day. -/
namespace Go.Proofs.YtkbceeobnbbfbaaDoor
open Go.RowKit CM

/-- What is left at a place ahead of the n-th right, and what that right gets. -/
def dayN (pl : Pl) (R : List Rt) (S : List Int) (n q : Nat) : Int := dayL (thereS pl (supF S) S.length) (rcR pl R) (rateR R) n q
def litN (pl : Pl) (R : List Rt) (S : List Int) (n : Nat) : Int := dayG (thereS pl (supF S) S.length) (rcR pl R) (rateR R) n
def dayLs (pl : Pl) (R : List Rt) (S : List Int) : List (Int × Int) := dayList pl R (supF S) S.length
section
variable {pl : Pl} {R : List Rt} {S : List Int}
theorem dayN_succ (n q : Nat) : dayN pl R S (n + 1) q = dayN pl R S n q - if q ∈ rcR pl R n then litN pl R S n else 0 := rfl
theorem thereS_in (hS : ∀ x ∈ S, In64 x) (q : Nat) : 0 ≤ thereS pl (supF S) S.length q ∧ thereS pl (supF S) S.length q ≤ 9223372036854775807 := thereN_in (fun p => supF_in hS p) _ q
theorem dayN_in (hS : ∀ x ∈ S, In64 x) (n q : Nat) : 0 ≤ dayN pl R S n q ∧ dayN pl R S n q ≤ 9223372036854775807 := by
  have h0 := fun q => (thereS_in (pl := pl) hS q).1
  refine ⟨dayL_nn h0 n q, ?_⟩
  have := dayL_mono (there := thereS pl (supF S) S.length) (rc := rcR pl R) (rate := rateR R) 0 n q
  rw [Nat.zero_add] at this
  have h1 : dayL (thereS pl (supF S) S.length) (rcR pl R) (rateR R) 0 q = thereS pl (supF S) S.length q := rfl
  have := (thereS_in (pl := pl) hS q).2
  unfold dayN; omega
theorem litN_le (hS : ∀ x ∈ S, In64 x) {n q : Nat} (hq : q ∈ rcR pl R n) : 0 ≤ litN pl R S n ∧ litN pl R S n ≤ dayN pl R S n q :=
  ⟨dayG_nn n, dayG_left (fun q => (thereS_in hS q).1) hq⟩
theorem litN_nil {n : Nat} (h : rcR pl R n = []) : litN pl R S n = 0 := by unfold litN dayG lit; rw [if_pos (by simp [h])]
theorem leastI_map (r : Int) (l : List Nat) (f : Nat → Int) : leastI r (l.map f) = leastL r l f := by
  unfold leastI leastL
  rw [List.foldl_map]
  congr 1
  funext a q
  split <;> omega
theorem litN_max {n : Nat} (h : rcR pl R n ≠ []) : litN pl R S n = max 0 (leastI (rateR R n) ((rcR pl R n).map (dayN pl R S n))) := by
  rw [leastI_map]; unfold litN dayG lit; rw [if_neg (by simpa using h)]; rfl
theorem dayLs_take (n : Nat) (hn : n < R.length) : (dayLs pl R S).take (n + 1) = (dayLs pl R S).take n ++ [((rtN R n).id, litN pl R S n)] := by
  rw [List.take_add_one]
  congr 1
  unfold dayLs dayList
  simp [hn]; rfl
theorem dayLs_len : (dayLs pl R S).length = R.length := dayList_len
theorem rcR_len (n : Nat) : (rcR pl R n).length ≤ pl.length := nodup_len _ _ (reach_nodup _ _) (fun _ h => reach_lt h)
end
def dayV (pl : Pl) (R : List Rt) (S : List Int) (k : Nat) : Nat → Value := fun q => .int .i64 (dayN pl R S k q)
/-- The first places have given what the right gets. -/
def dayM (pl : Pl) (R : List Rt) (S : List Int) (k : Nat) (l : List Nat) : Nat → Value := fun q => .int .i64 (if q ∈ l then dayN pl R S k q - litN pl R S k else dayN pl R S k q)
theorem dayM_nil (pl : Pl) (R : List Rt) (S : List Int) (k : Nat) : dayM pl R S k [] = dayV pl R S k := by
  funext q; unfold dayM dayV; rw [if_neg (by simp)]
theorem dayM_all (pl : Pl) (R : List Rt) (S : List Int) (k : Nat) : dayM pl R S k (rcR pl R k) = dayV pl R S (k + 1) := by
  funext q; unfold dayM dayV; rw [dayN_succ]
  by_cases h : q ∈ rcR pl R k
  · rw [if_pos h, if_pos h]
  · rw [if_neg h, if_neg h, Int.sub_zero]
theorem dayM_snoc (pl : Pl) (R : List Rt) (S : List Int) (k : Nat) (l : List Nat) (q j : Nat) : updF (dayM pl R S k l) q (.int .i64 (dayN pl R S k q - litN pl R S k)) j = dayM pl R S k (l ++ [q]) j := by
  unfold updF dayM
  by_cases h : j = q
  · subst h; simp
  · rw [if_neg h]; simp [h]
theorem dayM_new {pl : Pl} {R : List Rt} {S : List Int} {k : Nat} {l : List Nat} {q : Nat} (h : q ∉ l) : dayM pl R S k l q = .int .i64 (dayN pl R S k q) := by unfold dayM; rw [if_neg h]
theorem list_of {w w' : World} {l : List Nat} {C : Option Addr} (hne : l ≠ []) (hI : IntsAt w' w'.heap.size C (natsI l)) (hF : ∀ a, C = some a → w.heap.size ≤ a.block) :
    ∃ b off, C = some ⟨b, off, none⟩ ∧ w.heap.size ≤ b ∧ b < w'.heap.size ∧ ListAt w' b off l := by
  have hne : 0 < l.length := by
    rcases Nat.eq_zero_or_pos l.length with h | h
    · exact absurd (List.eq_nil_of_length_eq_zero h) hne
    · exact h
  obtain ⟨b, off, e, hb, hc⟩ := hI (by simpa [natsI] using hne)
  refine ⟨b, off, e, hF _ e, hb, fun j q hj => ?_⟩
  have hlt := (List.getElem?_eq_some_iff.1 hj).1
  rw [hc j (by simpa [natsI] using hlt)]
  simp [intF, natsI, List.getD_eq_getElem?_getD, hj]
theorem ListAt.below {w w' : World} {B b off : Nat} {l : List Nat} (h : ListAt w b off l) (hb : Below B w w') (hlt : b < B) : ListAt w' b off l := fun j q hj => (hb.cell (p := ⟨b, off + j, none⟩) hlt).trans (h j q hj)
theorem Tryd.infoGrant : (Tryd.prog.info? 68).map (fun i => (i.zero, i.size, i.bytes)) = some (some (.agg #[.int .i64 0, .int .i64 0]), 2, 16) := by kernel_rfl
theorem cell_two_at {w : World} {b : Nat} (hb : w.heap.size = b) (e : Nat) (x y : Value) : ∀ j u, [x, y][j]? = some u → (w.alloc (.cells #[x, y] e)).cell? ((⟨b, 0, none⟩ : Addr).add j) = some u := by
  subst hb
  intro j u hj
  rw [Addr.add_lit, Nat.zero_add, World.cell?_alloc_at _ _ _ _ rfl]
  simpa using hj
end Go.Proofs.YtkbceeobnbbfbaaDoor

/- The walk of Day. -/
namespace Go.Proofs.YtkbceeobnbbfbaaDoor
open Go.RowKit CM
attribute [local go_sem] alloc_drewN setCell_drewN shape_drewN

/-- What Day leaves. -/
def DayIs (pl : Pl) (R : List Rt) (S : List Int) (w : World) (e : Ending) (w' : World) : Prop := ∃ v, e = .returned (.tuple #[v, .slice (some ⟨w.heap.size + 1 + 1, 0, none⟩) pl.length pl.length]) ∧ w'.ownsRow (w.heap.size + 1 + 1 + 1) 68 2 v R.length (rowP (dayLs pl R S)) ∧
  Arr w' (w.heap.size + 1 + 1) pl.length (dayV pl R S R.length) ∧ Below w.heap.size w w' ∧ w.heap.size + 1 + 1 + 1 ≤ w'.heap.size
set_option maxRecDepth 100000 in
set_option maxHeartbeats 8000000 in
theorem day_any (X : Bas) (pl : Pl) (R : List Rt) (S : List Int) (C : Option Addr) (cr : Nat) (D : Option Addr) (cs : Nat) (w : World) {B : Nat} (hP : PlacesAt w B X.P pl) (hR : RightsAt w B C R) (hD : IntsAt w B D S) (hB : B ≤ w.heap.size) (hl : pl.length ≤ 1000000) (hr : R.length ≤ 1000000) (hs : S.length ≤ 9223372036854775807) (hS : ∀ x ∈ S, In64 x) :
    Calls Tryd.prog 7 #[.agg #[.string X.nm, .slice X.a1 X.l1 X.c1, .int .i64 X.cl, .slice X.P pl.length X.cP, .slice X.a4 X.l4 X.c4, .slice X.a5 X.l5 X.c5, .slice X.a6 X.l6 X.c6, .slice X.a7 X.l7 X.c7, .slice X.a8 X.l8 X.c8, .slice X.a9 X.l9 X.c9, .int .i64 X.er], .slice C R.length cr, .slice D S.length cs] w (DayIs pl R S w) := by
  obtain ⟨i0, hi, hz0, hz1, hz2⟩ := info_parts Tryd.infoInt
  obtain ⟨g0, gi, gz0, gz1, gz2⟩ := info_parts Tryd.infoGrant
  obtain ⟨M, hMs, hmk⟩ := make_row0 (P := Tryd.prog) 41 68 g0 _ 2 Tryd.underlying41 gi gz0 gz1 R.length (by rw [gz2]; omega) (by unfold maxLen; omega)
  have K0 := Lib.hid (fun (wx : World) (h : Below w.heap.size w wx) => begin_any X pl S D cs wx (B := B) (hP.below (h.mono hB)) (hD.below (h.mono hB)) (by have := h.size; omega) hl hs hS)
  have K1 := Lib.hid (fun (p : Int) (wx : World) (hp : PlacesAt wx B X.P pl) (hb : B ≤ wx.heap.size) => reach_any X pl p wx hp hb hl)
  have K2 := Lib.hid (fun (n : Int) (C : Option Addr) (cc : Nat) (l : List Int) (wx : World) (hq : IntsAt wx wx.heap.size C l) (hl : l.length ≤ 9223372036854775807) => least_any n C cc l wx hq hl)
  have HP := Lib.hid hP
  have HS := Lib.hid hS
  clear hP hS
  have HMs := Lib.hid hMs
  clear hMs
  go_enter Tryd.func7, Tryd.ntmps7
  go_wp2_with (first | (go_at_call 22; ((with_reducible refine (K0.out _ ((Below.refl _ _).alloc (Nat.le_refl _) _)).mono ?_); rintro e0 w1 ⟨rfl, hA1, hb0, hzb⟩)) | fail)
  rw [World.size_alloc] at hA1 hzb
  clear hmk K0
  go_loopw [9, 27] (fun gv i wr => ∃ k : Nat, k ≤ R.length ∧ i = .int .i64 k ∧ Arr wr (w.heap.size + 1 + 1) pl.length (dayV pl R S k) ∧ wr.ownsRow (w.heap.size + 1 + 1 + 1) 68 2 gv k (rowP ((dayLs pl R S).take k)) ∧ BoxB wr w.heap.size X pl ∧ Below w.heap.size w wr ∧ w.heap.size + 1 + 1 + 1 ≤ wr.heap.size) (fun _ i _ => R.length - (intOf i).toNat)
  case atStart =>
    refine ⟨0, Nat.zero_le _, rfl, ?_, ?_, ?_, ?_, ?_⟩
    · refine Arr.alloc (hA1.congr (fun j _ => ?_)) (by omega) _
      rfl
    · exact World.ownsRow_made w1 M R.length (by omega) (by unfold maxLen; omega) HMs.out
    · exact ((BoxB.new w X pl).below (B := w.heap.size + 1) (hb0.mono (by simp)) (by omega)).below (B := w.heap.size + 1) ((Below.refl _ _).alloc (by omega) _) (by omega)
    · exact (((Below.refl _ _).alloc (Nat.le_refl _) _).trans (hb0.mono (by simp))).alloc (by omega) _
    · simp; omega
  case round =>
    obtain ⟨k, hk, rfl, hA, hrow, hX, hBw, hz⟩ := hrel
    obtain ⟨x0, x1, x2, x3, x4, x5, x6, x7, x8, x9, x10⟩ := hX.cells
    by_cases hlt : k < R.length
    case neg =>
      have hke : k = R.length := by omega
      subst hke
      have hrow2 := Lib.hid hrow
      have hT : Hid ((dayLs pl R S).take R.length = dayLs pl R S) := by show _ = _; rw [← dayLs_len (pl := pl) (R := R) (S := S), List.take_length]
      clear hrow
      go_wp2_with fail
      go_ret2
      exact ⟨_, rfl, by have := hrow2.out; rw [hT.out] at this; exact this, hA, hBw, hz⟩
    obtain ⟨r, hx⟩ : ∃ r, R[k]? = some r := ⟨_, List.getElem?_eq_getElem hlt⟩
    obtain ⟨b, off, rfl, hb, r0, r1, r2, r3, r4, r5, r6, r7, r8⟩ := (RightsAt.below hR (hBw.mono hB)).at_ hx
    have hrt := Lib.hid (rtN_of hx)
    have hrc : Hid (rcR pl R k = reach pl r.place) := by show _ = _; unfold rcR; rw [hrt.out]
    have hrr : Hid (rateR R k = r.rate) := by show _ = _; unfold rateR; rw [hrt.out]
    have hbw : b < wr.heap.size := by omega
    have hzw : w.heap.size < wr.heap.size := by omega
    clear hx
    by_cases hne : reach pl r.place = []
    · have hlen : Hid ((reach pl r.place).length = 0) := by show _ = _; rw [hne]; rfl
      obtain ⟨L, hL⟩ : ∃ L : Int, Hid (L = litN pl R S k) := ⟨_, rfl⟩
      have hL0 : L = 0 := by rw [hL.out]; exact litN_nil (by rw [hrc.out]; exact hne)
      have hAk : Hid (dayV pl R S k = dayV pl R S (k + 1)) := by
        show _ = _; rw [← dayM_all, hrc.out, hne, dayM_nil]
      clear hne
      have K1b : Hid (∀ (wx : World), PlacesAt wx B X.P pl → B ≤ wx.heap.size → Calls Tryd.prog 23 #[.agg #[.string X.nm, .slice X.a1 X.l1 X.c1, .int .i64 X.cl, .slice X.P pl.length X.cP, .slice X.a4 X.l4 X.c4, .slice X.a5 X.l5 X.c5, .slice X.a6 X.l6 X.c6, .slice X.a7 X.l7 X.c7, .slice X.a8 X.l8 X.c8, .slice X.a9 X.l9 X.c9, .int .i64 X.er], .int .i64 r.place] wx fun e w' => ∃ E ee, e = .returned (.slice E 0 ee) ∧ Below wx.heap.size wx w') := fun wx h1 h2 => (K1.out r.place wx h1 h2).mono fun e w' ⟨E, ee, he, _, _, hb⟩ => ⟨E, ee, by rw [he, hlen.out], hb⟩
      have hL := hL
      subst hL0
      have kA := Lib.hid hA
      have kX := Lib.hid hX
      clear hA hX K2
      go_wp2_with (first | (go_at_call 23; ((with_reducible refine (K1b.out _ (HP.out.below ((hBw.alloc (by omega) _).mono hB)) (by simp; omega)).mono ?_); rintro e1 w3 ⟨E, ee, rfl, hb1⟩; have kc := (bcell hb1).1)) | fail)
      have hb9 : Below wr.heap.size wr w3 := ((Below.refl _ _).alloc (Nat.le_refl _) _).trans (hb1.mono (by simp))
      have q0 : w3.cell? ⟨wr.heap.size, 0, none⟩ = some (.int .i64 r.id) := by go_simp
      have hA3 : Arr w3 (w.heap.size + 1 + 1) pl.length (dayV pl R S (k + 1)) := by rw [← hAk.out]; exact kA.out.below hb9 (by omega)
      have hX3 := kX.out.below hb9 (by omega)
      have hrow3 := row_below hrow hb9
      have hBw3 := hBw.trans (hb9.mono (by omega))
      have hz3 := hb9.size
      have hz4 : wr.heap.size < w3.heap.size := by have := hb1.size; simp at this; omega
      obtain ⟨wo, rfl⟩ : ∃ wo, wo = wr := ⟨_, rfl⟩
      clear hb9 hrow kA kX K1b hb1 kc hBw x0 x1 x2 x3 x4 x5 x6 x7 x8 x9 x10
      go_loopw [62] (fun i wy => i = .int .i64 0 ∧ wy = w3) (fun _ _ => 0)
      case atStart => exact ⟨rfl, rfl⟩
      case round =>
        obtain ⟨rfl, rfl⟩ := hrel

        go_wp2_with (first | (at_builtin; refine wpList_append_own _ rfl _ _ 41 rfl (w.heap.size + 1 + 1 + 1) 68 g0 _ 2 16 Tryd.underlying41 gi gz0 gz1 gz2 rfl (by decide) _ k _ rfl (hrow3.alloc _) ⟨wr.heap.size, 0, none⟩ 1 1 [.int .i64 r.id, .int .i64 0] rfl rfl (cell_two_at (by simp) _ _ _) (by simp [Value.oneCell']) (by unfold maxLen; omega) (by omega) (by simp; omega) ?_; intro v' wz hown' hgrow _) | fail)
        obtain ⟨g', cap', rfl, hg1, hg2⟩ := hown'.form (by omega)
        have hbz := below_app hrow3 (by omega) hgrow
        have hrowz : wz.ownsRow (w.heap.size + 1 + 1 + 1) 68 2 (.slice (some ⟨g', 0, none⟩) (k + 1) cap') (k + 1) (rowP ((dayLs pl R S).take (k + 1))) := by
          rw [dayLs_take k hlt, rowP_snoc, hrt.out, ← hL.out]; exact hown'
        have hAz := hA3.below hbz (by omega)
        have hXz := hX3.below hbz (by omega)
        have hBz := hBw3.trans (hbz.mono (by omega))
        have hzz : w.heap.size + 1 + 1 + 1 ≤ wz.heap.size := by have := hbz.size; omega
        clear hown' hgrow hbz hrow3 hA3 hX3 hBw3
        go_roundw
        case rel => exact ⟨k + 1, by omega, by go_num, hAz, hrowz, hXz, hBz, hzz⟩
        case measure => simp [intOf]; omega

    · have hn0 : 0 < (reach pl r.place).length := List.length_pos_iff.2 hne
      obtain ⟨n, hn⟩ : ∃ n : Nat, (reach pl r.place).length = n := ⟨_, rfl⟩
      obtain ⟨A, hAd⟩ : ∃ A : List Int, Hid (A = (reach pl r.place).map (dayN pl R S k)) := ⟨_, rfl⟩
      obtain ⟨L, hL⟩ : ∃ L : Int, Hid (L = litN pl R S k) := ⟨_, rfl⟩
      obtain ⟨m0, hm0⟩ : ∃ m0 : Int, Hid (leastI r.rate A = m0) := ⟨_, rfl⟩
      have hLm : L = max 0 m0 := by rw [hL.out, litN_max (by rw [hrc.out]; exact hne), ← hm0.out, hAd.out, hrr.out, hrc.out]
      have e1 : max 0 m0 = L := hLm.symm
      have e2 : (if m0 < 0 then 0 else m0) = L := by rw [hLm]; split <;> omega
      have e3 : (if (0 : Int) < m0 then m0 else 0) = L := by rw [hLm]; split <;> omega
      have hLn := Lib.hid hLm
      have hne := Lib.hid hne
      have hnp := Lib.hid hn
      have hAl : Hid (A.length = n) := by show _ = _; rw [hAd.out, List.length_map]; exact hn
      have hnl : n ≤ 1000000 := by have := rcR_len (pl := pl) (R := R) k; rw [hrc.out] at this; omega
      rw [hn] at hn0
      have hn1 : (0 : Int) < (n : Int) := by omega
      obtain ⟨M2, hM2, hmk2⟩ := make_row0 (P := Tryd.prog) 29 3 i0 _ 1 Tryd.underlying29 hi hz0 hz1 n (by rw [hz2]; omega) (by unfold maxLen; omega)
      have HM2 := Lib.hid hM2
      have K1b : Hid (∀ (wx : World), PlacesAt wx B X.P pl → B ≤ wx.heap.size → Calls Tryd.prog 23 #[.agg #[.string X.nm, .slice X.a1 X.l1 X.c1, .int .i64 X.cl, .slice X.P pl.length X.cP, .slice X.a4 X.l4 X.c4, .slice X.a5 X.l5 X.c5, .slice X.a6 X.l6 X.c6, .slice X.a7 X.l7 X.c7, .slice X.a8 X.l8 X.c8, .slice X.a9 X.l9 X.c9, .int .i64 X.er], .int .i64 r.place] wx fun e w' => ∃ E ee, e = .returned (.slice E n ee) ∧ IntsAt w' w'.heap.size E (natsI (reach pl r.place)) ∧ (∀ a, E = some a → wx.heap.size ≤ a.block) ∧ Below wx.heap.size wx w') := fun wx h1 h2 => (K1.out r.place wx h1 h2).mono fun e w' ⟨E, ee, he, h3, h4, hb⟩ => ⟨E, ee, by rw [he, hnp.out], h3, h4, hb⟩
      have K2b : Hid (∀ (C : Option Addr) (cc : Nat) (wx : World), IntsAt wx wx.heap.size C A → Calls Tryd.prog 24 #[.int .i64 r.rate, .slice C A.length cc] wx fun e w' => e = .returned (.int .i64 m0) ∧ wx = w') := fun C cc wx h => (K2.out r.rate C cc A wx h (by rw [hAl.out]; omega)).mono fun e w' ⟨he, hw⟩ => ⟨by rw [he, hm0.out], hw⟩
      have kA := Lib.hid hA
      have kX := Lib.hid hX
      clear hA hX K2 K1 hLm hn hM2
      go_wp2_with (first | (go_at_call 23; ((with_reducible refine (K1b.out _ (HP.out.below ((hBw.alloc (by omega) _).mono hB)) (by simp; omega)).mono ?_); rintro e1 w3 ⟨E, ee, rfl, hI, hFr, hb1⟩; have kc := (bcell hb1).1)) | fail)
      clear hmk2
      obtain ⟨b2, off2, rfl, hbr, hbr2, hLi⟩ := list_of hne.out hI hFr
      have hbr3 : wr.heap.size + 1 ≤ b2 := by simpa using hbr
      have hb9 : Below wr.heap.size wr w3 := ((Below.refl _ _).alloc (Nat.le_refl _) _).trans (hb1.mono (by simp))
      have hz9 : wr.heap.size + 1 ≤ w3.heap.size := by have := hb1.size; simpa using this
      have q0 : w3.cell? ⟨wr.heap.size, 0, none⟩ = some (.int .i64 r.id) := by go_simp
      have q4 : w3.cell? ⟨wr.heap.size, 4, none⟩ = some (.int .i64 r.rate) := by go_simp
      have hA3 := kA.out.below hb9 (by omega)
      have hX3 := kX.out.below hb9 (by omega)
      have hrow3 := row_below hrow hb9
      have hBw3 := hBw.trans (hb9.mono (by omega))
      clear hbr hI hFr hb1 kc hb9 hrow kA kX
      obtain ⟨wo, rfl⟩ : ∃ wo, wo = wr := ⟨_, rfl⟩
      go_loopw [14, 43] (fun tv i wy => ∃ j : Nat, j ≤ n ∧ i = .int .i64 j ∧ wy.ownsRow w3.heap.size 3 1 tv j ((A.take j).map (Value.int .i64)) ∧ Below w3.heap.size w3 wy ∧ w3.heap.size + 1 ≤ wy.heap.size) (fun _ i _ => n - (intOf i).toNat)
      case atStart =>
        refine ⟨0, Nat.zero_le _, rfl, ?_, (Below.refl _ _).alloc (Nat.le_refl _) _, by simp⟩
        exact World.ownsRow_made w3 M2 n (by omega) (by unfold maxLen; omega) HM2.out
      case round =>
        obtain ⟨j, hj, rfl, hth, hBy, hzy⟩ := hrel
        by_cases hjl : j < n
        · obtain ⟨q, hq⟩ : ∃ q, (reach pl r.place)[j]? = some q := ⟨_, List.getElem?_eq_getElem (by rw [hnp.out]; exact hjl)⟩
          have hqn : q < pl.length := reach_lt (List.mem_of_getElem? hq)
          obtain ⟨V, hV⟩ : ∃ V, V = dayN pl R S k q := ⟨_, rfl⟩
          have hAj : A[j]? = some V := by rw [hAd.out, List.getElem?_map, hq, hV]; rfl
          have hsn : Hid (A.take (j + 1) = A.take j ++ [V]) := by show _ = _; rw [List.take_add_one, hAj]; rfl
          have c1 := (hBy.cell (p := ⟨b2, off2 + j, none⟩) (by show b2 < _; omega)).trans (hLi j q hq)
          obtain ⟨a0, f0⟩ := (hA3.below hBy (by omega)) q hqn
          unfold dayV at a0
          rw [← hV] at a0
          clear hq hAj hV
          go_wp2_with (first | (at_builtin; refine wpList_append_own _ rfl _ _ 29 rfl w3.heap.size 3 i0 _ 1 8 Tryd.underlying29 hi hz0 hz1 hz2 rfl (by decide) _ j _ rfl (hth.alloc _) ⟨wr.heap.size, 0, none⟩ 1 1 [.int .i64 V] rfl rfl (cell_one_at (by simp) _ _) (by simp [Value.oneCell']) (by unfold maxLen; omega) (by omega) (by simp; omega) ?_; intro v' wz hown' hgrow _) | fail)
          have hbz := below_app hth (by omega) hgrow
          obtain ⟨g', cap', rfl, hg1, hg2⟩ := hown'.form (by omega)
          have hzz : w3.heap.size + 1 ≤ wz.heap.size := by have := hbz.size; omega
          have hBz := hBy.trans hbz
          clear hgrow hbz hth hBy
          go_roundw
          case rel => exact ⟨j + 1, by omega, by go_num, by rw [hsn.out, List.map_append]; exact hown', hBz, hzz⟩
          case measure => simp [intOf]; omega
        · obtain rfl : n = j := by omega
          have hth2 := hth
          rw [← hAl.out, List.take_length] at hth2
          obtain ⟨C2, cc2, he2, hI2⟩ := ints_of_owns hth2
          have hA4 := hA3.below hBy (by omega)
          have hX4 := hX3.below hBy (by omega)
          have hrow4 := row_below hrow3 hBy
          have hBw4 := hBw3.trans (hBy.mono (by omega))
          have hL4 := hLi.below hBy (by omega)
          have q40 := (hBy.cell (p := ⟨wo.heap.size, 0, none⟩) (by show wo.heap.size < _; omega)).trans q0
          have q44 := (hBy.cell (p := ⟨wo.heap.size, 4, none⟩) (by show wo.heap.size < _; omega)).trans q4
          have hz4 : w.heap.size + 1 + 1 + 1 ≤ wr.heap.size := by omega
          have hI3 := Lib.hid hI2
          have hAd2 := Lib.hid hAd
          clear hAd hI2
          subst he2
          go_wp2_with (first | (go_at_call 24; ((with_reducible refine (K2b.out _ _ _ hI3.out).mono ?_); rintro e2 w5 ⟨rfl, rfl⟩)) | fail)
          clear hth hth2 hI3 q44 q4 q0 hA3 hX3 hrow3 hBw3 hLi
          have hzo : w.heap.size + 1 + 1 + 1 ≤ wo.heap.size := by omega
          obtain ⟨wm, rfl⟩ : ∃ wm, wm = wr := ⟨_, rfl⟩
          go_loopw [62] (fun i wr => ∃ j : Nat, j ≤ n ∧ i = .int .i64 j ∧ Arr wr (w.heap.size + 1 + 1) pl.length (dayM pl R S k ((reach pl r.place).take j)) ∧ wr.ownsRow (w.heap.size + 1 + 1 + 1) 68 2 u9 k (rowP ((dayLs pl R S).take k)) ∧ BoxB wr w.heap.size X pl ∧ Below w.heap.size w wr ∧ w.heap.size + 1 + 1 + 1 ≤ wr.heap.size ∧ ListAt wr b2 off2 (reach pl r.place) ∧ wr.cell? ⟨wo.heap.size, 0, none⟩ = some (.int .i64 r.id) ∧ wo.heap.size < wr.heap.size) (fun i _ => n - (intOf i).toNat)
          case atStart =>
            refine ⟨0, Nat.zero_le _, rfl, ?_, hrow4, hX4, hBw4, hz4, hL4, q40, by omega⟩
            rw [List.take_zero, dayM_nil]; exact hA4
          case round =>
            clear hA4 hX4 hrow4 hBw4 hL4 q40 hBy
            obtain ⟨j, hj, rfl, hA5, hrow5, hX5, hBw5, hz5, hL5, q5, hzo5⟩ := hrel
            by_cases hjl : j < n
            · obtain ⟨q, hq⟩ : ∃ q, (reach pl r.place)[j]? = some q := ⟨_, List.getElem?_eq_getElem (by rw [hnp.out]; exact hjl)⟩
              have hqn : q < pl.length := reach_lt (List.mem_of_getElem? hq)
              have hqt := take_new (reach_nodup pl r.place) hq
              have c1 := hL5 j q hq
              obtain ⟨a0, f0⟩ := hA5 q hqn
              rw [dayM_new hqt] at a0
              have hV := dayN_in (pl := pl) (R := R) HS.out k q
              have hle := litN_le (pl := pl) (R := R) HS.out (n := k) (q := q) (by rw [hrc.out]; exact List.mem_of_getElem? hq)
              rw [← hL.out] at hle
              have hAn : Arr (wr.setCell ⟨w.heap.size + 1 + 1, q, none⟩ (.int .i64 (dayN pl R S k q - L))) (w.heap.size + 1 + 1) pl.length (dayM pl R S k ((reach pl r.place).take (j + 1))) := by
                rw [take_snoc hq, hL.out]
                exact (hA5.set hqn _).congr (fun i _ => dayM_snoc pl R S k _ q i)
              obtain ⟨V, hVE⟩ : ∃ V, V = dayN pl R S k q := ⟨_, rfl⟩
              rw [← hVE] at hV a0 hAn hle
              clear hqt hq hVE
              go_wp2_with fail
              go_roundw
              case rel => exact ⟨j + 1, by omega, by go_num, hAn, row_store hrow5 (by show w.heap.size + 1 + 1 < _; omega) _, hX5.below (B := w.heap.size + 1) ((Below.refl _ _).setCell (p := ⟨w.heap.size + 1 + 1, q, none⟩) (by show w.heap.size + 1 ≤ w.heap.size + 1 + 1; omega) _) (by omega), hBw5.setCell (p := ⟨w.heap.size + 1 + 1, q, none⟩) (by show w.heap.size ≤ w.heap.size + 1 + 1; omega) _, by simpa using hz5, hL5.far (p := ⟨w.heap.size + 1 + 1, q, none⟩) (by show b2 ≠ w.heap.size + 1 + 1; omega) _, (World.cell?_setCell_other _ _ _ _ (fun e => by injection e with e1 _; omega)).trans q5, by simpa using hzo5⟩
              case measure => simp [intOf]; omega
            · obtain rfl : n = j := by omega
              have hA3 : Arr wr (w.heap.size + 1 + 1) pl.length (dayV pl R S (k + 1)) := by
                rw [← dayM_all, hrc.out]
                have := hA5
                rw [← hnp.out, List.take_length] at this
                exact this
              have hrow3 := hrow5
              have hX3 := hX5
              have hBw3 := hBw5
              clear hA5 hrow5 hX5 hBw5 hL5

              go_wp2_with (first | (at_builtin; refine wpList_append_own _ rfl _ _ 41 rfl (w.heap.size + 1 + 1 + 1) 68 g0 _ 2 16 Tryd.underlying41 gi gz0 gz1 gz2 rfl (by decide) _ k _ rfl (hrow3.alloc _) ⟨wr.heap.size, 0, none⟩ 1 1 [.int .i64 r.id, .int .i64 L] rfl rfl (cell_two_at (by simp) _ _ _) (by simp [Value.oneCell']) (by unfold maxLen; omega) (by omega) (by simp; omega) ?_; intro v' wz hown' hgrow _) | fail)
              obtain ⟨g', cap', rfl, hg1, hg2⟩ := hown'.form (by omega)
              have hbz := below_app hrow3 (by omega) hgrow
              have hrowz : wz.ownsRow (w.heap.size + 1 + 1 + 1) 68 2 (.slice (some ⟨g', 0, none⟩) (k + 1) cap') (k + 1) (rowP ((dayLs pl R S).take (k + 1))) := by
                rw [dayLs_take k hlt, rowP_snoc, hrt.out, ← hL.out]; exact hown'
              have hAz := hA3.below hbz (by omega)
              have hXz := hX3.below hbz (by omega)
              have hBz := hBw3.trans (hbz.mono (by omega))
              have hzz : w.heap.size + 1 + 1 + 1 ≤ wz.heap.size := by have := hbz.size; omega
              clear hown' hgrow hbz hrow3 hA3 hX3 hBw3
              go_roundw
              case rel => exact ⟨k + 1, by omega, by go_num, hAz, hrowz, hXz, hBz, hzz⟩
              case measure => simp [intOf]; omega

end Go.Proofs.YtkbceeobnbbfbaaDoor

