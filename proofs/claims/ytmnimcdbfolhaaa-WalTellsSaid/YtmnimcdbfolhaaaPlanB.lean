/- A region that draws its order, by a plan: nothing that stood at the region's start turns (but by the last operation, in the first form); the second form's plan is a tree: where two operations that write may come up, both ways are walked. -/
import Derived.Test.YtmnimcdbfolhaaaPlan
import Derived.Test.YtmnimcdbfolhaaaMem
set_option linter.unusedSimpArgs false
set_option linter.unusedVariables false
namespace Go.Proofs.Ytmnimcdbfolhaaa.Plan
open Go Go.RowKit
section
variable {P : Program} {ops : Array Oper} {Q : Exit → Act → World → Prop} {md : Region.Mode} {S : World → Prop}
theorem wp_region_below {id : Nat} {l : List Oper} {a : Act} {w : World} (last : Nat) (plan : List (Nat × Bool)) (hm : P.follows .mixedOrders = true) (hB : (Region.noSelect l.toArray && decide (plan.length = l.length) && planB .any l.toArray last plan (Array.replicate l.length false)) = true)
    (h : wpPlan P l.toArray (NoPanic Q) (Below w.heap.size w) plan a w.drew) : (Code.region id l.toArray true).wp P Q a w :=
  wp_region_plan (Below w.heap.size w) last plan hm hB (Below.refl _ _).drew h
/-- One step more. -/
theorem below_go {a w w1 : World} (h : Below a.heap.size a w) (hb : Below w.heap.size w w1) : Below a.heap.size a w1 := h.trans (hb.mono h.size)
theorem below_drew_go {a w1 : World} (hb : Below a.drew.heap.size a.drew w1) : Below a.heap.size a w1 := below_go (Below.refl _ _).drew hb

inductive Tree where
  | done
  | rd (i : Nat) (t : Tree)
  | wr (i : Nat) (t : Tree)
  | two (i : Nat) (t : Tree) (j : Nat) (u : Tree)
  | three (i : Nat) (t : Tree) (j : Nat) (u : Tree) (k : Nat) (v : Tree)
def wpTree (P : Program) (ops : Array Oper) (Q : Exit → Act → World → Prop) (S : World → Prop) : Tree → Act → World → Prop
  | .done, a, w => Q .normal a w
  | .rd i t, a, w => ∃ o v, ops[i]? = some o ∧ YieldsIf P ops S o v a ∧ wpTree P ops Q S t (a.put o.dst v) w
  | .wr i t, a, w => wpOp P ops Q i (fun a' w' => S w' ∧ wpTree P ops Q S t a' w') a w
  | .two i t j u, a, w => wpOp P ops Q i (fun a' w' => S w' ∧ wpTree P ops Q S t a' w') a w ∧ wpOp P ops Q j (fun a' w' => S w' ∧ wpTree P ops Q S u a' w') a w
  | .three i t j u k v, a, w => wpOp P ops Q i (fun a' w' => S w' ∧ wpTree P ops Q S t a' w') a w ∧ wpOp P ops Q j (fun a' w' => S w' ∧ wpTree P ops Q S u a' w') a w ∧ wpOp P ops Q k (fun a' w' => S w' ∧ wpTree P ops Q S v a' w') a w
def treeB (md : Region.Mode) (ops : Array Oper) : Nat → Tree → Array Bool → Bool
  | 0, .done, listed => (Region.ready md ops listed).isEmpty
  | f + 1, .rd i t, listed => (Region.ready md ops listed).contains i && Region.free md ops listed i && treeB md ops f t (listed.setIfInBounds i true)
  | f + 1, .wr i t, listed => decide (Region.ready md ops listed = [i]) && treeB md ops f t (listed.setIfInBounds i true)
  | f + 1, .two i t j u, listed => decide (Region.ready md ops listed = [i, j]) && treeB md ops f t (listed.setIfInBounds i true) && treeB md ops f u (listed.setIfInBounds j true)
  | f + 1, .three i t j u k v, listed => decide (Region.ready md ops listed = [i, j, k]) && treeB md ops f t (listed.setIfInBounds i true) && treeB md ops f u (listed.setIfInBounds j true) && treeB md ops f v (listed.setIfInBounds k true)
  | _, _, _ => false
theorem tree_H (hsel : Region.noSelect ops = true) (hQ : ∀ c a d v w, Q (.panic c) (Act.put a d v) w → Q (.panic c) a w) : ∀ (f : Nat) (t : Tree) (listed : Array Bool) (a : Act) (w : World), treeB md ops f t listed = true → S w → wpTree P ops Q S t a w →
    wpAnyH P md ops Q S f listed a w
  | 0, .done, listed, a, w, hB, _, h => ⟨by simpa [treeB] using hB, h⟩
  | f + 1, .rd i t, listed, a, w, hB, hS, h => by
    simp only [treeB, Bool.and_eq_true] at hB
    obtain ⟨⟨h1, h2⟩, h5⟩ := hB
    obtain ⟨o, v, ho, hy, hr⟩ := h
    exact wpAnyH_take ho hsel h2 h1 (fun c a w => hQ c a _ _ w) hy hS (tree_H hsel hQ f t _ _ _ h5 hS hr)
  | f + 1, .wr i t, listed, a, w, hB, hS, h => by
    simp only [treeB, Bool.and_eq_true, decide_eq_true_eq] at hB
    obtain ⟨h1, h3⟩ := hB
    refine wpAnyH_all h1 (by simp) fun j hj => ?_
    obtain rfl : j = i := by simpa using hj
    exact wpOp_mono (fun a' w' h' => ⟨h'.1, tree_H hsel hQ f t _ a' w' h3 h'.1 h'.2⟩) h
  | f + 1, .two i t j u, listed, a, w, hB, hS, h => by
    simp only [treeB, Bool.and_eq_true, decide_eq_true_eq] at hB
    obtain ⟨⟨h1, h2⟩, h3⟩ := hB
    refine wpAnyH_all h1 (by simp) fun k hk => ?_
    rcases (by simpa using hk : k = i ∨ k = j) with rfl | rfl
    · exact wpOp_mono (fun a' w' h' => ⟨h'.1, tree_H hsel hQ f t _ a' w' h2 h'.1 h'.2⟩) h.1
    · exact wpOp_mono (fun a' w' h' => ⟨h'.1, tree_H hsel hQ f u _ a' w' h3 h'.1 h'.2⟩) h.2
  | f + 1, .three i t j u k v, listed, a, w, hB, hS, h => by
    simp only [treeB, Bool.and_eq_true, decide_eq_true_eq] at hB
    obtain ⟨⟨⟨h1, h2⟩, h3⟩, h4⟩ := hB
    refine wpAnyH_all h1 (by simp) fun m hm => ?_
    rcases (by simpa using hm : m = i ∨ m = j ∨ m = k) with rfl | rfl | rfl
    · exact wpOp_mono (fun a' w' h' => ⟨h'.1, tree_H hsel hQ f t _ a' w' h2 h'.1 h'.2⟩) h.1
    · exact wpOp_mono (fun a' w' h' => ⟨h'.1, tree_H hsel hQ f u _ a' w' h3 h'.1 h'.2⟩) h.2.1
    · exact wpOp_mono (fun a' w' h' => ⟨h'.1, tree_H hsel hQ f v _ a' w' h4 h'.1 h'.2⟩) h.2.2
  | 0, .three _ _ _ _ _ _, _, _, _, hB, _, _ => by simp [treeB] at hB
  | 0, .rd _ _, _, _, _, hB, _, _ => by simp [treeB] at hB
  | 0, .wr _ _, _, _, _, hB, _, _ => by simp [treeB] at hB
  | 0, .two _ _ _ _, _, _, _, hB, _, _ => by simp [treeB] at hB
  | f + 1, .done, _, _, _, hB, _, _ => by simp [treeB] at hB
theorem wp_region_tree {id : Nat} {l : List Oper} {a : Act} {w : World} (t : Tree) (hm : P.follows .mixedOrders = true) (hB : (Region.noSelect l.toArray && treeB .any l.toArray l.length t (Array.replicate l.length false)) = true)
    (h : wpTree P l.toArray (NoPanic Q) (Below w.heap.size w) t a w.drew) : (Code.region id l.toArray true).wp P Q a w := by
  simp only [Bool.and_eq_true] at hB
  obtain ⟨h1, h3⟩ := hB
  refine wp_region_noPanic (wp_region_any hm (wpAny_of_held (S := Below w.heap.size w) _ _ _ _ ?_))
  rw [show l.toArray.size = l.length by simp]
  exact tree_H h1 (fun _ _ _ _ _ h => h) _ t _ a _ h3 (Below.refl _ _).drew h
theorem grown_drew (w : World) (row : Option Nat) : w.grownBy w.drew row := ⟨rfl, rfl, rfl, Nat.le_refl _, fun _ _ _ => rfl⟩
/-- The same where a row of the call's own may be written. -/
theorem wp_region_grown {id : Nat} {l : List Oper} {a : Act} {w : World} (row : Option Nat) (t : Tree) (hm : P.follows .mixedOrders = true) (hB : (Region.noSelect l.toArray && treeB .any l.toArray l.length t (Array.replicate l.length false)) = true)
    (h : wpTree P l.toArray (NoPanic Q) (fun w' => w.grownBy w' row) t a w.drew) : (Code.region id l.toArray true).wp P Q a w := by
  simp only [Bool.and_eq_true] at hB
  obtain ⟨h1, h3⟩ := hB
  refine wp_region_noPanic (wp_region_any hm (wpAny_of_held (S := fun w' => w.grownBy w' row) _ _ _ _ ?_))
  rw [show l.toArray.size = l.length by simp]
  exact tree_H h1 (fun _ _ _ _ _ h => h) _ t _ a _ h3 (grown_drew _ _) h
theorem grown_cells {w w' : World} {row : Option Nat} (h : w.grownBy w' row) : ∀ b o, b < w.heap.size → some b ≠ row → w'.cell? ⟨b, o, none⟩ = w.cell? ⟨b, o, none⟩ :=
  fun b o hb hn => World.cell?_of_block (a := ⟨b, o, none⟩) (h.block b hb hn)
theorem grown_go {w w1 w2 : World} {row : Option Nat} (h : w.grownBy w1 row) (g : w1.grownBy w2 row) : w.grownBy w2 row :=
  ⟨g.os.trans h.os, g.tape.trans h.tape, g.output.trans h.output, Nat.le_trans h.size g.size, fun i hi hn => (g.block i (Nat.lt_of_lt_of_le hi h.size) hn).trans (h.block i hi hn)⟩
theorem grown_alloc {w w1 : World} {row : Option Nat} (h : w.grownBy w1 row) (o : Obj) : w.grownBy (w1.alloc o) row :=
  ⟨h.os, h.tape, h.output, Nat.le_trans h.size (by simp), fun i hi hn => (Below.heap_alloc w1 o i (Nat.lt_of_lt_of_le hi h.size)).trans (h.block i hi hn)⟩
theorem tree_done {l : List Oper} {a : Act} {w : World} (h : Q .normal a w) : wpTree P l.toArray (NoPanic Q) S .done a w := h
theorem tree_read {l : List Oper} {i : Nat} {o : Oper} {v : Value} {t : Tree} {a : Act} {w : World} (ho : l[i]? = some o) (hw : Region.wanted o (yielded l.toArray a.tmps) = true) (hy : ∀ w, S w → (execOp a.eval o).run P w = .ok (.value v) w)
    (h : wpTree P l.toArray Q S t (a.put o.dst v) w) : wpTree P l.toArray Q S (.rd i t) a w := ⟨o, v, list_op ho, .inl ⟨hw, hy⟩, h⟩
theorem tree_skip {l : List Oper} {i : Nat} {o : Oper} {t : Tree} {a : Act} {w : World} (ho : l[i]? = some o) (hw : Region.wanted o (yielded l.toArray a.tmps) = false)
    (h : wpTree P l.toArray Q S t (a.put o.dst undef) w) : wpTree P l.toArray Q S (.rd i t) a w := ⟨o, undef, list_op ho, .inr ⟨hw, rfl⟩, h⟩
theorem tree_write {l : List Oper} {i : Nat} {o : Oper} {t : Tree} {a : Act} {w : World} (ho : l[i]? = some o)
    (h : ∀ K : Act → World → Prop, Shut (∀ a' w', S w' → wpTree P l.toArray Q S t a' w' → K a' w') → if Region.wanted o (yielded l.toArray a.tmps) = true then Oper.wp P o a w K Q else K (a.put o.dst undef) w) : wpTree P l.toArray Q S (.wr i t) a w :=
  wpOp_step (list_op ho) fun K hK => h K fun a' w' h1 h2 => hK a' w' ⟨h1, h2⟩
theorem tree_two {l : List Oper} {i j : Nat} {oi oj : Oper} {t u : Tree} {a : Act} {w : World} (hi : l[i]? = some oi) (hj : l[j]? = some oj)
    (h1 : ∀ K : Act → World → Prop, Shut (∀ a' w', S w' → wpTree P l.toArray Q S t a' w' → K a' w') → if Region.wanted oi (yielded l.toArray a.tmps) = true then Oper.wp P oi a w K Q else K (a.put oi.dst undef) w)
    (h2 : ∀ K : Act → World → Prop, Shut (∀ a' w', S w' → wpTree P l.toArray Q S u a' w' → K a' w') → if Region.wanted oj (yielded l.toArray a.tmps) = true then Oper.wp P oj a w K Q else K (a.put oj.dst undef) w) : wpTree P l.toArray Q S (.two i t j u) a w :=
  ⟨wpOp_step (list_op hi) fun K hK => h1 K fun a' w' h1 h2 => hK a' w' ⟨h1, h2⟩, wpOp_step (list_op hj) fun K hK => h2 K fun a' w' h1 h2 => hK a' w' ⟨h1, h2⟩⟩
theorem tree_three {l : List Oper} {i j k : Nat} {oi oj ok : Oper} {t u v : Tree} {a : Act} {w : World} (hi : l[i]? = some oi) (hj : l[j]? = some oj) (hk : l[k]? = some ok)
    (h1 : ∀ K : Act → World → Prop, Shut (∀ a' w', S w' → wpTree P l.toArray Q S t a' w' → K a' w') → if Region.wanted oi (yielded l.toArray a.tmps) = true then Oper.wp P oi a w K Q else K (a.put oi.dst undef) w)
    (h2 : ∀ K : Act → World → Prop, Shut (∀ a' w', S w' → wpTree P l.toArray Q S u a' w' → K a' w') → if Region.wanted oj (yielded l.toArray a.tmps) = true then Oper.wp P oj a w K Q else K (a.put oj.dst undef) w)
    (h3 : ∀ K : Act → World → Prop, Shut (∀ a' w', S w' → wpTree P l.toArray Q S v a' w' → K a' w') → if Region.wanted ok (yielded l.toArray a.tmps) = true then Oper.wp P ok a w K Q else K (a.put ok.dst undef) w) : wpTree P l.toArray Q S (.three i t j u k v) a w :=
  ⟨wpOp_step (list_op hi) fun K hK => h1 K fun a' w' h1 h2 => hK a' w' ⟨h1, h2⟩, wpOp_step (list_op hj) fun K hK => h2 K fun a' w' h1 h2 => hK a' w' ⟨h1, h2⟩, wpOp_step (list_op hk) fun K hK => h3 K fun a' w' h1 h2 => hK a' w' ⟨h1, h2⟩⟩
end
end Go.Proofs.Ytmnimcdbfolhaaa.Plan
