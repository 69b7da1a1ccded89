/- A region that draws its order, inside a round of a range over a function: it may be walked as one outside, where no operation of it enters a function or defers a call. -/
import Derived.OrdersIn
import Derived.Test.YtmnimcdbfolhaaaPlanB
set_option linter.unusedSimpArgs false
set_option linter.unusedVariables false
namespace Go.Proofs.Ytmnimcdbfolhaaa.Plan
open Go Go.RowKit
/-- An operation that gives a value, or nothing, whenever it runs. -/
def quietOp (o : Oper) : Bool := match o.op with
  | .move _ => true
  | .assign _ => true
  | .load _ _ => true
  | .store _ _ _ => true
  | .fieldAddr _ _ _ => true
  | .buildSlice _ _ _ => true
  | .nilCheck _ => true
  | .call c => match c.callee with
    | .builtin .append => true
    | _ => false
  | _ => false
def Gives (n : Next) : Prop := (∃ v, n = .value v) ∨ n = .skip
theorem gives_v {P : Program} (s : Sem Value) {w w' : World} {n : Next} (h : (do pure (.value (← s)) : Sem Next).run P w = .ok n w') : Gives n := by
  rw [Sem.run_bind] at h
  cases hs : s.run P w with
  | ok v w1 => rw [hs] at h; simp only [Result.andThen, Sem.run_pure] at h; cases h; exact .inl ⟨v, rfl⟩
  | halt x w1 => rw [hs] at h; simp only [Result.andThen] at h; cases h
theorem gives_u {P : Program} (s : Sem Unit) {w w' : World} {n : Next} (h : (do s; pure .skip : Sem Next).run P w = .ok n w') : Gives n := by
  rw [Sem.run_bind] at h
  cases hs : s.run P w with
  | ok v w1 => rw [hs] at h; simp only [Result.andThen, Sem.run_pure] at h; cases h; exact .inr rfl
  | halt x w1 => rw [hs] at h; simp only [Result.andThen] at h; cases h
theorem gives_b {P : Program} {α : Type} (s : Sem α) (f : α → Sem Next) (hf : ∀ a w n w', (f a).run P w = .ok n w' → Gives n) {w w' : World} {n : Next} (h : (s >>= f).run P w = .ok n w') : Gives n := by
  rw [Sem.run_bind] at h
  cases hs : s.run P w with
  | ok v w1 => rw [hs] at h; exact hf _ _ _ _ h
  | halt x w1 => rw [hs] at h; simp only [Result.andThen] at h; cases h
theorem gives_p {P : Program} (v : Value) (w : World) (n : Next) (w' : World) (h : (pure (.value v) : Sem Next).run P w = .ok n w') : Gives n := by
  rw [Sem.run_pure] at h; cases h; exact .inl ⟨_, rfl⟩
theorem gives_of {P : Program} {o : Oper} (ho : quietOp o = true) (ρ : Operand → Value) {w w' : World} {n : Next} (h : (execOp ρ o).run P w = .ok n w') : Gives n := by
  unfold quietOp at ho
  unfold execOp at h
  split at ho <;> rename_i e
  · rw [e] at h; simp only [Sem.run_pure] at h; cases h; exact .inl ⟨_, rfl⟩
  · rw [e] at h; simp only [Sem.run_pure] at h; cases h; exact .inl ⟨_, rfl⟩
  · rw [e] at h; exact gives_v _ h
  · rw [e] at h; exact gives_u _ h
  · rw [e] at h; exact gives_v _ h
  · rw [e] at h; exact gives_v _ h
  · rw [e] at h
    dsimp only at h
    split at h
    · simp [runtimePanic, go_sem] at h
    · simp [runtimePanic, go_sem] at h
    · simp [runtimePanic, go_sem] at h
    · split at h
      · simp [runtimePanic, go_sem] at h
      · refine gives_b _ _ (fun _ w n w' h => ?_) h
        refine gives_b _ _ (fun _ w n w' h => ?_) h
        split at h
        · refine gives_b _ _ (fun _ w n w' h => ?_) h
          exact gives_p _ _ _ _ h
        · exact gives_p _ _ _ _ h
      · exact gives_p _ _ _ _ h
    · exact gives_p _ _ _ _ h
  · rename_i c
    split at ho
    · rename_i e2
      rw [e] at h
      dsimp only at h
      unfold resolve at h
      rw [e2, Sem.run_bind] at h
      dsimp only at h
      rw [Sem.run_pure] at h
      dsimp only [Result.andThen, invoke, builtin] at h
      exact gives_v _ h
    · cases ho
  · cases ho
/-- Nothing but the end. -/
def Only (R : Act → World → Prop) : Exit → Act → World → Prop := fun e a w => e = .normal ∧ R a w
section
variable {F : Fence} {n : Nat} {P : Program} {ops : Array Oper} {Q : Exit → Act → World → Prop} {R : Act → World → Prop} {md : Region.Mode}
theorem opIn_of (hF : ∀ f, F.fn f) (hq : ∀ (i : Nat) (o : Oper), ops[i]? = some o → quietOp o = true) {i : Nat} {K K' : Act → World → Prop} {a : Act} {w : World} (hK : ∀ a w, K a w → K' a w)
    (h : wpOp P ops (NoPanic (Only R)) i K a w) : wpOpIn F n P ops Q i K' a w := by
  unfold wpOp at h
  unfold wpOpIn
  cases ho : ops[i]? with
  | none => rw [ho] at h; exact hK _ _ h
  | some o =>
    rw [ho] at h
    dsimp only at h ⊢
    have hqo := hq i o ho
    by_cases hw : Region.wanted o (yielded ops a.tmps) = true
    · rw [if_pos hw] at h ⊢
      rcases h with h | ⟨_, a', w', h⟩
      · refine ⟨fun f _ => hF f, ?_⟩
        rw [Oper.semAt_eq _ _ _ (fun c e => by unfold quietOp at hqo; rw [e] at hqo; cases hqo)]
        unfold Oper.wp at h
        cases hr : (execOp a.eval o).run P w with
        | ok x w1 =>
          rw [hr] at h
          rcases gives_of hqo _ hr with ⟨v, rfl⟩ | rfl
          · exact hK _ _ h
          · exact hK _ _ h
        | halt x w1 =>
          rw [hr] at h
          cases x <;> exact (h : False).elim
      · exact absurd h.1 (by simp)
    · rw [if_neg hw] at h ⊢
      exact ⟨fun f _ => hF f, hK _ _ h⟩
theorem anyIn_of (hF : ∀ f, F.fn f) (hq : ∀ (i : Nat) (o : Oper), ops[i]? = some o → quietOp o = true) (hR : ∀ a w, R a w → Q .normal a w) : ∀ (fuel : Nat) (listed : Array Bool) (a : Act) (w : World), wpAny P md ops (NoPanic (Only R)) fuel listed a w → wpAnyIn F n P md ops Q fuel listed a w
  | 0, _, _, _, h => ⟨h.1, hR _ _ h.2.2⟩
  | fuel + 1, _, _, _, h => ⟨fun e => hR _ _ (h.1 e).2, fun i hi => opIn_of hF hq (fun a w h => anyIn_of hF hq hR fuel _ a w h) (h.2 i hi)⟩
/-- A tree in a round. -/
theorem wpIn_region_tree {id : Nat} {l : List Oper} {a : Act} {w : World} (t : Tree) (hF : ∀ f, F.fn f) (hq : l.all quietOp = true) (hm : P.follows .mixedOrders = true) (hB : (Region.noSelect l.toArray && treeB .any l.toArray l.length t (Array.replicate l.length false)) = true)
    (h : wpTree P l.toArray (NoPanic (Only (Q .normal))) (Below w.heap.size w) t a w.drew) : (Code.region id l.toArray true).wpIn F n P Q a w := by
  simp only [Bool.and_eq_true] at hB
  obtain ⟨h1, h3⟩ := hB
  refine wpIn_region_any hm (anyIn_of hF (fun i o ho => ?_) (fun _ _ q => q) _ _ _ _ (wpAny_of_held (S := Below w.heap.size w) _ _ _ _ ?_))
  · exact List.all_eq_true.1 hq o (List.mem_of_getElem? (by simpa using ho))
  · rw [show l.toArray.size = l.length by simp]
    exact tree_H h1 (fun _ _ _ _ _ h => h) _ t _ a _ h3 (Below.refl _ _).drew h
/-- A plan in a round: the last operation may store to what was. -/
theorem wpIn_region_plan {id : Nat} {l : List Oper} {a : Act} {w : World} (S : World → Prop) (last : Nat) (plan : List (Nat × Bool)) (hF : ∀ f, F.fn f) (hq : l.all quietOp = true) (hm : P.follows .mixedOrders = true) (hB : (Region.noSelect l.toArray && decide (plan.length = l.length) && planB .any l.toArray last plan (Array.replicate l.length false)) = true)
    (hS : S w.drew) (h : wpPlan P l.toArray (NoPanic (Only (Q .normal))) S plan a w.drew) : (Code.region id l.toArray true).wpIn F n P Q a w := by
  simp only [Bool.and_eq_true, decide_eq_true_eq] at hB
  obtain ⟨⟨h1, h2⟩, h3⟩ := hB
  refine wpIn_region_any hm (anyIn_of hF (fun i o ho => ?_) (fun _ _ q => q) _ _ _ _ (any_of_T (S := S) (last := last) _ _ _ _ ?_))
  · exact List.all_eq_true.1 hq o (List.mem_of_getElem? (by simpa using ho))
  · rw [show l.toArray.size = plan.length by simp [h2]]
    rw [← h2] at h3
    exact plan_T h1 (fun _ _ _ _ _ h => h) plan _ a _ (fun m i hm _ => absurd hm (by rw [getD_replicate_false]; decide)) h3 (.inr hS) h
/-- A tree at any condition on the world. -/
theorem wp_region_treeS {id : Nat} {l : List Oper} {a : Act} {w : World} (S : World → Prop) (t : Tree) (hm : P.follows .mixedOrders = true) (hB : (Region.noSelect l.toArray && treeB .any l.toArray l.length t (Array.replicate l.length false)) = true)
    (hS : S w.drew) (h : wpTree P l.toArray (NoPanic Q) S t a w.drew) : (Code.region id l.toArray true).wp P Q a w := by
  simp only [Bool.and_eq_true] at hB
  obtain ⟨h1, h3⟩ := hB
  refine wp_region_noPanic (wp_region_any hm (wpAny_of_held (S := S) _ _ _ _ ?_))
  rw [show l.toArray.size = l.length by simp]
  exact tree_H h1 (fun _ _ _ _ _ h => h) _ t _ a _ h3 hS h
end
end Go.Proofs.Ytmnimcdbfolhaaa.Plan
