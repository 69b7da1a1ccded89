/- A region that draws its order, by a plan: what reads is taken first, what writes comes up alone; a condition on the world holds behind every write but the last one, which waits for all. -/
import Derived.OrdersHeld
import Derived.Deep.RegionHeld3
set_option linter.unusedSimpArgs false
set_option linter.unusedVariables false
namespace Go.Proofs.Ytmnimcdbfolhaaa.Plan
open Go
section
variable {P : Program} {ops : Array Oper} {Q : Exit → Act → World → Prop} {md : Region.Mode} {S : World → Prop} {last : Nat}

/-- Whatever order is picked from here on; the condition holds behind every operation but the last. -/
def wpAnyT (P : Program) (md : Region.Mode) (ops : Array Oper) (Q : Exit → Act → World → Prop) (S : World → Prop) (last : Nat) : Nat → Array Bool → Act → World → Prop
  | 0, listed, a, w => Region.ready md ops listed = [] ∧ Q .normal a w
  | f + 1, listed, a, w => (Region.ready md ops listed = [] → Q .normal a w) ∧ ∀ i ∈ Region.ready md ops listed, wpOp P ops Q i (fun a' w' => (i = last ∨ S w') ∧ wpAnyT P md ops Q S last f (listed.setIfInBounds i true) a' w') a w
theorem any_of_T : ∀ (f : Nat) (listed : Array Bool) (a : Act) (w : World), wpAnyT P md ops Q S last f listed a w → wpAny P md ops Q f listed a w
  | 0, _, _, _, h => h
  | f + 1, _, _, _, h => ⟨h.1, fun i hi => wpOp_mono (fun a' w' h' => any_of_T f _ a' w' h'.2) (h.2 i hi)⟩
def waits (md : Region.Mode) (ops : Array Oper) (j i : Nat) : Bool := match ops[j]? with
  | some oj => oj.after.any fun e => Region.binds md e && e.on == i
  | none => false
theorem waits_not_ready {j i : Nat} {listed : Array Bool} (h : waits md ops j i = true) (hu : listed.getD i false = false) : j ∉ Region.ready md ops listed := by
  intro hj
  obtain ⟨_, o, ho, hall⟩ := mem_ready.1 hj
  simp only [waits, ho] at h
  obtain ⟨e, he, hb⟩ := Array.any_eq_true'.1 h
  simp only [Bool.and_eq_true, beq_iff_eq] at hb
  have := hall e he hb.1
  rw [hb.2, hu] at this
  cases this
theorem unlisted {i : Nat} {listed : Array Bool} (h : listed.getD i true = false) : listed.getD i false = false := by
  rcases Nat.lt_or_ge i listed.size with h' | h'
  · simp [h'] at h ⊢; exact h
  · simp [Array.getElem?_eq_none h'] at h
/-- Waits, over others too. -/
def waitsT (md : Region.Mode) (ops : Array Oper) : Nat → Nat → Nat → Bool
  | 0, j, i => waits md ops j i
  | n + 1, j, i => waits md ops j i || (List.range ops.size).any fun m => waits md ops j m && waitsT md ops n m i
/-- What is listed, all that it waits for is listed too. -/
def Closed (md : Region.Mode) (ops : Array Oper) (listed : Array Bool) : Prop := ∀ m i, listed.getD m false = true → waits md ops m i = true → listed.getD i false = true
theorem closed_waitsT {listed : Array Bool} (hc : Closed md ops listed) : ∀ (n m i : Nat), listed.getD m false = true → waitsT md ops n m i = true → listed.getD i false = true
  | 0, m, i, h, hw => hc m i h hw
  | n + 1, m, i, h, hw => by
    simp only [waitsT, Bool.or_eq_true, List.any_eq_true, Bool.and_eq_true] at hw
    rcases hw with hw | ⟨k, _, h1, h2⟩
    · exact hc m i h hw
    · exact closed_waitsT hc n k i (hc m k h h1) h2
theorem waitsT_not_ready {listed : Array Bool} (hc : Closed md ops listed) {n j i : Nat} (h : waitsT md ops n j i = true) (hu : listed.getD i false = false) : j ∉ Region.ready md ops listed := by
  intro hj
  cases n with
  | zero => exact waits_not_ready h hu hj
  | succ n =>
    simp only [waitsT, Bool.or_eq_true, List.any_eq_true, Bool.and_eq_true] at h
    rcases h with h | ⟨k, _, h1, h2⟩
    · exact waits_not_ready h hu hj
    · cases e : listed.getD k false
      · exact waits_not_ready h1 e hj
      · rw [closed_waitsT hc n k i e h2] at hu; cases hu
theorem Closed.set {listed : Array Bool} (hc : Closed md ops listed) {j : Nat} (hj : j ∈ Region.ready md ops listed) : Closed md ops (listed.setIfInBounds j true) := by
  intro m i hm hw
  obtain ⟨_, o, ho, hall⟩ := mem_ready.1 hj
  have up : ∀ k, listed.getD k false = true → (listed.setIfInBounds j true).getD k false = true := fun k hk => by
    by_cases g : j = k
    · subst g
      have hlt : j < listed.size := by
        rcases Nat.lt_or_ge j listed.size with h | h
        · exact h
        · simp [Array.getElem?_eq_none h] at hk
      simp [hlt]
    · rw [getD_set_ne false g]; exact hk
  refine up i ?_
  by_cases g : j = m
  · subst g
    simp only [waits, ho] at hw
    obtain ⟨e, he, hb⟩ := Array.any_eq_true'.1 hw
    simp only [Bool.and_eq_true, beq_iff_eq] at hb
    have := hall e he hb.1
    rw [hb.2] at this; exact this
  · rw [getD_set_ne false g] at hm
    exact hc m i hm hw
/-- What reads may be taken first. -/
theorem first_T {i : Nat} {oi : Oper} {v : Value} (hi : ops[i]? = some oi) (hsel : ∀ (j : Nat) (o : Oper) cs b, ops[j]? = some o → o.op ≠ .select cs b) (hQ : ∀ c a w, Q (.panic c) (a.put oi.dst v) w → Q (.panic c) a w) {n : Nat} (hw : waitsT md ops n last i = true) (hil : i ≠ last) :
    ∀ (f : Nat) (listed : Array Bool) (a : Act) (w : World),
      Closed md ops listed → (∀ j oj, ops[j]? = some oj → j ≠ i → listed.getD j true = false → (∀ e ∈ oj.after, Region.binds md e = true → e.on ≠ i) → oi.apart ops oj = true) →
      i ∈ Region.ready md ops listed → YieldsIf P ops S oi v a → S w → wpAnyT P md ops Q S last f (listed.setIfInBounds i true) (a.put oi.dst v) w → wpAnyT P md ops Q S last (f + 1) listed a w := by
  intro f
  induction f with
  | zero =>
    intro listed a w _ _ hr hy hS H
    refine ⟨fun h => (by rw [h] at hr; cases hr), fun j hj => ?_⟩
    by_cases e : j = i
    · subst e; exact hy.wpOp hi hS ⟨.inr hS, H⟩
    · have := ready_mono hj e
      rw [H.1] at this
      cases this
  | succ f ih =>
    intro listed a w hc hfree hr hy hS H
    have hun := (mem_ready.1 hr).1
    refine ⟨fun h => (by rw [h] at hr; cases hr), fun j hj => ?_⟩
    by_cases e : j = i
    · subst e; exact hy.wpOp hi hS ⟨.inr hS, H⟩
    · have hjl : j ≠ last := fun g => waitsT_not_ready hc hw (unlisted hun) (g ▸ hj)
      have h1 := H.2 j (ready_mono hj e)
      obtain ⟨hjun, oj, hoj, hall⟩ := mem_ready.1 hj
      have hnot : ∀ e ∈ oj.after, Region.binds md e = true → e.on ≠ i := fun e he hb g => by
        have h2 := hall e he hb
        rw [g, unlisted hun] at h2
        cases h2
      have h2 := wpOp_putIf hoj (hfree j oj hoj e hjun hnot) (fun cs b => hsel i oi cs b hi) (fun cs b => hsel j oj cs b hoj) hQ hy h1
      have hfree' : ∀ k ok, ops[k]? = some ok → k ≠ i → (listed.setIfInBounds j true).getD k true = false → (∀ e ∈ ok.after, Region.binds md e = true → e.on ≠ i) → oi.apart ops ok = true := fun k ok hk hki hku hno => by
        refine hfree k ok hk hki ?_ hno
        by_cases g : j = k
        · subst g; exact hjun
        · rw [getD_set_ne true g] at hku; exact hku
      refine wpOp_mono (fun a' w' h3 => ?_) h2
      have hS' : S w' := h3.2.1.resolve_left hjl
      refine ⟨.inr hS', ih (listed.setIfInBounds j true) a' w' (hc.set hj) hfree' (ready_mono hr (Ne.symm e)) h3.1 hS' ?_⟩
      rw [Array.setIfInBounds_comm _ _ e]
      exact h3.2.2

/-- The plan: true: an operation that reads; false: one that writes. -/
def wpPlan (P : Program) (ops : Array Oper) (Q : Exit → Act → World → Prop) (S : World → Prop) : List (Nat × Bool) → Act → World → Prop
  | [], a, w => Q .normal a w
  | (i, true) :: r, a, w => ∃ o v, ops[i]? = some o ∧ YieldsIf P ops S o v a ∧ wpPlan P ops Q S r (a.put o.dst v) w
  | (i, false) :: r, a, w => wpOp P ops Q i (fun a' w' => (r = [] ∨ S w') ∧ wpPlan P ops Q S r a' w') a w
def planB (md : Region.Mode) (ops : Array Oper) (last : Nat) : List (Nat × Bool) → Array Bool → Bool
  | [], listed => (Region.ready md ops listed).isEmpty
  | (i, true) :: r, listed => (Region.ready md ops listed).contains i && Region.free md ops listed i && waitsT md ops ops.size last i && i != last && planB md ops last r (listed.setIfInBounds i true)
  | (i, false) :: r, listed => decide (Region.ready md ops listed = [i]) && (!r.isEmpty || i == last) && planB md ops last r (listed.setIfInBounds i true)
theorem plan_T (hsel : Region.noSelect ops = true) (hQ : ∀ c a d v w, Q (.panic c) (Act.put a d v) w → Q (.panic c) a w) : ∀ (plan : List (Nat × Bool)) (listed : Array Bool) (a : Act) (w : World), Closed md ops listed → planB md ops last plan listed = true → (plan = [] ∨ S w) → wpPlan P ops Q S plan a w →
    wpAnyT P md ops Q S last plan.length listed a w
  | [], listed, a, w, _, hB, _, h => ⟨by simpa [planB] using hB, h⟩
  | (i, true) :: r, listed, a, w, hc, hB, hS, h => by
    simp only [planB, Bool.and_eq_true] at hB
    obtain ⟨⟨⟨⟨h1, h2⟩, h3⟩, h4⟩, h5⟩ := hB
    obtain ⟨o, v, ho, hy, hr⟩ := h
    have hS' : S w := hS.resolve_left (by simp)
    exact first_T ho (Region.noSelect_spec hsel) (fun c a w => hQ c a _ _ w) h3 (by simpa using h4) r.length listed a w hc (Region.free_spec ho h2) (by simpa using h1) hy hS' (plan_T hsel hQ r _ _ _ (hc.set (by simpa using h1)) h5 (.inr hS') hr)
  | (i, false) :: r, listed, a, w, hc, hB, hS, h => by
    simp only [planB, Bool.and_eq_true, decide_eq_true_eq] at hB
    obtain ⟨⟨h1, h2⟩, h3⟩ := hB
    refine ⟨fun h0 => (by rw [h1] at h0; cases h0), fun j hj => ?_⟩
    rw [h1] at hj
    obtain rfl : j = i := by simpa using hj
    refine wpOp_mono (fun a' w' h' => ⟨?_, plan_T hsel hQ r _ a' w' (hc.set (by rw [h1]; exact List.mem_singleton.2 rfl)) h3 h'.1 h'.2⟩) h
    rcases h'.1 with e | e
    · subst e; left; simpa using h2
    · exact .inr e
theorem getD_replicate_false (n m : Nat) : (Array.replicate n false).getD m false = false := by
  by_cases h : m < n <;> simp [Array.getD, h]
theorem wp_region_plan {id : Nat} {l : List Oper} {a : Act} {w : World} (S : World → Prop) (last : Nat) (plan : List (Nat × Bool)) (hm : P.follows .mixedOrders = true) (hB : (Region.noSelect l.toArray && decide (plan.length = l.length) && planB .any l.toArray last plan (Array.replicate l.length false)) = true)
    (hS : S w.drew) (h : wpPlan P l.toArray (NoPanic Q) S plan a w.drew) : (Code.region id l.toArray true).wp P Q a w := by
  simp only [Bool.and_eq_true, decide_eq_true_eq] at hB
  obtain ⟨⟨h1, h2⟩, h3⟩ := hB
  refine wp_region_noPanic (wp_region_any hm (any_of_T (S := S) (last := last) _ _ _ _ ?_))
  rw [show l.toArray.size = plan.length by simp [h2]]
  rw [← h2] at h3
  exact plan_T h1 (fun _ _ _ _ _ h => h) plan _ a _ (fun m i hm _ => absurd hm (by rw [getD_replicate_false]; decide)) h3 (.inr hS) h
theorem plan_end {l : List Oper} {a : Act} {w : World} (h : Q .normal a w) : wpPlan P l.toArray (NoPanic Q) S [] a w := h
theorem list_op {l : List Oper} {i : Nat} {o : Oper} (h : l[i]? = some o) : l.toArray[i]? = some o := by simpa using h
/-- A step that reads. -/
theorem plan_read {l : List Oper} {i : Nat} {o : Oper} {v : Value} {r : List (Nat × Bool)} {a : Act} {w : World} (ho : l[i]? = some o) (hw : Region.wanted o (yielded l.toArray a.tmps) = true) (hy : ∀ w, S w → (execOp a.eval o).run P w = .ok (.value v) w)
    (h : wpPlan P l.toArray Q S r (a.put o.dst v) w) : wpPlan P l.toArray Q S ((i, true) :: r) a w := ⟨o, v, list_op ho, .inl ⟨hw, hy⟩, h⟩
theorem plan_skip {l : List Oper} {i : Nat} {o : Oper} {r : List (Nat × Bool)} {a : Act} {w : World} (ho : l[i]? = some o) (hw : Region.wanted o (yielded l.toArray a.tmps) = false)
    (h : wpPlan P l.toArray Q S r (a.put o.dst undef) w) : wpPlan P l.toArray Q S ((i, true) :: r) a w := ⟨o, undef, list_op ho, .inr ⟨hw, rfl⟩, h⟩
/-- A step that writes, and is not the last. -/
theorem plan_write {l : List Oper} {i : Nat} {o : Oper} {r : List (Nat × Bool)} {a : Act} {w : World} (ho : l[i]? = some o)
    (h : ∀ K : Act → World → Prop, Shut (∀ a' w', S w' → wpPlan P l.toArray Q S r a' w' → K a' w') → if Region.wanted o (yielded l.toArray a.tmps) = true then Oper.wp P o a w K Q else K (a.put o.dst undef) w) : wpPlan P l.toArray Q S ((i, false) :: r) a w :=
  wpOp_step (list_op ho) fun K hK => h K fun a' w' h1 h2 => hK a' w' ⟨.inr h1, h2⟩
theorem plan_last {l : List Oper} {i : Nat} {o : Oper} {a : Act} {w : World} (ho : l[i]? = some o)
    (h : ∀ K : Act → World → Prop, Shut (∀ a' w', Q .normal a' w' → K a' w') → if Region.wanted o (yielded l.toArray a.tmps) = true then Oper.wp P o a w K (NoPanic Q) else K (a.put o.dst undef) w) : wpPlan P l.toArray (NoPanic Q) S [(i, false)] a w :=
  wpOp_step (list_op ho) fun K hK => h K fun a' w' h1 => hK a' w' ⟨.inl rfl, h1⟩
end
end Go.Proofs.Ytmnimcdbfolhaaa.Plan
