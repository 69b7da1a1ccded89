/- An array of the call's own whose elements are slices (rows of the call's own, no two in one block) that grow. -/
import Derived.Test.YthoigjkelinjhaaArr
import Derived.Test.YthoigjkelinjhaaRowK
set_option linter.unusedSimpArgs false
set_option linter.unusedVariables false
namespace Go.Proofs.Ythoigjkelinjhaa
open Go Go.RowKit
section
variable {β : Type}
structure TabRows (w : World) (base g n : Nat) (enc : β → List Value) (k : Nat) (te : TypeId) (V : Nat → Value) (A : Nat → List β) : Prop where
  arr : Arr w g n V
  lt : g < w.heap.size
  hb : g < base
  row : ∀ v, v < n → w.ownsRow base te k (V v) (A v).length ((A v).flatMap enc)
  apart : ∀ u v, u < n → v < n → u ≠ v → ∀ b, (V u).ownBlock = some b → (V v).ownBlock ≠ some b
variable {w w1 w2 : World} {base g n : Nat} {enc : β → List Value} {k : Nat} {te : TypeId} {V : Nat → Value} {A : Nat → List β}
theorem TabRows.made (w : World) (n : Nat) (enc : β → List Value) (k : Nat) (te t : TypeId) : TabRows (w.alloc (.cells (zeros (.slice none 0 0) n) t)) (w.heap.size + 1) w.heap.size n enc k te (fun _ => .slice none 0 0) (fun _ => []) :=
  ⟨Arr.made w _ n t, by simp, by omega, fun v _ => World.ownsRow_nil _ _ _ _, fun u v _ _ _ b h => by simp [Value.ownBlock] at h⟩
theorem TabRows.below (h : TabRows w base g n enc k te V A) (hw : Below w.heap.size w w1) : TabRows w1 base g n enc k te V A :=
  ⟨h.arr.below hw h.lt, Nat.lt_of_lt_of_le h.lt hw.size, h.hb, fun v hv => row_below (h.row v hv) hw, h.apart⟩
theorem TabRows.store (h : TabRows w base g n enc k te V A) {x : Nat} (hx : x < n) {v' : Value} {L' : List β} (hg : w.grownBy w2 (V x).ownBlock) (hrow : w2.ownsRow base te k v' L'.length (L'.flatMap enc))
    (hat : ∀ b, v'.ownBlock = some b → (V x).ownBlock = some b ∨ w.heap.size ≤ b) : TabRows (w2.setCell ⟨g, x, none⟩ v') base g n enc k te (updF V x v') (fun v => if v = x then L' else A v) := by
  have hgb : some g ≠ (V x).ownBlock := fun e => by have := ((h.row x hx).lt g e.symm).1; have := h.hb; omega
  have hkeep : ∀ {m : Nat} {v : Value} {xs : List Value}, w2.ownsRow base te k v m xs → (w2.setCell ⟨g, x, none⟩ v').ownsRow base te k v m xs := fun {m v xs} hv => by
    refine hv.kept (row := some g) ⟨rfl, rfl, rfl, by simp, fun b hb hn => Below.heap_setCell _ _ _ _ (fun e => hn (congrArg some e))⟩ ?_
    cases e : v.ownBlock with
    | none => exact .inl rfl
    | some b => exact .inr (fun q => by injection q with q; have := (hv.lt b e).1; have := h.hb; omega)
  refine ⟨(h.arr.keep (hg.block g h.lt hgb)).set hx v', by have := h.lt; have := hg.size; simp; omega, h.hb, fun v hv => ?_, fun u v hu hv huv b hb => ?_⟩
  · show World.ownsRow _ _ _ _ (updF V x v' v) (if v = x then L' else A v).length ((if v = x then L' else A v).flatMap enc)
    unfold updF
    by_cases e : v = x
    · simp only [if_pos e]; exact hkeep hrow
    · simp only [if_neg e]
      refine hkeep ((h.row v hv).kept hg ?_)
      cases e2 : (V v).ownBlock with
      | none => exact .inl rfl
      | some b => exact .inr (fun q => h.apart x v hx hv (Ne.symm e) b q.symm e2)
  · unfold updF at hb ⊢
    by_cases e : u = x
    · rw [if_pos e] at hb
      rw [if_neg (fun q => huv (e.trans q.symm))]
      intro q
      rcases hat b hb with c | c
      · exact h.apart x v hx hv (fun q2 => huv (e.trans q2)) b c q
      · have := ((h.row v hv).lt b q).2; omega
    · rw [if_neg e] at hb
      by_cases e2 : v = x
      · rw [if_pos e2]
        intro q
        rcases hat b q with c | c
        · exact h.apart u x hu hx e b hb c
        · have := ((h.row u hu).lt b hb).2; omega
      · rw [if_neg e2]; exact h.apart u v hu hv huv b hb
theorem TabRows.congr {B : Nat → List β} (h : TabRows w base g n enc k te V A) (e : ∀ v, v < n → A v = B v) : TabRows w base g n enc k te V B :=
  ⟨h.arr, h.lt, h.hb, fun v hv => by rw [← e v hv]; exact h.row v hv, h.apart⟩
/-- Each row, read as a slice. -/
theorem TabRows.read (h : TabRows w base g n enc k te V A) (hk : ∀ r, (enc r).length = k) {v : Nat} (hv : v < n) : ∃ C c, V v = .slice C (A v).length c ∧ RowAt enc k w w.heap.size C (A v) := by
  obtain ⟨C, c, e, hr, _⟩ := rowk_of_owns hk (h.row v hv)
  exact ⟨C, c, e, hr⟩
end
end Go.Proofs.Ythoigjkelinjhaa
