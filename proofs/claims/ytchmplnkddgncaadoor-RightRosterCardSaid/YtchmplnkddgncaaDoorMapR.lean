/- A map of the call's own whose elements are slices (rows of the call's own, no two in one block). -/
import Derived.Test.YtchmplnkddgncaaDoorMapX
import Derived.Test.YtchmplnkddgncaaDoorRowK
set_option linter.unusedSimpArgs false
set_option linter.unusedVariables false
namespace Go.Proofs.YtchmplnkddgncaaDoor
open Go Go.RowKit
section
variable {α : Type} [DecidableEq α] {β : Type}
def rowX (m : List (α × Value)) (x : α) : Value := (getX m x).getD (.slice none 0 0)
structure MapRows (w : World) (base b : Nat) (f : α → Value) (enc : β → List Value) (k : Nat) (te : TypeId) (m : List (α × Value)) (A : α → List β) : Prop where
  map : MapX w b f id m
  hb : b < base
  row : ∀ x, w.ownsRow base te k (rowX m x) (A x).length ((A x).flatMap enc)
  apart : ∀ x y g, x ≠ y → (rowX m x).ownBlock = some g → (rowX m y).ownBlock ≠ some g
variable {w w1 w2 w3 : World} {base b : Nat} {f : α → Value} {enc : β → List Value} {k : Nat} {te : TypeId} {m : List (α × Value)} {A : α → List β}
theorem own_lt {n : Nat} {v : Value} {xs : List Value} (h : w.ownsRow base te k v n xs) {g : Nat} (hg : v.ownBlock = some g) : base ≤ g ∧ g < w.heap.size := h.lt g hg
theorem MapRows.made (w : World) (base : Nat) (f : α → Value) (enc : β → List Value) (k : Nat) (te : TypeId) (hb : w.heap.size < base) : MapRows (w.alloc (.map #[] 0)) base w.heap.size f enc k te [] (fun _ => []) :=
  ⟨MapX.made w f id, hb, fun x => World.ownsRow_nil _ _ _ _, fun x y g _ h => by simp [rowX, getX, Value.ownBlock] at h⟩
theorem MapRows.below (h : MapRows w base b f enc k te m A) (hw : Below w.heap.size w w1) : MapRows w1 base b f enc k te m A :=
  ⟨h.map.below hw h.map.lt, h.hb, fun x => row_below (h.row x) hw, h.apart⟩
/-- Kept where another row of the call's own has grown. -/
theorem MapRows.grown (h : MapRows w base b f enc k te m A) {row : Option Nat} (hg : w.grownBy w1 row) (hr : ∀ g, row = some g → base ≤ g) (hd : ∀ x g, (rowX m x).ownBlock = some g → row ≠ some g) : MapRows w1 base b f enc k te m A :=
  ⟨h.map.keep (hg.block b h.map.lt (fun e => by have := hr b e.symm; have := h.hb; omega)), h.hb, fun x => (h.row x).kept hg (by
    cases e : (rowX m x).ownBlock with
    | none => exact .inl rfl
    | some g => exact .inr (fun q => hd x g e q.symm)), h.apart⟩
theorem MapRows.lookup {P : Program} {t kt E : TypeId} (h : MapRows w base b f enc k te m A) (K : KeyX P kt f) (ht : P.underlying t = some (.map kt E)) (hz : (zeroValue E).run P w = .ok (.slice none 0 0) w) (x : α) :
    (Instr.lookup t (.map (some b)) (f x) false).run P w = .ok (rowX m x) w := by
  rw [h.map.lookup K ht hz x]
  simp [rowX]
theorem rowX_put (m : List (α × Value)) (x z : α) (v : Value) : rowX (putX m x v) z = if z = x then v else rowX m z := by
  unfold rowX
  rw [getX_put]
  split <;> rfl
/-- The store behind an append to the row of a key. -/
theorem MapRows.store (h : MapRows w base b f enc k te m A) (x : α) {v' : Value} {L' : List β} (hg : w.grownBy w2 (rowX m x).ownBlock) (hrow : w2.ownsRow base te k v' L'.length (L'.flatMap enc))
    (hat : v'.ownBlock = (rowX m x).ownBlock ∨ v'.ownBlock = some w.heap.size) (hm : MapX w3 b f id (putX m x v')) (hg3 : w2.grownBy w3 (some b)) : MapRows w3 base b f enc k te (putX m x v') (fun z => if z = x then L' else A z) := by
  have hne : ∀ z g, z ≠ x → (rowX m z).ownBlock = some g → v'.ownBlock ≠ some g := fun z g hz e q => by
    rcases hat with c | c
    · exact h.apart x z g (fun e => hz e.symm) (c.symm.trans q) e
    · rw [c] at q
      injection q with q
      have := (own_lt (h.row z) e).2
      omega
  have hk3 : ∀ {n : Nat} {v : Value} {xs : List Value}, w2.ownsRow base te k v n xs → w3.ownsRow base te k v n xs := fun {n v xs} hv => hv.kept hg3 (by
    cases e : v.ownBlock with
    | none => exact .inl rfl
    | some g => exact .inr (fun q => by injection q with q; have := (own_lt hv e).1; have := h.hb; omega))
  refine ⟨hm, h.hb, fun z => ?_, fun y z g hyz e => ?_⟩
  · rw [rowX_put]
    by_cases hz : z = x
    · rw [if_pos hz, if_pos hz]; exact hk3 hrow
    · rw [if_neg hz, if_neg hz]
      refine hk3 ((h.row z).kept hg ?_)
      cases e : (rowX m z).ownBlock with
      | none => exact .inl rfl
      | some g => exact .inr (fun q => h.apart x z g (fun e => hz e.symm) q.symm e)
  · rw [rowX_put] at e ⊢
    by_cases hy : y = x
    · rw [if_pos hy] at e
      rw [if_neg (fun e => hyz (by rw [hy, e]))]
      exact fun q => hne z g (fun e => hyz (by rw [hy, e])) q e
    · rw [if_neg hy] at e
      by_cases hz : z = x
      · rw [if_pos hz]; exact hne y g hy e
      · rw [if_neg hz]; exact h.apart y z g hyz e
end
end Go.Proofs.YtchmplnkddgncaaDoor
