/- Memory words: a slice of elements of k cells each (enc: an element's cells), read as a list; rows of them that the call made. -/
import Derived.Test.YtmnimcdbfolhaaaMem
import Derived.Test.YtmnimcdbfolhaaaAppAny
import Derived.Test.YtmnimcdbfolhaaaPlanB
import Derived.Deep.AppendLies
set_option linter.unusedSimpArgs false
set_option linter.unusedVariables false
namespace Go.Proofs.Ytmnimcdbfolhaaa
open Go.RowKit
section
variable {α : Type} (enc : α → List Value) (k : Nat)
/-- The elements lie one behind the other, below a block. -/
def RowAt (w : World) (B : Nat) (C : Option Addr) (A : List α) : Prop :=
  0 < A.length → ∃ b off, C = some ⟨b, off, none⟩ ∧ b < B ∧ ∀ (i : Nat) (r : α), A[i]? = some r → ∀ (j : Nat) (v : Value), (enc r)[j]? = some v → w.cell? ⟨b, off + (i * k + j), none⟩ = some v
variable {enc k}
theorem RowAt.below {w w' : World} {B : Nat} {C : Option Addr} {A : List α} (h : RowAt enc k w B C A) (hb : Below B w w') : RowAt enc k w' B C A := fun hl => by
  obtain ⟨b, off, e, hlt, hc⟩ := h hl
  exact ⟨b, off, e, hlt, fun i r hk j v hj => (hb.cell (p := ⟨b, _, none⟩) hlt).trans (hc i r hk j v hj)⟩
theorem RowAt.more {w : World} {B B' : Nat} {C : Option Addr} {A : List α} (h : RowAt enc k w B C A) (hB : B ≤ B') : RowAt enc k w B' C A := fun hl => by
  obtain ⟨b, off, e, hlt, hc⟩ := h hl
  exact ⟨b, off, e, by omega, hc⟩
theorem RowAt.nil (w : World) (B : Nat) (C : Option Addr) : RowAt enc k w B C ([] : List α) := fun h => absurd h (by simp)
variable (hk : ∀ r, (enc r).length = k)
include hk
theorem rowk_len (A : List α) : (A.flatMap enc).length = A.length * k := by
  induction A with
  | nil => simp
  | cons t ts ih => rw [List.flatMap_cons, List.length_append, ih, hk, List.length_cons, Nat.succ_mul, Nat.add_comm]
theorem rowk_get : ∀ (A : List α) (i : Nat) (r : α), A[i]? = some r → ∀ j, j < k → (A.flatMap enc)[i * k + j]? = (enc r)[j]?
  | [], i, r, h, _, _ => by simp at h
  | t :: ts, 0, r, h, j, hj => by
    obtain rfl : t = r := by simpa using h
    rw [List.flatMap_cons, Nat.zero_mul, Nat.zero_add, List.getElem?_append_left (by rw [hk]; exact hj)]
  | t :: ts, i + 1, r, h, j, hj => by
    have ih := rowk_get ts i r (by simpa using h) j hj
    rw [List.flatMap_cons, List.getElem?_append_right (by rw [hk, Nat.succ_mul]; omega), hk, Nat.succ_mul, show i * k + k + j - k = i * k + j by omega]
    exact ih
theorem enc_lt {r : α} {j : Nat} {v : Value} (h : (enc r)[j]? = some v) : j < k := by
  have := (List.getElem?_eq_some_iff.1 h).1
  rw [hk] at this; exact this
/-- What the call has made of them, read as a slice. -/
theorem rowk_of_owns {w : World} {base e : Nat} {v : Value} {A : List α} (h : w.ownsRow base e k v A.length (A.flatMap enc)) : ∃ C cc, v = .slice C A.length cc ∧ RowAt enc k w w.heap.size C A ∧ ∀ a, C = some a → base ≤ a.block := by
  obtain ⟨h1, ⟨rfl, h0⟩ | ⟨g, cap, cur, rfl, h2, h3, h4, h5, h6, h7⟩⟩ := h
  · obtain rfl : A = [] := List.eq_nil_of_length_eq_zero h0
    exact ⟨none, 0, rfl, RowAt.nil _ _ _, fun a ha => by cases ha⟩
  · refine ⟨_, cap, rfl, fun _ => ⟨g, 0, rfl, ?_, fun i r hi j u hj => ?_⟩, fun a ha => by cases ha; exact h2⟩
    · rcases Nat.lt_or_ge g w.heap.size with h | h
      · exact h
      · rw [Array.getElem?_eq_none h] at h3; cases h3
    · have hil := (List.getElem?_eq_some_iff.1 hi).1
      have hjk := enc_lt hk hj
      have hl : i * k + j < A.length * k := by
        have : (i + 1) * k ≤ A.length * k := Nat.mul_le_mul_right _ hil
        rw [Nat.succ_mul] at this; omega
      rw [Nat.zero_add, cell_of_row w g _ cur e (0, 0) h3]
      have := rowk_get hk A i r hi j hjk
      rw [hj, ← h7, List.getElem?_take_of_lt hl] at this
      simpa using this
/-- .. as an array that may be written. -/
theorem rowkArr_of_owns {w : World} {base e : Nat} {v : Value} {A : List α} (hn : A.length ≠ 0) (h : w.ownsRow base e k v A.length (A.flatMap enc)) :
    ∃ g cc, v = .slice (some ⟨g, 0, none⟩) A.length cc ∧ base ≤ g ∧ g < w.heap.size ∧ ∀ i r, A[i]? = some r → ∀ j u, (enc r)[j]? = some u → w.cell? ⟨g, i * k + j, none⟩ = some u ∧ w.frozen? ⟨g, i * k + j, none⟩ = false := by
  obtain ⟨h1, ⟨rfl, h0⟩ | ⟨g, cap, cur, rfl, h2, h3, h4, h5, h6, h7⟩⟩ := h
  · exact absurd h0 hn
  · refine ⟨g, cap, rfl, h2, ?_, fun i r hi j u hj => ⟨?_, ?_⟩⟩
    · rcases Nat.lt_or_ge g w.heap.size with h | h
      · exact h
      · rw [Array.getElem?_eq_none h] at h3; cases h3
    · have hil := (List.getElem?_eq_some_iff.1 hi).1
      have hjk := enc_lt hk hj
      have hl : i * k + j < A.length * k := by
        have : (i + 1) * k ≤ A.length * k := Nat.mul_le_mul_right _ hil
        rw [Nat.succ_mul] at this; omega
      rw [cell_of_row w g _ cur e (0, 0) h3]
      have := rowk_get hk A i r hi j hjk
      rw [hj, ← h7, List.getElem?_take_of_lt hl] at this
      simpa using this
    · simp [World.frozen?, h3]
theorem reads_rowk {w : World} {B : Nat} {C : Option Addr} {A : List α} (h : RowAt enc k w B C A) (hk0 : 0 < k) : Reads w B k C A.length (A.flatMap enc) := by
  refine ⟨by rw [rowk_len hk], fun hl => ?_⟩
  obtain ⟨b, off, rfl, hb, hc⟩ := h hl
  refine ⟨_, rfl, hb, fun j u hj => ?_⟩
  have hlt : j < A.length * k := by have := (List.getElem?_eq_some_iff.1 hj).1; rw [rowk_len hk] at this; exact this
  have hq : j / k < A.length := (Nat.div_lt_iff_lt_mul hk0).2 hlt
  have hm := Nat.mod_lt j hk0
  have ej : j / k * k + j % k = j := by rw [Nat.mul_comm]; exact Nat.div_add_mod j k
  obtain ⟨r, hr⟩ : ∃ r, A[j / k]? = some r := ⟨_, List.getElem?_eq_getElem hq⟩
  have e := rowk_get hk A (j / k) r hr (j % k) hm
  rw [ej, hj] at e
  rw [Addr.add_lit]
  have := hc (j / k) r hr (j % k) u e.symm
  rwa [ej] at this
omit hk in
/-- Elements that a literal lays. -/
theorem rowk_new (hk : ∀ r, (enc r).length = k) (w : World) (A : List α) (t : TypeId) : RowAt enc k (w.alloc (.cells (A.flatMap enc).toArray t)) (w.alloc (.cells (A.flatMap enc).toArray t)).heap.size (some ⟨w.heap.size, 0, none⟩) A := fun _ =>
  ⟨w.heap.size, 0, rfl, by simp, fun i r hi j v hj => by
    have h := (rowk_get hk A i r hi j (enc_lt hk hj)).trans hj
    simpa using h⟩
end
section
theorem below_app {W w1 : World} {n₀ e size k : Nat} {v : Value} {xs : List Value} {tmp : Obj} (hrow : W.ownsRow n₀ e size v k xs) (hn₀ : n₀ ≤ W.heap.size) (hgrow : (W.alloc tmp).grownBy w1 v.ownBlock) : Below n₀ W w1 := by
  refine ((Below.refl n₀ W).alloc hn₀ tmp).grown hgrow (by simp; omega) fun j ej => ?_
  rcases hrow.2 with ⟨rfl, _⟩ | ⟨g, cap, cur, rfl, hb, _, _⟩
  · simp [Value.ownBlock] at ej
  · obtain rfl : g = j := by simpa [Value.ownBlock] using ej
    exact hb
theorem row_below {W w1 : World} {n₀ e size k : Nat} {v : Value} {xs : List Value} (hrow : W.ownsRow n₀ e size v k xs) (hb : Below W.heap.size W w1) : w1.ownsRow n₀ e size v k xs :=
  hrow.kept (row := none) ⟨hb.os, hb.tape, hb.output, hb.size, fun j hj _ => hb.block j hj⟩ (by
    rcases hrow.2 with ⟨rfl, _⟩ | ⟨g, cap, cur, rfl, hb, _, _⟩
    · exact .inl rfl
    · exact .inr (by simp [Value.ownBlock]))
theorem owns_cap {w : World} {base e size n : Nat} {v : Value} {xs : List Value} (h : w.ownsRow base e size v n xs) {C : Option Addr} {l cc : Nat} (hv : v = .slice C l cc) : l ≤ cc := by
  rcases h.2 with ⟨e1, _⟩ | ⟨g, cap, cur, e1, _, _, hle, _⟩
  · rw [hv] at e1; injection e1 with _ a b; omega
  · rw [hv] at e1; injection e1 with _ a b; omega
theorem cells_at {w : World} {b : Nat} (hb : w.heap.size = b) (t : Nat) (xs : List Value) : ∀ j u, xs[j]? = some u → (w.alloc (.cells xs.toArray t)).cell? ((⟨b, 0, none⟩ : Addr).add j) = some u := by
  subst hb
  intro j u hj
  rw [Addr.add_lit, World.cell?_alloc_new]
  simpa using hj
theorem below_own {W w1 : World} {n₀ e size k : Nat} {v : Value} {xs : List Value} (hrow : W.ownsRow n₀ e size v k xs) (hn₀ : n₀ ≤ W.heap.size) (hgrow : W.grownBy w1 v.ownBlock) : Below n₀ W w1 := by
  refine (Below.refl n₀ W).grown hgrow hn₀ fun j ej => ?_
  rcases hrow.2 with ⟨rfl, _⟩ | ⟨g, cap, cur, rfl, hb, _, _⟩
  · simp [Value.ownBlock] at ej
  · obtain rfl : g = j := by simpa [Value.ownBlock] using ej
    exact hb
theorem Reads.grown_off {w w' : World} {B size n : Nat} {b o : Nat} {xs : List Value} {row : Option Nat} (h : Reads w B size (some ⟨b, o, none⟩) n xs) (hB : B ≤ w.heap.size) (hg : w.grownBy w' row) (hr : row ≠ some b) : Reads w' w'.heap.size size (some ⟨b, o, none⟩) n xs := by
  refine ⟨h.1, fun hn => ?_⟩
  obtain ⟨ad, e, hb, hc⟩ := h.2 hn
  cases e
  have hb' : b < B := hb
  have hz : w.heap.size ≤ w'.heap.size := hg.size
  refine ⟨_, rfl, (show b < _ by omega), fun j u hj => ?_⟩
  rw [← hc j u hj, Addr.add_lit]
  exact Plan.grown_cells hg b _ (by omega) (fun e => hr e.symm)
theorem rowk_take {α : Type} {enc : α → List Value} {k : Nat} {w : World} {B : Nat} {C : Option Addr} {L : List α} (h : RowAt enc k w B C L) (c : Nat) : RowAt enc k w B C (L.take c) := fun hl => by
  rw [List.length_take] at hl
  obtain ⟨b, off, e, hb, hc⟩ := h (by omega)
  refine ⟨b, off, e, hb, fun i r hk => hc i r ?_⟩
  rw [List.getElem?_take] at hk
  split at hk
  · exact hk
  · cases hk
theorem rowk_drop {α : Type} {enc : α → List Value} {n : Nat} {w : World} {B b o : Nat} {L : List α} (h : RowAt enc n w B (some ⟨b, o, none⟩) L) {k cf : Nat} (hk : k ≤ L.length) (hcf : L.length ≤ cf) :
    RowAt enc n w B (if cf = k then some ⟨b, o, none⟩ else some ⟨b, o + k * n, none⟩) (L.drop k) := fun hl => by
  rw [List.length_drop] at hl
  rw [if_neg (by omega)]
  obtain ⟨b', off, e, hb, hc⟩ := h (by omega)
  obtain ⟨rfl, rfl⟩ : b = b' ∧ o = off := by simpa using e
  refine ⟨b, o + k * n, rfl, hb, fun j r hj i v hv => ?_⟩
  rw [List.getElem?_drop] at hj
  have := hc (k + j) r hj i v hv
  rwa [show o + k * n + (j * n + i) = o + ((k + j) * n + i) by rw [Nat.add_mul]; omega]
theorem below_new (w : World) (o : Obj) : Below w.heap.size w (w.alloc o) := (Below.refl _ _).alloc (Nat.le_refl _) _
end
end Go.Proofs.Ytmnimcdbfolhaaa
