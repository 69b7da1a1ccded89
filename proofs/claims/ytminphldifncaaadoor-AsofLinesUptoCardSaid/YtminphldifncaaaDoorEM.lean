/- Memory words: a slice of entries, of integers; rows that the call made of them. -/
import Derived.Test.YtminphldifncaaaDoorMem
import Derived.Test.YtminphldifncaaaDoorRows
import Derived.Test.YtminphldifncaaaDoorLE
import Derived.Test.YtminphldifncaaaDoorArr
import Derived.Test.YtminphldifncaaaDoorAppAny
import Derived.Deep.AppendLies
set_option linter.unusedSimpArgs false
set_option linter.unusedVariables false
namespace Go.Proofs.YtminphldifncaaaDoor
open Go.RowKit LG

theorem Tryd.infoInt : (Tryd.prog.info? 3).map (fun i => (i.zero, i.size, i.bytes)) = some (some (.int .i64 0), 1, 8) := by kernel_rfl
theorem Tryd.infoEntry : (Tryd.prog.info? 34).map (fun i => (i.zero, i.size, i.bytes)) = some (some (.agg #[.int .i64 0, .int .i64 0, .int .i64 0, .int .i64 0, .int .i64 0, .int .i64 0, .int .i64 0]), 7, 56) := by kernel_rfl
def BoolIs (b : Bool) (w : World) (e : Ending) (w' : World) : Prop := e = .returned (.bool b) ∧ Below w.heap.size w w'
def IntBe (n : Int) (w : World) (e : Ending) (w' : World) : Prop := e = .returned (.int .i64 n) ∧ Below w.heap.size w w'

def Et.cells (e : Et) : List Value := [.int .i64 e.day, .int .i64 e.known, .int .i64 e.owner, .int .i64 e.place, .int .i64 e.litres, .int .i64 e.why, .int .i64 e.ref]
def EntsAt (w : World) (B : Nat) (C : Option Addr) (A : List Et) : Prop :=
  0 < A.length → ∃ b off, C = some ⟨b, off, none⟩ ∧ b < B ∧ ∀ (k : Nat) (r : Et), A[k]? = some r → ∀ (j : Nat) (v : Value), r.cells[j]? = some v → w.cell? ⟨b, off + (k * 7 + j), none⟩ = some v
theorem EntsAt.below {w w' : World} {B : Nat} {C : Option Addr} {A : List Et} (h : EntsAt w B C A) (hb : Below B w w') : EntsAt w' B C A := fun hl => by
  obtain ⟨b, off, e, hlt, hc⟩ := h hl
  exact ⟨b, off, e, hlt, fun k r hk j v hj => (hb.cell (p := ⟨b, _, none⟩) hlt).trans (hc k r hk j v hj)⟩
theorem EntsAt.more {w : World} {B B' : Nat} {C : Option Addr} {A : List Et} (h : EntsAt w B C A) (hB : B ≤ B') : EntsAt w B' C A := fun hl => by
  obtain ⟨b, off, e, hlt, hc⟩ := h hl
  exact ⟨b, off, e, by omega, hc⟩
theorem EntsAt.nil (w : World) (B : Nat) (C : Option Addr) : EntsAt w B C [] := fun h => absurd h (by simp)
theorem EntsAt.at_ {w : World} {B : Nat} {C : Option Addr} {A : List Et} (h : EntsAt w B C A) {k : Nat} {r : Et} (hk : A[k]? = some r) : ∃ b off, C = some ⟨b, off, none⟩ ∧ b < B ∧
    w.cell? ⟨b, off + k * 7, none⟩ = some (.int .i64 r.day) ∧ w.cell? ⟨b, off + k * 7 + 1, none⟩ = some (.int .i64 r.known) ∧ w.cell? ⟨b, off + k * 7 + 2, none⟩ = some (.int .i64 r.owner) ∧
    w.cell? ⟨b, off + k * 7 + 3, none⟩ = some (.int .i64 r.place) ∧ w.cell? ⟨b, off + k * 7 + 4, none⟩ = some (.int .i64 r.litres) ∧ w.cell? ⟨b, off + k * 7 + 5, none⟩ = some (.int .i64 r.why) ∧
    w.cell? ⟨b, off + k * 7 + 6, none⟩ = some (.int .i64 r.ref) := by
  have hlt := (List.getElem?_eq_some_iff.1 hk).1
  obtain ⟨b, off, e, hb, hc⟩ := h (by omega)
  have g := hc k r hk
  exact ⟨b, off, e, hb, g 0 _ rfl, g 1 _ rfl, g 2 _ rfl, g 3 _ rfl, g 4 _ rfl, g 5 _ rfl, g 6 _ rfl⟩
/-- The cells of entries, one behind the other. -/
def rowE (A : List Et) : List Value := A.flatMap Et.cells
theorem rowE_snoc (A : List Et) (x : Et) : rowE (A ++ [x]) = rowE A ++ x.cells := by simp [rowE]
theorem rowE_append (A B : List Et) : rowE (A ++ B) = rowE A ++ rowE B := by simp [rowE]
theorem rowE_len (A : List Et) : (rowE A).length = A.length * 7 := by
  unfold rowE
  induction A with
  | nil => rfl
  | cons t ts ih => simp [List.flatMap_cons, Et.cells] at ih ⊢; omega
theorem rowE_one (A : List Et) : ∀ u ∈ rowE A, u.oneCell' = true := fun u hu => by
  obtain ⟨e, _, h⟩ := List.mem_flatMap.1 hu
  simp only [Et.cells, List.mem_cons, List.not_mem_nil, or_false] at h
  rcases h with rfl | rfl | rfl | rfl | rfl | rfl | rfl <;> rfl
theorem rowE_get : ∀ (A : List Et) (k : Nat) (r : Et), A[k]? = some r → ∀ j, j < 7 → (rowE A)[k * 7 + j]? = r.cells[j]?
  | [], k, r, h, _, _ => by simp at h
  | t :: ts, 0, r, h, j, hj => by
    obtain rfl : t = r := by simpa using h
    have e1 : rowE (t :: ts) = t.cells ++ rowE ts := rfl
    rw [e1, Nat.zero_mul, Nat.zero_add, List.getElem?_append_left (by simp [Et.cells]; omega)]
  | t :: ts, k + 1, r, h, j, hj => by
    have ih := rowE_get ts k r (by simpa using h) j hj
    have e1 : rowE (t :: ts) = t.cells ++ rowE ts := rfl
    have e2 : t.cells.length = 7 := rfl
    rw [e1, List.getElem?_append_right (by rw [e2]; omega), e2, show (k + 1) * 7 + j - 7 = k * 7 + j by omega]
    exact ih
/-- What the call has made of entries, read as a slice. -/
theorem ents_of_owns {w : World} {base e : Nat} {v : Value} {A : List Et} (h : w.ownsRow base e 7 v A.length (rowE A)) : ∃ C cc, v = .slice C A.length cc ∧ EntsAt w w.heap.size C A ∧ ∀ a, C = some a → base ≤ a.block := by
  obtain ⟨h1, ⟨rfl, h0⟩ | ⟨g, cap, cur, rfl, h2, h3, h4, h5, h6, h7⟩⟩ := h
  · obtain rfl : A = [] := List.eq_nil_of_length_eq_zero h0
    exact ⟨none, 0, rfl, EntsAt.nil _ _ _, fun a ha => by cases ha⟩
  · refine ⟨_, cap, rfl, fun _ => ⟨g, 0, rfl, ?_, fun k r hk j u hj => ?_⟩, fun a ha => by cases ha; exact h2⟩
    · rcases Nat.lt_or_ge g w.heap.size with h | h
      · exact h
      · rw [Array.getElem?_eq_none h] at h3; cases h3
    · have hk7 := (List.getElem?_eq_some_iff.1 hk).1
      have hj7 : j < 7 := (List.getElem?_eq_some_iff.1 hj).1
      have hl : k * 7 + j < A.length * 7 := by omega
      rw [Nat.zero_add, cell_of_row w g _ cur e (0, 0) h3]
      have := rowE_get A k r hk j hj7
      rw [hj, ← h7, List.getElem?_take_of_lt hl] at this
      simpa using this
/-- .. as an array that may be written. -/
theorem entsArr_of_owns {w : World} {base e : Nat} {v : Value} {A : List Et} (hn : A.length ≠ 0) (h : w.ownsRow base e 7 v A.length (rowE A)) :
    ∃ g cc, v = .slice (some ⟨g, 0, none⟩) A.length cc ∧ base ≤ g ∧ g < w.heap.size ∧ ∀ k r, A[k]? = some r → ∀ j u, r.cells[j]? = some u → w.cell? ⟨g, k * 7 + j, none⟩ = some u ∧ w.frozen? ⟨g, k * 7 + j, none⟩ = false := by
  obtain ⟨h1, ⟨rfl, h0⟩ | ⟨g, cap, cur, rfl, h2, h3, h4, h5, h6, h7⟩⟩ := h
  · exact absurd h0 hn
  · refine ⟨g, cap, rfl, h2, ?_, fun k r hk j u hj => ⟨?_, ?_⟩⟩
    · rcases Nat.lt_or_ge g w.heap.size with h | h
      · exact h
      · rw [Array.getElem?_eq_none h] at h3; cases h3
    · have hk7 := (List.getElem?_eq_some_iff.1 hk).1
      have hj7 : j < 7 := (List.getElem?_eq_some_iff.1 hj).1
      have hl : k * 7 + j < A.length * 7 := by omega
      rw [cell_of_row w g _ cur e (0, 0) h3]
      have := rowE_get A k r hk j hj7
      rw [hj, ← h7, List.getElem?_take_of_lt hl] at this
      simpa using this
    · simp [World.frozen?, h3]
theorem reads_ents {w : World} {B : Nat} {C : Option Addr} {A : List Et} (h : EntsAt w B C A) : Reads w B 7 C A.length (rowE A) := by
  refine ⟨by rw [rowE_len], fun hl => ?_⟩
  obtain ⟨b, off, rfl, hb, hc⟩ := h hl
  refine ⟨_, rfl, hb, fun j u hj => ?_⟩
  have hlt : j < A.length * 7 := by have := (List.getElem?_eq_some_iff.1 hj).1; rw [rowE_len] at this; exact this
  obtain ⟨r, hr⟩ : ∃ r, A[j / 7]? = some r := ⟨_, List.getElem?_eq_getElem (by omega)⟩
  have e := rowE_get A (j / 7) r hr (j % 7) (by omega)
  rw [show j / 7 * 7 + j % 7 = j by omega, hj] at e
  rw [Addr.add_lit]
  have := hc (j / 7) r hr (j % 7) u e.symm
  rwa [show j / 7 * 7 + j % 7 = j by omega] at this
theorem ints_of_owns {w : World} {base e : Nat} {v : Value} {A : List Int} (h : w.ownsRow base e 1 v A.length (A.map (Value.int .i64))) : ∃ C cc, v = .slice C A.length cc ∧ IntsAt w w.heap.size C A := by
  obtain ⟨h1, ⟨rfl, h0⟩ | ⟨g, cap, cur, rfl, h2, h3, h4, h5, h6, h7⟩⟩ := h
  · obtain rfl : A = [] := List.eq_nil_of_length_eq_zero h0
    exact ⟨none, 0, rfl, fun h => absurd h (by simp)⟩
  · refine ⟨_, cap, rfl, fun _ => ⟨g, 0, rfl, ?_, fun j hj => ?_⟩⟩
    · rcases Nat.lt_or_ge g w.heap.size with h | h
      · exact h
      · rw [Array.getElem?_eq_none h] at h3; cases h3
    · rw [Nat.zero_add, cell_of_row w g j cur e (0, 0) h3]
      have : (A.map (Value.int .i64))[j]? = some (intF A j) := by simp [intF, List.getD_eq_getElem?_getD, hj]
      rw [← h7, List.getElem?_take_of_lt (by omega)] at this
      simpa using this
theorem IntsAt.at_ {w : World} {B : Nat} {C : Option Addr} {A : List Int} (h : IntsAt w B C A) {k : Nat} {x : Int} (hk : A[k]? = some x) : ∃ b off, C = some ⟨b, off, none⟩ ∧ b < B ∧ w.cell? ⟨b, off + k, none⟩ = some (.int .i64 x) := by
  have hlt := (List.getElem?_eq_some_iff.1 hk).1
  obtain ⟨b, off, e, hb, hc⟩ := h (by omega)
  refine ⟨b, off, e, hb, ?_⟩
  rw [hc k hlt]
  simp [intF, List.getD_eq_getElem?_getD, hk]
theorem IntsAt.below {w w' : World} {B : Nat} {C : Option Addr} {A : List Int} (h : IntsAt w B C A) (hb : Below B w w') : IntsAt w' B C A := CellsAt.below h hb
theorem IntsAt.more {w : World} {B B' : Nat} {C : Option Addr} {A : List Int} (h : IntsAt w B C A) (hB : B ≤ B') : IntsAt w B' C A := CellsAt.more h hB
theorem below_app {W w1 : World} {n₀ e size k : Nat} {v : Value} {xs : List Value} {tmp : Obj} (hrow : W.ownsRow n₀ e size v k xs) (hn₀ : n₀ ≤ W.heap.size) (hgrow : (W.alloc tmp).grownBy w1 v.ownBlock) : Below n₀ W w1 := by
  refine ((Below.refl n₀ W).alloc hn₀ tmp).grown hgrow (by simp; omega) fun j ej => ?_
  rcases hrow.2 with ⟨rfl, _⟩ | ⟨g, cap, cur, rfl, hb, _, _⟩
  · simp [Value.ownBlock] at ej
  · obtain rfl : g = j := by simpa [Value.ownBlock] using ej
    exact hb
theorem row_below {W w1 : World} {n₀ e size k : Nat} {v : Value} {xs : List Value} (hrow : W.ownsRow n₀ e size v k xs) (hb : Below W.heap.size W w1) : w1.ownsRow n₀ e size v k xs :=
  hrow.kept (row := none) ⟨hb.os, hb.tape, hb.output, hb.size, fun j hj _ => hb.block j hj⟩ (by
    rcases hrow.2 with ⟨rfl, _⟩ | ⟨g, cap, cur, rfl, hb, _, _⟩
    · exact .inl rfl
    · exact .inr (by simp [Value.ownBlock]))
theorem owns_cap {w : World} {base e size n : Nat} {v : Value} {xs : List Value} (h : w.ownsRow base e size v n xs) {C : Option Addr} {l cc : Nat} (hv : v = .slice C l cc) : l ≤ cc := by
  rcases h.2 with ⟨e1, _⟩ | ⟨g, cap, cur, e1, _, _, hle, _⟩
  · rw [hv] at e1; injection e1 with _ a b; omega
  · rw [hv] at e1; injection e1 with _ a b; omega
end Go.Proofs.YtminphldifncaaaDoor
