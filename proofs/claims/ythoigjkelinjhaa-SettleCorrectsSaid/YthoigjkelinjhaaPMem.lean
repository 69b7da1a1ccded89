/- Memory words: pairs of integers, rights, places. -/
import Derived.Test.YthoigjkelinjhaaMem
import Derived.Test.YthoigjkelinjhaaCM
import Derived.Test.YthoigjkelinjhaaRM
set_option linter.unusedSimpArgs false
set_option linter.unusedVariables false
namespace Go.Proofs.Ythoigjkelinjhaa
open Go.RowKit CM

theorem ret_bool' {a b : Bool} (h : a = b) : Ending.returned (.bool a) = .returned (.bool b) := by rw [h]
/-- A slice of pairs of integers. -/
def pairF (A : List (Int × Int)) (j : Nat) : Value := match j % 2 with | 0 => .int .i64 (A.getD (j / 2) (0, 0)).1 | _ => .int .i64 (A.getD (j / 2) (0, 0)).2
def PairsAt (w : World) (B : Nat) (C : Option Addr) (A : List (Int × Int)) : Prop := CellsAt w B C (2 * A.length) (pairF A)
theorem PairsAt.at_ {w : World} {B : Nat} {C : Option Addr} {A : List (Int × Int)} (h : PairsAt w B C A) {k : Nat} {x : Int × Int} (hk : A[k]? = some x) : ∃ b off, C = some ⟨b, off, none⟩ ∧ b < B ∧
    w.cell? ⟨b, off + k * 2, none⟩ = some (.int .i64 x.1) ∧ w.cell? ⟨b, off + k * 2 + 1, none⟩ = some (.int .i64 x.2) := by
  have hlt := (List.getElem?_eq_some_iff.1 hk).1
  obtain ⟨b, off, e, hb, hc⟩ := h (by omega)
  have c0 := hc (k * 2) (by omega)
  have c1 := hc (k * 2 + 1) (by omega)
  have m0 : (k * 2) % 2 = 0 := by omega
  have m1 : (k * 2 + 1) % 2 = 1 := by omega
  have d0 : (k * 2) / 2 = k := by omega
  have d1 : (k * 2 + 1) / 2 = k := by omega
  have hx : A.getD k (0, 0) = x := by rw [List.getD_eq_getElem?_getD, hk]; rfl
  simp only [pairF, m0, m1, d0, d1, hx] at c0 c1
  exact ⟨b, off, e, hb, c0, c1⟩
theorem PairsAt.below {w w' : World} {B : Nat} {C : Option Addr} {A : List (Int × Int)} (h : PairsAt w B C A) (hb : Below B w w') : PairsAt w' B C A := CellsAt.below h hb
theorem PairsAt.more {w : World} {B B' : Nat} {C : Option Addr} {A : List (Int × Int)} (h : PairsAt w B C A) (hB : B ≤ B') : PairsAt w B' C A := CellsAt.more h hB
def pairC (x : Int × Int) : List Value := [.int .i64 x.1, .int .i64 x.2]
def rowP (A : List (Int × Int)) : List Value := A.flatMap pairC
theorem rowP_snoc (A : List (Int × Int)) (x : Int × Int) : rowP (A ++ [x]) = rowP A ++ pairC x := by simp [rowP]
theorem rowP_len (A : List (Int × Int)) : (rowP A).length = A.length * 2 := by
  unfold rowP
  induction A with
  | nil => rfl
  | cons t ts ih => simp [List.flatMap_cons, pairC] at ih ⊢; omega
theorem rowP_get : ∀ (A : List (Int × Int)) (j : Nat), j < A.length * 2 → (rowP A)[j]? = some (pairF A j)
  | [], j, h => by simp at h
  | t :: ts, 0, _ => rfl
  | t :: ts, 1, _ => rfl
  | t :: ts, j + 2, h => by
    have ih := rowP_get ts j (by simp at h; omega)
    have e1 : rowP (t :: ts) = pairC t ++ rowP ts := rfl
    rw [e1, List.getElem?_append_right (by simp [pairC])]
    rw [show j + 2 - (pairC t).length = j by simp [pairC], ih]
    congr 1
    unfold pairF
    rw [show (j + 2) % 2 = j % 2 by omega, show (j + 2) / 2 = j / 2 + 1 by omega]
    rfl
/-- What the call has made of pairs, read as a slice. -/
theorem pairs_of_owns {w : World} {base e : Nat} {v : Value} {A : List (Int × Int)} (h : w.ownsRow base e 2 v A.length (rowP A)) : ∃ C cc, v = .slice C A.length cc ∧ PairsAt w w.heap.size C A := by
  obtain ⟨h1, ⟨rfl, h0⟩ | ⟨g, cap, cur, rfl, h2, h3, h4, h5, h6, h7⟩⟩ := h
  · obtain rfl : A = [] := List.eq_nil_of_length_eq_zero h0
    exact ⟨none, 0, rfl, fun h => absurd h (by simp)⟩
  · refine ⟨_, cap, rfl, fun _ => ⟨g, 0, rfl, ?_, fun j hj => ?_⟩⟩
    · rcases Nat.lt_or_ge g w.heap.size with h | h
      · exact h
      · rw [Array.getElem?_eq_none h] at h3; cases h3
    · have hj : j < A.length * 2 := by omega
      rw [Nat.zero_add, cell_of_row w g j cur e (0, 0) h3]
      have := rowP_get A j hj
      rw [← h7, List.getElem?_take_of_lt hj] at this
      simpa using this
theorem ints_of_owns {w : World} {base e : Nat} {v : Value} {A : List Int} (h : w.ownsRow base e 1 v A.length (A.map (Value.int .i64))) : ∃ C cc, v = .slice C A.length cc ∧ IntsAt w w.heap.size C A := by
  obtain ⟨h1, ⟨rfl, h0⟩ | ⟨g, cap, cur, rfl, h2, h3, h4, h5, h6, h7⟩⟩ := h
  · obtain rfl : A = [] := List.eq_nil_of_length_eq_zero h0
    exact ⟨none, 0, rfl, fun h => absurd h (by simp)⟩
  · refine ⟨_, cap, rfl, fun _ => ⟨g, 0, rfl, ?_, fun j hj => ?_⟩⟩
    · rcases Nat.lt_or_ge g w.heap.size with h | h
      · exact h
      · rw [Array.getElem?_eq_none h] at h3; cases h3
    · rw [Nat.zero_add, cell_of_row w g j cur e (0, 0) h3]
      have : (A.map (Value.int .i64))[j]? = some (intF A j) := by simp [intF, List.getD_eq_getElem?_getD, hj]
      rw [← h7, List.getElem?_take_of_lt (by omega)] at this
      simpa using this
theorem IntsAt.at_ {w : World} {B : Nat} {C : Option Addr} {A : List Int} (h : IntsAt w B C A) {k : Nat} {x : Int} (hk : A[k]? = some x) : ∃ b off, C = some ⟨b, off, none⟩ ∧ b < B ∧ w.cell? ⟨b, off + k, none⟩ = some (.int .i64 x) := by
  have hlt := (List.getElem?_eq_some_iff.1 hk).1
  obtain ⟨b, off, e, hb, hc⟩ := h (by omega)
  refine ⟨b, off, e, hb, ?_⟩
  rw [hc k hlt]
  simp [intF, List.getD_eq_getElem?_getD, hk]
theorem IntsAt.below {w w' : World} {B : Nat} {C : Option Addr} {A : List Int} (h : IntsAt w B C A) (hb : Below B w w') : IntsAt w' B C A := CellsAt.below h hb
theorem IntsAt.more {w : World} {B B' : Nat} {C : Option Addr} {A : List Int} (h : IntsAt w B C A) (hB : B ≤ B') : IntsAt w B' C A := CellsAt.more h hB
def CM.Rt.cells (r : Rt) : List Value := [.int .i64 r.id, .int .i64 r.owner, .int .i64 r.date, .int .i64 r.place, .int .i64 r.rate, .int .i64 r.from1, .int .i64 r.until1, .int .i64 r.back, .int .i64 r.backTo]
def RightsAt (w : World) (B : Nat) (C : Option Addr) (A : List Rt) : Prop :=
  0 < A.length → ∃ b off, C = some ⟨b, off, none⟩ ∧ b < B ∧ ∀ (k : Nat) (r : Rt), A[k]? = some r → ∀ (j : Nat) (v : Value), r.cells[j]? = some v → w.cell? ⟨b, off + (k * 9 + j), none⟩ = some v
theorem RightsAt.below {w w' : World} {B : Nat} {C : Option Addr} {A : List Rt} (h : RightsAt w B C A) (hb : Below B w w') : RightsAt w' B C A := fun hl => by
  obtain ⟨b, off, e, hlt, hc⟩ := h hl
  exact ⟨b, off, e, hlt, fun k r hk j v hj => (hb.cell (p := ⟨b, _, none⟩) hlt).trans (hc k r hk j v hj)⟩
theorem RightsAt.more {w : World} {B B' : Nat} {C : Option Addr} {A : List Rt} (h : RightsAt w B C A) (hB : B ≤ B') : RightsAt w B' C A := fun hl => by
  obtain ⟨b, off, e, hlt, hc⟩ := h hl
  exact ⟨b, off, e, by omega, hc⟩
theorem RightsAt.at_ {w : World} {B : Nat} {C : Option Addr} {A : List Rt} (h : RightsAt w B C A) {k : Nat} {r : Rt} (hk : A[k]? = some r) : ∃ b off, C = some ⟨b, off, none⟩ ∧ b < B ∧
    w.cell? ⟨b, off + k * 9, none⟩ = some (.int .i64 r.id) ∧ w.cell? ⟨b, off + k * 9 + 1, none⟩ = some (.int .i64 r.owner) ∧ w.cell? ⟨b, off + k * 9 + 2, none⟩ = some (.int .i64 r.date) ∧
    w.cell? ⟨b, off + k * 9 + 3, none⟩ = some (.int .i64 r.place) ∧ w.cell? ⟨b, off + k * 9 + 4, none⟩ = some (.int .i64 r.rate) ∧ w.cell? ⟨b, off + k * 9 + 5, none⟩ = some (.int .i64 r.from1) ∧
    w.cell? ⟨b, off + k * 9 + 6, none⟩ = some (.int .i64 r.until1) ∧ w.cell? ⟨b, off + k * 9 + 7, none⟩ = some (.int .i64 r.back) ∧ w.cell? ⟨b, off + k * 9 + 8, none⟩ = some (.int .i64 r.backTo) := by
  have hlt := (List.getElem?_eq_some_iff.1 hk).1
  obtain ⟨b, off, e, hb, hc⟩ := h (by omega)
  have g := hc k r hk
  exact ⟨b, off, e, hb, g 0 _ rfl, g 1 _ rfl, g 2 _ rfl, g 3 _ rfl, g 4 _ rfl, g 5 _ rfl, g 6 _ rfl, g 7 _ rfl, g 8 _ rfl⟩
/-- The places of a basin: of each, where its water goes and how long it takes. -/
def PlacesAt (w : World) (B : Nat) (C : Option Addr) (pl : Pl) : Prop :=
  0 < pl.length → ∃ b off, C = some ⟨b, off, none⟩ ∧ b < B ∧ ∀ k, k < pl.length → w.cell? ⟨b, off + k * 12 + 8, none⟩ = some (.int .i64 (downP pl k)) ∧ w.cell? ⟨b, off + k * 12 + 9, none⟩ = some (.int .i64 (delayP pl k))
theorem PlacesAt.below {w w' : World} {B : Nat} {C : Option Addr} {pl : Pl} (h : PlacesAt w B C pl) (hb : Below B w w') : PlacesAt w' B C pl := fun hl => by
  obtain ⟨b, off, e, hlt, hc⟩ := h hl
  exact ⟨b, off, e, hlt, fun k hk => ⟨(hb.cell (p := ⟨b, _, none⟩) hlt).trans (hc k hk).1, (hb.cell (p := ⟨b, _, none⟩) hlt).trans (hc k hk).2⟩⟩
theorem PlacesAt.more {w : World} {B B' : Nat} {C : Option Addr} {pl : Pl} (h : PlacesAt w B C pl) (hB : B ≤ B') : PlacesAt w B' C pl := fun hl => by
  obtain ⟨b, off, e, hlt, hc⟩ := h hl
  exact ⟨b, off, e, by omega, hc⟩
/-- A basin by value: its eleven fields. -/
structure Bas where
  nm : ByteArray
  a1 : Option Addr
  l1 : Nat
  c1 : Nat
  cl : Int
  P : Option Addr
  cP : Nat
  a4 : Option Addr
  l4 : Nat
  c4 : Nat
  a5 : Option Addr
  l5 : Nat
  c5 : Nat
  a6 : Option Addr
  l6 : Nat
  c6 : Nat
  a7 : Option Addr
  l7 : Nat
  c7 : Nat
  a8 : Option Addr
  l8 : Nat
  c8 : Nat
  a9 : Option Addr
  l9 : Nat
  c9 : Nat
  er : Int
end Go.Proofs.Ythoigjkelinjhaa
