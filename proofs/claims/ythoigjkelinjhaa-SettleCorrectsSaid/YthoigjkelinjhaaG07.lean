/- Joined of: LDEM LDW1 LDS1 LDS2 LDW2 LDW3 LDW4 LDW5 LDW6 LDW7 LDPL LDGX LDGP LDW12. -/
import Derived.Deep.AppendLies
import Derived.Shelf.Spec.BitsCarry
import Derived.Shelf.Spec.SlicesGrow
import Derived.WideKeyEntry
import Derived.Maps.RangeRun
import Derived.Laws.StructEq
import Derived.Test.YthoigjkelinjhaaPMem
import Derived.Test.YthoigjkelinjhaaRowK
import Derived.Test.YthoigjkelinjhaaRows
import Derived.Test.YthoigjkelinjhaaLE
import Derived.Test.YthoigjkelinjhaaArr
import Derived.Test.YthoigjkelinjhaaAppAny
import Derived.Test.YthoigjkelinjhaaMakeRow
import Derived.Test.YthoigjkelinjhaaPlanB
import Derived.Test.YthoigjkelinjhaaG06
/- Memory words: a slice of entries, of integers; rows that the call made of them. -/
set_option linter.unusedSimpArgs false
set_option linter.unusedVariables false
namespace Go.Proofs.Ythoigjkelinjhaa.LD
set_option maxRecDepth 100000
open Go.RowKit LG

theorem Try.infoInt : (Try.prog.info? 3).map (fun i => (i.zero, i.size, i.bytes)) = some (some (.int .i64 0), 1, 8) := by kernel_rfl
theorem Try.infoEntry : (Try.prog.info? 46).map (fun i => (i.zero, i.size, i.bytes)) = some (some (.agg #[.int .i64 0, .int .i64 0, .int .i64 0, .int .i64 0, .int .i64 0, .int .i64 0, .int .i64 0]), 7, 56) := by kernel_rfl
def BoolIs (b : Bool) (w : World) (e : Ending) (w' : World) : Prop := e = .returned (.bool b) ∧ Below w.heap.size w w'
def IntBe (n : Int) (w : World) (e : Ending) (w' : World) : Prop := e = .returned (.int .i64 n) ∧ Below w.heap.size w w'

def Et.cells (e : Et) : List Value := [.int .i64 e.day, .int .i64 e.known, .int .i64 e.owner, .int .i64 e.place, .int .i64 e.litres, .int .i64 e.why, .int .i64 e.ref]
def EntsAt (w : World) (B : Nat) (C : Option Addr) (A : List Et) : Prop :=
  0 < A.length → ∃ b off, C = some ⟨b, off, none⟩ ∧ b < B ∧ ∀ (k : Nat) (r : Et), A[k]? = some r → ∀ (j : Nat) (v : Value), r.cells[j]? = some v → w.cell? ⟨b, off + (k * 7 + j), none⟩ = some v
theorem EntsAt.below {w w' : World} {B : Nat} {C : Option Addr} {A : List Et} (h : EntsAt w B C A) (hb : Below B w w') : EntsAt w' B C A := fun hl => by
  obtain ⟨b, off, e, hlt, hc⟩ := h hl
  exact ⟨b, off, e, hlt, fun k r hk j v hj => (hb.cell (p := ⟨b, _, none⟩) hlt).trans (hc k r hk j v hj)⟩
theorem EntsAt.more {w : World} {B B' : Nat} {C : Option Addr} {A : List Et} (h : EntsAt w B C A) (hB : B ≤ B') : EntsAt w B' C A := fun hl => by
  obtain ⟨b, off, e, hlt, hc⟩ := h hl
  exact ⟨b, off, e, by omega, hc⟩
theorem EntsAt.nil (w : World) (B : Nat) (C : Option Addr) : EntsAt w B C [] := fun h => absurd h (by simp)
theorem EntsAt.at_ {w : World} {B : Nat} {C : Option Addr} {A : List Et} (h : EntsAt w B C A) {k : Nat} {r : Et} (hk : A[k]? = some r) : ∃ b off, C = some ⟨b, off, none⟩ ∧ b < B ∧
    w.cell? ⟨b, off + k * 7, none⟩ = some (.int .i64 r.day) ∧ w.cell? ⟨b, off + k * 7 + 1, none⟩ = some (.int .i64 r.known) ∧ w.cell? ⟨b, off + k * 7 + 2, none⟩ = some (.int .i64 r.owner) ∧
    w.cell? ⟨b, off + k * 7 + 3, none⟩ = some (.int .i64 r.place) ∧ w.cell? ⟨b, off + k * 7 + 4, none⟩ = some (.int .i64 r.litres) ∧ w.cell? ⟨b, off + k * 7 + 5, none⟩ = some (.int .i64 r.why) ∧
    w.cell? ⟨b, off + k * 7 + 6, none⟩ = some (.int .i64 r.ref) := by
  have hlt := (List.getElem?_eq_some_iff.1 hk).1
  obtain ⟨b, off, e, hb, hc⟩ := h (by omega)
  have g := hc k r hk
  exact ⟨b, off, e, hb, g 0 _ rfl, g 1 _ rfl, g 2 _ rfl, g 3 _ rfl, g 4 _ rfl, g 5 _ rfl, g 6 _ rfl⟩
/-- The cells of entries, one behind the other. -/
def rowE (A : List Et) : List Value := A.flatMap Et.cells
theorem rowE_snoc (A : List Et) (x : Et) : rowE (A ++ [x]) = rowE A ++ x.cells := by simp [rowE]
theorem rowE_append (A B : List Et) : rowE (A ++ B) = rowE A ++ rowE B := by simp [rowE]
theorem rowE_len (A : List Et) : (rowE A).length = A.length * 7 := by
  unfold rowE
  induction A with
  | nil => rfl
  | cons t ts ih => simp [List.flatMap_cons, Et.cells] at ih ⊢; omega
theorem rowE_one (A : List Et) : ∀ u ∈ rowE A, u.oneCell' = true := fun u hu => by
  obtain ⟨e, _, h⟩ := List.mem_flatMap.1 hu
  simp only [Et.cells, List.mem_cons, List.not_mem_nil, or_false] at h
  rcases h with rfl | rfl | rfl | rfl | rfl | rfl | rfl <;> rfl
theorem rowE_get : ∀ (A : List Et) (k : Nat) (r : Et), A[k]? = some r → ∀ j, j < 7 → (rowE A)[k * 7 + j]? = r.cells[j]?
  | [], k, r, h, _, _ => by simp at h
  | t :: ts, 0, r, h, j, hj => by
    obtain rfl : t = r := by simpa using h
    have e1 : rowE (t :: ts) = t.cells ++ rowE ts := rfl
    rw [e1, Nat.zero_mul, Nat.zero_add, List.getElem?_append_left (by simp [Et.cells]; omega)]
  | t :: ts, k + 1, r, h, j, hj => by
    have ih := rowE_get ts k r (by simpa using h) j hj
    have e1 : rowE (t :: ts) = t.cells ++ rowE ts := rfl
    have e2 : t.cells.length = 7 := rfl
    rw [e1, List.getElem?_append_right (by rw [e2]; omega), e2, show (k + 1) * 7 + j - 7 = k * 7 + j by omega]
    exact ih
/-- What the call has made of entries, read as a slice. -/
theorem ents_of_owns {w : World} {base e : Nat} {v : Value} {A : List Et} (h : w.ownsRow base e 7 v A.length (rowE A)) : ∃ C cc, v = .slice C A.length cc ∧ EntsAt w w.heap.size C A ∧ ∀ a, C = some a → base ≤ a.block := by
  obtain ⟨h1, ⟨rfl, h0⟩ | ⟨g, cap, cur, rfl, h2, h3, h4, h5, h6, h7⟩⟩ := h
  · obtain rfl : A = [] := List.eq_nil_of_length_eq_zero h0
    exact ⟨none, 0, rfl, EntsAt.nil _ _ _, fun a ha => by cases ha⟩
  · refine ⟨_, cap, rfl, fun _ => ⟨g, 0, rfl, ?_, fun k r hk j u hj => ?_⟩, fun a ha => by cases ha; exact h2⟩
    · rcases Nat.lt_or_ge g w.heap.size with h | h
      · exact h
      · rw [Array.getElem?_eq_none h] at h3; cases h3
    · have hk7 := (List.getElem?_eq_some_iff.1 hk).1
      have hj7 : j < 7 := (List.getElem?_eq_some_iff.1 hj).1
      have hl : k * 7 + j < A.length * 7 := by omega
      rw [Nat.zero_add, cell_of_row w g _ cur e (0, 0) h3]
      have := rowE_get A k r hk j hj7
      rw [hj, ← h7, List.getElem?_take_of_lt hl] at this
      simpa using this
/-- .. as an array that may be written. -/
theorem entsArr_of_owns {w : World} {base e : Nat} {v : Value} {A : List Et} (hn : A.length ≠ 0) (h : w.ownsRow base e 7 v A.length (rowE A)) :
    ∃ g cc, v = .slice (some ⟨g, 0, none⟩) A.length cc ∧ base ≤ g ∧ g < w.heap.size ∧ ∀ k r, A[k]? = some r → ∀ j u, r.cells[j]? = some u → w.cell? ⟨g, k * 7 + j, none⟩ = some u ∧ w.frozen? ⟨g, k * 7 + j, none⟩ = false := by
  obtain ⟨h1, ⟨rfl, h0⟩ | ⟨g, cap, cur, rfl, h2, h3, h4, h5, h6, h7⟩⟩ := h
  · exact absurd h0 hn
  · refine ⟨g, cap, rfl, h2, ?_, fun k r hk j u hj => ⟨?_, ?_⟩⟩
    · rcases Nat.lt_or_ge g w.heap.size with h | h
      · exact h
      · rw [Array.getElem?_eq_none h] at h3; cases h3
    · have hk7 := (List.getElem?_eq_some_iff.1 hk).1
      have hj7 : j < 7 := (List.getElem?_eq_some_iff.1 hj).1
      have hl : k * 7 + j < A.length * 7 := by omega
      rw [cell_of_row w g _ cur e (0, 0) h3]
      have := rowE_get A k r hk j hj7
      rw [hj, ← h7, List.getElem?_take_of_lt hl] at this
      simpa using this
    · simp [World.frozen?, h3]
theorem reads_ents {w : World} {B : Nat} {C : Option Addr} {A : List Et} (h : EntsAt w B C A) : Reads w B 7 C A.length (rowE A) := by
  refine ⟨by rw [rowE_len], fun hl => ?_⟩
  obtain ⟨b, off, rfl, hb, hc⟩ := h hl
  refine ⟨_, rfl, hb, fun j u hj => ?_⟩
  have hlt : j < A.length * 7 := by have := (List.getElem?_eq_some_iff.1 hj).1; rw [rowE_len] at this; exact this
  obtain ⟨r, hr⟩ : ∃ r, A[j / 7]? = some r := ⟨_, List.getElem?_eq_getElem (by omega)⟩
  have e := rowE_get A (j / 7) r hr (j % 7) (by omega)
  rw [show j / 7 * 7 + j % 7 = j by omega, hj] at e
  rw [Addr.add_lit]
  have := hc (j / 7) r hr (j % 7) u e.symm
  rwa [show j / 7 * 7 + j % 7 = j by omega] at this
theorem ints_of_owns {w : World} {base e : Nat} {v : Value} {A : List Int} (h : w.ownsRow base e 1 v A.length (A.map (Value.int .i64))) : ∃ C cc, v = .slice C A.length cc ∧ IntsAt w w.heap.size C A := by
  obtain ⟨h1, ⟨rfl, h0⟩ | ⟨g, cap, cur, rfl, h2, h3, h4, h5, h6, h7⟩⟩ := h
  · obtain rfl : A = [] := List.eq_nil_of_length_eq_zero h0
    exact ⟨none, 0, rfl, fun h => absurd h (by simp)⟩
  · refine ⟨_, cap, rfl, fun _ => ⟨g, 0, rfl, ?_, fun j hj => ?_⟩⟩
    · rcases Nat.lt_or_ge g w.heap.size with h | h
      · exact h
      · rw [Array.getElem?_eq_none h] at h3; cases h3
    · rw [Nat.zero_add, cell_of_row w g j cur e (0, 0) h3]
      have : (A.map (Value.int .i64))[j]? = some (intF A j) := by simp [intF, List.getD_eq_getElem?_getD, hj]
      rw [← h7, List.getElem?_take_of_lt (by omega)] at this
      simpa using this
theorem IntsAt.at_ {w : World} {B : Nat} {C : Option Addr} {A : List Int} (h : IntsAt w B C A) {k : Nat} {x : Int} (hk : A[k]? = some x) : ∃ b off, C = some ⟨b, off, none⟩ ∧ b < B ∧ w.cell? ⟨b, off + k, none⟩ = some (.int .i64 x) := by
  have hlt := (List.getElem?_eq_some_iff.1 hk).1
  obtain ⟨b, off, e, hb, hc⟩ := h (by omega)
  refine ⟨b, off, e, hb, ?_⟩
  rw [hc k hlt]
  simp [intF, List.getD_eq_getElem?_getD, hk]
theorem IntsAt.below {w w' : World} {B : Nat} {C : Option Addr} {A : List Int} (h : IntsAt w B C A) (hb : Below B w w') : IntsAt w' B C A := CellsAt.below h hb
theorem IntsAt.more {w : World} {B B' : Nat} {C : Option Addr} {A : List Int} (h : IntsAt w B C A) (hB : B ≤ B') : IntsAt w B' C A := CellsAt.more h hB
theorem below_app {W w1 : World} {n₀ e size k : Nat} {v : Value} {xs : List Value} {tmp : Obj} (hrow : W.ownsRow n₀ e size v k xs) (hn₀ : n₀ ≤ W.heap.size) (hgrow : (W.alloc tmp).grownBy w1 v.ownBlock) : Below n₀ W w1 := by
  refine ((Below.refl n₀ W).alloc hn₀ tmp).grown hgrow (by simp; omega) fun j ej => ?_
  rcases hrow.2 with ⟨rfl, _⟩ | ⟨g, cap, cur, rfl, hb, _, _⟩
  · simp [Value.ownBlock] at ej
  · obtain rfl : g = j := by simpa [Value.ownBlock] using ej
    exact hb
theorem row_below {W w1 : World} {n₀ e size k : Nat} {v : Value} {xs : List Value} (hrow : W.ownsRow n₀ e size v k xs) (hb : Below W.heap.size W w1) : w1.ownsRow n₀ e size v k xs :=
  hrow.kept (row := none) ⟨hb.os, hb.tape, hb.output, hb.size, fun j hj _ => hb.block j hj⟩ (by
    rcases hrow.2 with ⟨rfl, _⟩ | ⟨g, cap, cur, rfl, hb, _, _⟩
    · exact .inl rfl
    · exact .inr (by simp [Value.ownBlock]))
theorem owns_cap {w : World} {base e size n : Nat} {v : Value} {xs : List Value} (h : w.ownsRow base e size v n xs) {C : Option Addr} {l cc : Nat} (hv : v = .slice C l cc) : l ≤ cc := by
  rcases h.2 with ⟨e1, _⟩ | ⟨g, cap, cur, e1, _, _, hle, _⟩
  · rw [hv] at e1; injection e1 with _ a b; omega
  · rw [hv] at e1; injection e1 with _ a b; omega
end Go.Proofs.Ythoigjkelinjhaa.LD

/- Walks of within and of both tests of an entry. -/
namespace Go.Proofs.Ythoigjkelinjhaa.LD
set_option maxRecDepth 100000
open Go.RowKit LG
attribute [local go_sem] alloc_drewN setCell_drewN shape_drewN

theorem within_any (n a b : Int) (w : World) : Calls Try.prog 60 #[.int .i64 n, .int .i64 a, .int .i64 b] w fun e w' => e = .returned (.bool (wit n a b)) ∧ w = w' := by
  by_cases h1 : a ≤ n
  · by_cases h2 : n ≤ b
    · have e1 := decide_eq_true h1; have e2 := decide_eq_true h2
      go_enter Try.func60, Try.ntmps60
      go_wp2_with fail
      go_ret
      exact ⟨ret_bool (by rw [Bool.eq_iff_iff]; simp [wit]; omega), rfl⟩
    · have e1 := decide_eq_true h1; have e2 := decide_eq_false h2
      go_enter Try.func60, Try.ntmps60
      go_wp2_with fail
      go_ret
      exact ⟨ret_bool (by rw [Bool.eq_iff_iff]; simp [wit]; omega), rfl⟩
  · have e1 := decide_eq_false h1
    go_enter Try.func60, Try.ntmps60
    go_wp2_with fail
    go_ret
    exact ⟨ret_bool (by rw [Bool.eq_iff_iff]; simp [wit]; omega), rfl⟩
set_option maxHeartbeats 4000000 in
theorem right_any (e : Et) (w : World) : Calls Try.prog 52 #[.agg #[.int .i64 e.day, .int .i64 e.known, .int .i64 e.owner, .int .i64 e.place, .int .i64 e.litres, .int .i64 e.why, .int .i64 e.ref]] w (BoolIs (okE e) w) := by
  have K := fun n a b w => within_any n a b w
  go_enter Try.func52, Try.ntmps52
  go_wp2_with (first | (go_at_call 60; (with_reducible refine (K _ _ _ _).mono ?_); rintro e1 w1 ⟨rfl, rfl⟩) | fail)
  all_goals (go_ret; exact ⟨ret_bool (by simp_all [okE]), (Below.refl _ _).alloc (Nat.le_refl _) _⟩)
end Go.Proofs.Ythoigjkelinjhaa.LD

/- The walk of exact.Sum. -/
namespace Go.Proofs.Ythoigjkelinjhaa.LD
set_option maxRecDepth 100000
open Go.RowKit LG
attribute [local go_sem] alloc_drewN setCell_drewN shape_drewN

def addRen : Go.Shelf.Ren := ⟨fun | 25 => 43 | n => n, fun | 22 => 100 | n => n, fun n => n⟩
theorem addLays : Lays7.n25 Try.prog addRen where
  mixed := by kernel_rfl
  f25 := Try.func43.trans (congrArg some (by kernel_rfl))
  t22 := Try.underlying100
  a22 := Try.isAgg100
  z22 := Try.sizeOf100
  v22 := Try.zeroValue100
  i22 := by kernel_rfl
theorem add64 (x y c : Int) (hx : 0 ≤ x) (hy : 0 ≤ y) (hc0 : 0 ≤ c) (hc : c ≤ 1) (w : World) : (callFunc 43 #[.int .u64 x, .int .u64 y, .int .u64 c]).run Try.prog w =
    .ok (.value (.tuple #[.int .u64 ((x + y + c) % 18446744073709551616), .int .u64 ((x + y + c) / 18446744073709551616)])) w := by
  obtain ⟨x, rfl⟩ := Int.eq_ofNat_of_zero_le hx
  obtain ⟨y, rfl⟩ := Int.eq_ofNat_of_zero_le hy
  obtain ⟨c, rfl⟩ := Int.eq_ofNat_of_zero_le hc0
  refine (Any7.bits_Add64 addLays x y c (by omega) w).trans ?_
  congr 5 <;> omega
theorem add64_0 (x y : Int) (hx : 0 ≤ x) (hy : 0 ≤ y) (w : World) : (callFunc 43 #[.int .u64 x, .int .u64 y, .int .u64 0]).run Try.prog w =
    .ok (.value (.tuple #[.int .u64 ((x + y) % 18446744073709551616), .int .u64 ((x + y) / 18446744073709551616)])) w := by
  simpa using add64 x y 0 hx hy (Int.le_refl 0) (by decide) w

/-- How far the sum stands: hi and lo are its two words. -/
structure SumAt (l : List Int) (k : Nat) (hi lo : Int) : Prop where
  lo : lo = (l.take k).sum % 18446744073709551616
  hi : hi = (l.take k).sum / 18446744073709551616 % 18446744073709551616
  le : (l.take k).sum ≤ k * 9223372036854775808
  ge : -(k * 9223372036854775808) ≤ (l.take k).sum
theorem SumAt.start (l : List Int) : SumAt l 0 0 0 := ⟨by simp, by simp, by simp, by simp⟩
theorem take_sum {l : List Int} {k : Nat} {n : Int} (h : l[k]? = some n) : (l.take (k + 1)).sum = (l.take k).sum + n := by
  rw [List.take_add_one, h]; simp
theorem SumAt.step {l : List Int} {k : Nat} {hi lo n u b c lo' hi' : Int} (h : SumAt l k hi lo) (hn : l[k]? = some n) (hI : In64 n) (hu : u = n % 18446744073709551616) (hb : b = n / 9223372036854775808 % 18446744073709551616)
    (hl : lo' = (lo + u) % 18446744073709551616) (hc : c = (lo + u) / 18446744073709551616) (hh : hi' = (hi + b + c) % 18446744073709551616) : SumAt l (k + 1) hi' lo' := by
  obtain ⟨h1, h2, h3, h4⟩ := h
  obtain ⟨i1, i2⟩ := hI
  have e := take_sum hn
  generalize (l.take k).sum = S at *
  refine ⟨?_, ?_, ?_, ?_⟩ <;> rw [e] <;> omega
theorem SumAt.stop {l : List Int} {hi lo : Int} (h : SumAt l l.length hi lo) (hl : l.length ≤ 1048576) : 0 ≤ lo ∧ lo < 18446744073709551616 ∧
    (inB l.sum = true → lo < 9223372036854775808 → hi = 0 ∧ lo = l.sum) ∧ (inB l.sum = true → 9223372036854775808 ≤ lo → hi = 18446744073709551615 ∧ lo - 18446744073709551616 = l.sum) ∧
    (inB l.sum = false → lo < 9223372036854775808 → hi ≠ 0) ∧ (inB l.sum = false → 9223372036854775808 ≤ lo → hi ≠ 18446744073709551615) := by
  obtain ⟨h1, h2, h3, h4⟩ := h
  rw [List.take_length] at h1 h2 h3 h4
  generalize l.sum = S at *
  have hB : inB S = true ↔ (-9223372036854775808 ≤ S ∧ S ≤ 9223372036854775807) := by simp [inB]
  have hN : inB S = false ↔ ¬ (-9223372036854775808 ≤ S ∧ S ≤ 9223372036854775807) := by rw [← hB]; simp
  rw [hB, hN]
  refine ⟨by omega, by omega, fun a b => ⟨?_, ?_⟩, fun a b => ⟨?_, ?_⟩, fun a b => ?_, fun a b => ?_⟩ <;> omega
def SumIs (l : List Int) (w : World) (e : Ending) (w' : World) : Prop := e = .returned (.tuple #[.int .i64 (sumX l).1, .bool (sumX l).2]) ∧ w = w'
set_option maxHeartbeats 4000000 in
theorem sum_any (l : List Int) (C : Option Addr) (cc : Nat) (w : World) {B : Nat} (hC : IntsAt w B C l) (hl : l.length ≤ 1048576) (hI : ∀ x ∈ l, In64 x) :
    Calls Try.prog 27 #[.slice C l.length cc] w (SumIs l w) := by
  go_enter Try.func27, Try.ntmps27
  go_wp2_with fail
  go_loopw [4, 5, 11] (fun hi lo i wr => ∃ (k : Nat) (h o : Int), k ≤ l.length ∧ i = .int .i64 k ∧ hi = .int .u64 h ∧ lo = .int .u64 o ∧ Hid (SumAt l k h o) ∧ 0 ≤ h ∧ 0 ≤ o ∧ h < 18446744073709551616 ∧ o < 18446744073709551616 ∧ wr = w) (fun _ _ i _ => l.length - (intOf i).toNat)
  case atStart => exact ⟨0, 0, 0, by omega, rfl, rfl, rfl, SumAt.start l, by omega, by omega, by omega, by omega, rfl⟩
  case round =>
    obtain ⟨k, h, o, hk, rfl, rfl, rfl, hS, h0, o0, h1, o1, rfl⟩ := hrel
    by_cases hlt : k < l.length
    · obtain ⟨n, hx⟩ : ∃ n, l[k]? = some n := ⟨_, List.getElem?_eq_getElem hlt⟩
      obtain ⟨b, off, rfl, hb, c0⟩ := hC.at_ hx
      have hn := hI n (List.mem_of_getElem? hx)
      have hX : Hid (l[k]? = some n ∧ In64 n) := ⟨hx, hn⟩
      obtain ⟨u, hu⟩ : ∃ u, u = n % 18446744073709551616 := ⟨_, rfl⟩
      obtain ⟨v, hv⟩ : ∃ v, v = n / 9223372036854775808 % 18446744073709551616 := ⟨_, rfl⟩
      clear hx hn
      have hU : Hid (u = n % 18446744073709551616 ∧ v = n / 9223372036854775808 % 18446744073709551616) := ⟨hu, hv⟩
      have u0 : 0 ≤ u := by omega
      have v0 : 0 ≤ v := by omega
      have e1 : IntKind.u64.wrap n = u := by rw [IntKind.wrap_u64, hu]
      have e2 : IntKind.u64.wrap (n / 9223372036854775808) = v := by rw [IntKind.wrap_u64, hv]
      clear hu hv
      have a1 := fun w => add64_0 o u o0 u0 w
      have c1 : 0 ≤ (o + u) / 18446744073709551616 := by omega
      have c2 : (o + u) / 18446744073709551616 ≤ 1 := by have := hU.out.1; omega
      have a2 := fun w => add64 h v ((o + u) / 18446744073709551616) h0 v0 c1 c2 w
      have hT : Hid (SumAt l (k + 1) ((h + v + (o + u) / 18446744073709551616) % 18446744073709551616) ((o + u) % 18446744073709551616)) := hS.out.step hX.out.1 hX.out.2 hU.out.1 hU.out.2 rfl rfl rfl
      go_wp2_with (first | simp only [a1] | simp only [a2] | fail)
      go_roundw
      case rel => exact ⟨k + 1, _, _, hlt, by go_num, rfl, rfl, hT, by omega, by omega, by omega, by omega, trivial⟩
      case measure => simp [intOf]; omega
    · have hke : k = l.length := by omega
      subst hke
      obtain ⟨q0, q1, q2, q3, q4, q5⟩ := hS.out.stop hl
      cases hB : inB l.sum with
      | true =>
        have hR : Hid (sumX l = (l.sum, true)) := by show _ = _; unfold sumX; rw [if_pos hB]
        rcases Int.lt_or_le o 9223372036854775808 with c | c
        · obtain ⟨rfl, rfl⟩ := q2 hB c
          have e1 : IntKind.i64.wrap l.sum = l.sum := by rw [IntKind.wrap_i64]; omega
          have e2 : l.sum / 9223372036854775808 = 0 := by omega
          clear q2 q3 q4 q5 hB hS
          go_wp2_with fail
          go_ret2
          exact ⟨by rw [hR.out]; rfl, rfl⟩
        · obtain ⟨rfl, q⟩ := q3 hB c
          have e1 : IntKind.i64.wrap o = o - 18446744073709551616 := by rw [IntKind.wrap_i64]; omega
          have e2 : (o - 18446744073709551616) / 9223372036854775808 = -1 := by omega
          have e3 : IntKind.u64.wrap (-1) = 18446744073709551615 := by rw [IntKind.wrap_u64]; rfl
          have hq : Hid (o - 18446744073709551616 = l.sum) := q
          clear q2 q3 q4 q5 hB hS q
          go_wp2_with fail
          go_ret2
          exact ⟨by rw [hR.out, ← hq.out]; rfl, rfl⟩
      | false =>
        have hR : Hid (sumX l = (0, false)) := by show _ = _; unfold sumX; rw [if_neg (by simp [hB])]
        rcases Int.lt_or_le o 9223372036854775808 with c | c
        · have q := q4 hB c
          have e1 : IntKind.i64.wrap o = o := by rw [IntKind.wrap_i64]; omega
          have e2 : o / 9223372036854775808 = 0 := by omega
          have e3 : (h != 0) = true := by simpa using q
          clear q2 q3 q4 q5 hB hS q
          go_wp2_with fail
          go_ret2
          exact ⟨by rw [hR.out]; rfl, rfl⟩
        · have q := q5 hB c
          have e1 : IntKind.i64.wrap o = o - 18446744073709551616 := by rw [IntKind.wrap_i64]; omega
          have e2 : (o - 18446744073709551616) / 9223372036854775808 = -1 := by omega
          have e3 : IntKind.u64.wrap (-1) = 18446744073709551615 := by rw [IntKind.wrap_u64]; rfl
          have e4 : (h != 18446744073709551615) = true := by simpa using q
          clear q2 q3 q4 q5 hB hS q
          go_wp2_with fail
          go_ret2
          exact ⟨by rw [hR.out]; rfl, rfl⟩
end Go.Proofs.Ythoigjkelinjhaa.LD

/- The walk of the reference's Sum. -/
namespace Go.Proofs.Ythoigjkelinjhaa.LD
set_option maxRecDepth 100000
open Go.RowKit LG
attribute [local go_sem] alloc_drewN setCell_drewN shape_drewN

/-- The lower half of a number, whatever its sign. -/
theorem low_half (n : Int) : bits .and .i64 n 4294967295 = n % 4294967296 := by
  have h1 : (BitVec.ofInt 64 n &&& BitVec.ofInt 64 4294967295).toNat = (n % 18446744073709551616).toNat % 4294967296 := by
    rw [BitVec.toNat_and, BitVec.toNat_ofInt, BitVec.toNat_ofInt]
    have e1 : ((4294967295 : Int) % ((2 ^ 64 : Nat) : Int)).toNat = 2 ^ 32 - 1 := by decide
    have e2 : ((2 ^ 64 : Nat) : Int) = 18446744073709551616 := by decide
    rw [e1, e2, Nat.and_two_pow_sub_one_eq_mod]
  show IntKind.i64.wrap ((BitVec.ofInt 64 n &&& BitVec.ofInt 64 4294967295).toNat : Int) = _
  rw [h1, IntKind.wrap_i64]
  omega
/-- The two halves of the sum so far. -/
structure HalfAt (l : List Int) (k : Nat) (hi lo : Int) : Prop where
  sum : hi * 4294967296 + lo = (l.take k).sum
  l0 : 0 ≤ lo
  l1 : lo ≤ k * 4294967295
  h0 : -(k * 2147483648) ≤ hi
  h1 : hi ≤ k * 2147483648
theorem HalfAt.start (l : List Int) : HalfAt l 0 0 0 := ⟨by simp, by simp, by simp, by simp, by simp⟩
theorem HalfAt.step {l : List Int} {k : Nat} {hi lo n : Int} (h : HalfAt l k hi lo) (hn : l[k]? = some n) (hI : In64 n) : HalfAt l (k + 1) (hi + n / 4294967296) (lo + n % 4294967296) := by
  obtain ⟨a, b, c, d, e⟩ := h
  obtain ⟨i1, i2⟩ := hI
  have t := take_sum hn
  refine ⟨?_, ?_, ?_, ?_, ?_⟩
  · rw [t]; omega
  all_goals omega
theorem HalfAt.stop {l : List Int} {hi lo : Int} (h : HalfAt l l.length hi lo) :
    (inB l.sum = true → -2147483648 ≤ hi + lo / 4294967296 ∧ hi + lo / 4294967296 ≤ 2147483647 ∧ (hi + lo / 4294967296) * 4294967296 + lo % 4294967296 = l.sum) ∧ (inB l.sum = false → hi + lo / 4294967296 < -2147483648 ∨ 2147483647 < hi + lo / 4294967296) := by
  obtain ⟨a, b, c, d, e⟩ := h
  rw [List.take_length] at a
  generalize l.sum = S at *
  have hB : inB S = true ↔ (-9223372036854775808 ≤ S ∧ S ≤ 9223372036854775807) := by simp [inB]
  have hN : inB S = false ↔ ¬ (-9223372036854775808 ≤ S ∧ S ≤ 9223372036854775807) := by rw [← hB]; simp
  rw [hB, hN]
  refine ⟨fun p => ⟨?_, ?_, ?_⟩, fun p => ?_⟩ <;> omega
end Go.Proofs.Ythoigjkelinjhaa.LD

/- Walks of both Accounts. -/
namespace Go.Proofs.Ythoigjkelinjhaa.LD
set_option maxRecDepth 100000
open Go.RowKit LG
attribute [local go_sem] alloc_drewN setCell_drewN shape_drewN

theorem cell_one_at {w : World} {b : Nat} (hb : w.heap.size = b) (e : Nat) (x : Value) : ∀ j u, [x][j]? = some u → (w.alloc (.cells #[x] e)).cell? ((⟨b, 0, none⟩ : Addr).add j) = some u := by
  subst hb; exact cell_one_new _ _ _
def intsV (l : List Int) : List Value := l.map (Value.int .i64)
def litsT (p : Et → Bool) (l : List Et) (k : Nat) : List Int := lits ((l.take k).filter p)
theorem litsT_succ (p : Et → Bool) (l : List Et) {k : Nat} {e : Et} (h : l[k]? = some e) : litsT p l (k + 1) = if p e then litsT p l k ++ [e.litres] else litsT p l k := by
  unfold litsT lits
  rw [List.take_add_one, h]
  cases hp : p e <;> simp [hp]
theorem litsT_end (p : Et → Bool) (l : List Et) : litsT p l l.length = lits (l.filter p) := by unfold litsT; rw [List.take_length]
theorem litsT_len (p : Et → Bool) (l : List Et) (k : Nat) : (litsT p l k).length ≤ l.length := by
  unfold litsT lits
  rw [List.length_map]
  exact Nat.le_trans (List.length_filter_le _ _) (by rw [List.length_take]; omega)
def LitsIn (l : List Et) : Prop := ∀ e ∈ l, In64 e.litres
theorem litsT_in {l : List Et} (h : LitsIn l) (p : Et → Bool) : ∀ x ∈ lits (l.filter p), In64 x := fun x hx => by
  obtain ⟨e, he, rfl⟩ := List.mem_map.1 hx
  exact h e (List.mem_filter.1 he).1
theorem accB_of {owner place day known : Int} {e : Et} {b1 b2 b3 b4 b5 b6 : Bool} (h1 : decide (e.day ≤ day) = b1) (h2 : decide (e.known ≤ known) = b2) (h3 : (owner == -1) = b3) (h4 : (e.owner == owner) = b4) (h5 : (place == -1) = b5) (h6 : (e.place == place) = b6) :
    accB owner place day known e = (b1 && b2 && (b3 || b4) && (b5 || b6)) := by
  subst h1 h2 h3 h4 h5 h6; rfl
set_option maxHeartbeats 8000000 in
theorem account_any (l : List Et) (C : Option Addr) (cc : Nat) (owner place day known : Int) (w : World) {B : Nat} (hC : EntsAt w B C l) (hB : B ≤ w.heap.size) (hl : l.length ≤ 1000000) (hI : LitsIn l) :
    Calls Try.prog 18 #[.slice C l.length cc, .int .i64 owner, .int .i64 place, .int .i64 day, .int .i64 known] w (IntBe (account l owner place day known) w) := by
  obtain ⟨i0, hi, hz0, hz1, hz2⟩ := info_parts Try.infoInt
  have hA : Hid (account l owner place day known = (sumX (lits (l.filter (accB owner place day known)))).1) := rfl
  obtain ⟨acc, hacc⟩ : ∃ f : Nat → List Int, f = litsT (accB owner place day known) l := ⟨_, rfl⟩
  have hstep : Hid (∀ k e, l[k]? = some e → acc (k + 1) = if accB owner place day known e then acc k ++ [e.litres] else acc k) := fun k e h => by rw [hacc]; exact litsT_succ _ l h
  have hlenA : Hid (∀ k, (acc k).length ≤ l.length) := fun k => by rw [hacc]; exact litsT_len _ l k
  have h0A : Hid (acc 0 = []) := by show _ = _; rw [hacc]; rfl
  have hend : Hid (acc l.length = lits (l.filter (accB owner place day known))) := by show _ = _; rw [hacc]; exact litsT_end _ l
  clear hacc
  go_enter Try.func18, Try.ntmps18
  go_wp2_with fail
  go_loopw [11, 18] (fun out i wr => ∃ k : Nat, k ≤ l.length ∧ i = .int .i64 k ∧ wr.ownsRow w.heap.size 3 1 out (acc k).length (intsV (acc k)) ∧ Below w.heap.size w wr ∧ w.heap.size ≤ wr.heap.size) (fun _ i _ => l.length - (intOf i).toNat)
  case atStart => exact ⟨0, Nat.zero_le _, rfl, by rw [h0A.out]; exact World.ownsRow_nil _ _ _ _, Below.refl _ _, Nat.le_refl _⟩
  case round =>
    obtain ⟨k, hk, rfl, hrow, hBw, hz⟩ := hrel
    by_cases hlt : k < l.length
    · obtain ⟨e, hx⟩ : ∃ e, l[k]? = some e := ⟨_, List.getElem?_eq_getElem hlt⟩
      obtain ⟨b, off, rfl, hb, r0, r1, r2, r3, r4, r5, r6⟩ := (hC.below (hBw.mono hB)).at_ hx
      have hs := hstep.out k e hx
      have hlen := hlenA.out k
      have hbw : b < wr.heap.size := by omega
      clear hx
      obtain ⟨b1, g1⟩ : ∃ b, decide (e.day ≤ day) = b := ⟨_, rfl⟩
      obtain ⟨b2, g2⟩ : ∃ b, decide (e.known ≤ known) = b := ⟨_, rfl⟩
      obtain ⟨b3, g3⟩ : ∃ b, (owner == -1) = b := ⟨_, rfl⟩
      obtain ⟨b4, g4⟩ : ∃ b, (e.owner == owner) = b := ⟨_, rfl⟩
      obtain ⟨b5, g5⟩ : ∃ b, (place == -1) = b := ⟨_, rfl⟩
      obtain ⟨b6, g6⟩ : ∃ b, (e.place == place) = b := ⟨_, rfl⟩
      rw [accB_of g1 g2 g3 g4 g5 g6] at hs
      have HS := Lib.hid hs
      clear hs
      go_wp2_with (first | (at_builtin; refine wpList_append_own _ rfl _ _ 29 rfl w.heap.size 3 i0 (.int .i64 0) 1 8 Try.underlying29 hi hz0 hz1 hz2 rfl (by decide) _ (acc k).length _ rfl ((hrow.alloc _).alloc _) ⟨wr.heap.size + 1, 0, none⟩ 1 1 [.int .i64 e.litres] rfl rfl (cell_one_at (by simp) _ _) (by simp [Value.oneCell']) (by unfold maxLen; omega) (by omega) (by simp; omega) ?_; intro v' w2 hown' hgrow _; obtain ⟨g', cap', rfl, hgq1, hgq2⟩ := hown'.form (by omega); have hb2 := below_app (hrow.alloc _) (by simp; omega) hgrow) | fail)
      all_goals first
        | (go_roundw
           case rel =>
             have hs2 := HS.out
             rw [if_pos (by simp [*])] at hs2
             exact ⟨k + 1, by omega, by go_num, by rw [hs2]; unfold intsV at hown' ⊢; rw [List.map_append, List.length_append]; exact hown', (hBw.alloc hz _).trans hb2, by have := hb2.size; simp at this; omega⟩
           case measure => simp [intOf]; omega)
        | (go_roundw
           case rel =>
             have hs2 := HS.out
             rw [if_neg (by simp [*])] at hs2
             exact ⟨k + 1, by omega, by go_num, by rw [hs2]; exact hrow.alloc _, hBw.alloc hz _, by simp; omega⟩
           case measure => simp [intOf]; omega)
        | fail
    · have hke : k = l.length := by omega
      subst hke
      have HE := hend.out
      rw [HE] at hrow
      have hlen2 : (lits (l.filter (accB owner place day known))).length ≤ 1000000 := by have := hlenA.out l.length; rw [HE] at this; omega
      obtain ⟨D, cd, he, hD⟩ := ints_of_owns hrow
      subst he
      have K := Lib.hid (sum_any (lits (l.filter (accB owner place day known))) D cd wr hD (by omega) (litsT_in hI _))
      clear HE hend hrow
      generalize lits (l.filter (accB owner place day known)) = L at *
      have hS := Lib.hid (rfl : sumX L = sumX L)
      cases hok : (sumX L).2 with
      | true =>
        go_wp2_with (first | (go_at_call 27; (with_reducible refine K.out.mono ?_); rintro e1 w1 ⟨rfl, rfl⟩) | fail)
        go_ret
        exact ⟨ret_int hA.out.symm, hBw⟩
      | false =>
        have h0 : (sumX L).1 = 0 := by unfold sumX at hok ⊢; split at hok <;> simp_all
        go_wp2_with (first | (go_at_call 27; (with_reducible refine K.out.mono ?_); rintro e1 w1 ⟨rfl, rfl⟩) | fail)
        go_ret
        exact ⟨ret_int (by rw [hA.out, h0]), hBw⟩
end Go.Proofs.Ythoigjkelinjhaa.LD

/- The walk of posting. -/
namespace Go.Proofs.Ythoigjkelinjhaa.LD
set_option maxRecDepth 100000
open Go.RowKit LG
attribute [local go_sem] alloc_drewN setCell_drewN shape_drewN

/-- An entry that may stand in a posting that begins with h. -/
def fitB (h x : Et) : Bool := okE x && sameG h x
theorem fitB_ok {h x : Et} (a : okE x = false) : fitB h x = false := by unfold fitB; rw [a]; rfl
theorem fitB_day {h x : Et} (a : x.day ≠ h.day) : fitB h x = false := by unfold fitB sameG; rw [decide_eq_false a]; simp
theorem fitB_known {h x : Et} (a : x.known ≠ h.known) : fitB h x = false := by unfold fitB sameG; rw [decide_eq_false a]; simp
theorem fitB_all {h x : Et} (a : okE x = true) (b : x.day = h.day) (c : x.known = h.known) : fitB h x = true := by unfold fitB sameG; rw [a, decide_eq_true b, decide_eq_true c]; rfl
theorem postB_no {e : List Et} {h x : Et} {k : Nat} (h0 : e.headD default = h) (hx : e[k]? = some x) (hf : fitB h x = false) : postB e = false := by
  unfold postB
  have : e.all (fun x => okE x && sameG (e.headD default) x) = false := by
    rw [List.all_eq_false]
    exact ⟨x, List.mem_of_getElem? hx, by rw [h0]; simpa [fitB] using hf⟩
  rw [this]; simp
theorem postB_yes {e : List Et} {h : Et} (h0 : e.headD default = h) (hne : e ≠ []) (hf : (e.take e.length).all (fitB h) = true) : postB e = zeroX e := by
  rw [List.take_length] at hf
  have : e.all (fun x => okE x && sameG (e.headD default) x) = true := by rw [h0]; exact hf
  unfold postB
  rw [this]
  cases e with
  | nil => exact absurd rfl hne
  | cons x e => simp
theorem take_all {e : List Et} {h x : Et} {k : Nat} (hx : e[k]? = some x) (a : (e.take k).all (fitB h) = true) (b : fitB h x = true) : (e.take (k + 1)).all (fitB h) = true := by
  rw [List.take_add_one, hx, List.all_append, a]; simpa using b
theorem lits_take {e : List Et} {x : Et} {k : Nat} (hx : e[k]? = some x) : lits (e.take (k + 1)) = lits (e.take k) ++ [x.litres] := by
  unfold lits; rw [List.take_add_one, hx]; simp
theorem lits_take_len {e : List Et} {k : Nat} (h : k ≤ e.length) : (lits (e.take k)).length = k := by unfold lits; simp; omega
theorem headD_of {e : List Et} {h : Et} (h0 : e[0]? = some h) : e.headD default = h := by cases e <;> simp_all
set_option maxHeartbeats 8000000 in
theorem posting_any (e : List Et) (C : Option Addr) (cc : Nat) (w : World) {B : Nat} (hC : EntsAt w B C e) (hB : B ≤ w.heap.size) (hl : e.length ≤ 1000000) (hI : LitsIn e) :
    Calls Try.prog 40 #[.slice C e.length cc] w (BoolIs (postB e) w) := by
  obtain ⟨i0, hi, hz0, hz1, hz2⟩ := info_parts Try.infoInt
  obtain ⟨M, hMs, hmk⟩ := make_row0 (P := Try.prog) 29 3 i0 _ 1 Try.underlying29 hi hz0 hz1 e.length (by rw [hz2]; omega) (by unfold maxLen; omega)
  have HMs := Lib.hid hMs
  clear hMs
  by_cases hne : e = []
  · subst hne
    go_enter Try.func40, Try.ntmps40
    go_wp2_with fail
    go_ret
    exact ⟨rfl, Below.refl _ _⟩
  have hpos : 0 < e.length := List.length_pos_iff.2 hne
  have hne1 : (e.length == 0) = false := by simp; omega
  have hne2 : ((e.length : Int) == 0) = false := by simp; omega
  have hne3 : ¬ (e.length : Int) = 0 := by omega
  obtain ⟨h, hh⟩ : ∃ h, e[0]? = some h := ⟨_, List.getElem?_eq_getElem hpos⟩
  obtain ⟨b0, o0, rfl, hb0, z0, z1, z2, z3, z4, z5, z6⟩ := hC.at_ hh
  rw [Nat.zero_mul, Nat.add_zero] at z0 z1 z2 z3 z4 z5 z6
  have hhd := Lib.hid (headD_of hh)
  have HNE := Lib.hid hne
  have KR := Lib.hid (fun x w => right_any x w)
  clear hh hne
  go_enter Try.func40, Try.ntmps40
  go_wp2_with fail
  clear hmk
  go_loopw [3, 16] (fun out i wr => ∃ k : Nat, k ≤ e.length ∧ i = .int .i64 k ∧ wr.ownsRow w.heap.size 3 1 out k (intsV (lits (e.take k))) ∧ Hid ((e.take k).all (fitB h) = true) ∧ Below w.heap.size w wr ∧ w.heap.size ≤ wr.heap.size) (fun _ i _ => e.length - (intOf i).toNat)
  case atStart =>
    exact ⟨0, Nat.zero_le _, rfl, World.ownsRow_made w M e.length (by omega) (by unfold maxLen; omega) HMs.out, rfl, (Below.refl _ _).alloc (Nat.le_refl _) _, by simp⟩
  case round =>
    obtain ⟨k, hk, rfl, hrow, hAll, hBw, hz⟩ := hrel
    by_cases hlt : k < e.length
    · obtain ⟨x, hx⟩ : ∃ x, e[k]? = some x := ⟨_, List.getElem?_eq_getElem hlt⟩
      obtain ⟨b, off, heq, hb, r0, r1, r2, r3, r4, r5, r6⟩ := (hC.below (hBw.mono hB)).at_ hx
      obtain ⟨rfl, rfl⟩ : b0 = b ∧ o0 = off := by injection heq with h1; injection h1 with h2 h3; exact ⟨h2, h3⟩
      clear heq
      have q := fun o => hBw.cell (p := ⟨b0, o, none⟩) (by show b0 < _; omega)
      have y0 := (q _).trans z0
      have y1 := (q _).trans z1
      clear q
      have hbw : b0 < wr.heap.size := by omega
      have hbw2 : b0 ≤ wr.heap.size := by omega
      have hlt2 : lits (e.take (k + 1)) = lits (e.take k) ++ [x.litres] := lits_take hx
      have HL := Lib.hid hlt2
      have HX := Lib.hid hx
      clear hx hlt2
      have hW0 : Below wr.heap.size wr wr := Below.refl _ _
      cases hok : okE x with
      | false =>
        have K1 := fun w => KR.out x w
        unfold BoolIs at K1
        rw [hok] at K1
        have K1 := Lib.hid K1
        have HF : Hid (postB e = false) := postB_no hhd.out HX.out (fitB_ok hok)
        clear hok
        go_wp2_with fail
        refine Plan.wp_region_tree (.rd 0 (.wr 1 (.rd 2 (.rd 3 (.rd 4 (.rd 5 (.rd 6 (.rd 7 (.rd 8 (.rd 9 (.rd 10 (.rd 11 (.rd 12 (.rd 13 (.rd 14 (.rd 15 (.rd 16 (.rd 17 (.rd 18 (.rd 19 (.rd 20 .done))))))))))))))))))))) (by kernel_rfl) (by kernel_rfl) ?_
        (repeat (first | (refine Plan.tree_read (v := ?_) rfl rfl ?_ ?_; rotate_left; (focus ((intro wS hSw; have hkS := (bcell hSw).1; try (have hkT := fun (b o : Nat) (h : b < w.heap.size) => hkS b o (by first | omega | (simp; omega) | (simp; done))); go_simp); try with_reducible rfl)); simp only [Act.put, List.setIfInBounds_toArray, List.set_cons_zero, List.set_cons_succ]) | (refine Plan.tree_skip rfl rfl ?_; simp only [Act.put, List.setIfInBounds_toArray, List.set_cons_zero, List.set_cons_succ])))
        refine Plan.tree_write rfl (fun K hK => ?_)
        go_simp
        go_at_call 52
        (with_reducible refine (K1.out _).mono ?_)
        rintro e1 w1 ⟨rfl, hb1⟩
        have kB := Plan.below_drew_go hb1
        go_simp
        (refine hK.out _ _ (kB) ?_; clear hK K; try simp only [Act.put, List.setIfInBounds_toArray, List.set_cons_zero, List.set_cons_succ])
        (repeat (first | (refine Plan.tree_read (v := ?_) rfl rfl ?_ ?_; rotate_left; (focus ((intro wS hSw; have hkS := (bcell hSw).1; try (have hkT := fun (b o : Nat) (h : b < w.heap.size) => hkS b o (by first | omega | (simp; omega) | (simp; done))); go_simp); try with_reducible rfl)); simp only [Act.put, List.setIfInBounds_toArray, List.set_cons_zero, List.set_cons_succ]) | (refine Plan.tree_skip rfl rfl ?_; simp only [Act.put, List.setIfInBounds_toArray, List.set_cons_zero, List.set_cons_succ])))
        refine Plan.tree_done ?_
        go_wp2_with fail
        go_ret
        exact ⟨ret_bool HF.out.symm, (hBw.alloc hz _).trans (kB.mono (by simp; omega))⟩
      | true =>
        have K1 := fun w => KR.out x w
        unfold BoolIs at K1
        rw [hok] at K1
        have K1 := Lib.hid K1
        by_cases hd : x.day = h.day
        case neg =>
          have HF : Hid (postB e = false) := postB_no hhd.out HX.out (fitB_day hd)
          have n1 : (x.day != h.day) = true := by simpa using hd
          clear hok
          go_wp2_with fail
          refine Plan.wp_region_tree (.rd 0 (.wr 1 (.rd 2 (.rd 3 (.rd 4 (.rd 5 (.rd 6 (.rd 7 (.rd 8 (.rd 9 (.rd 10 (.rd 11 (.rd 12 (.rd 13 (.rd 14 (.rd 15 (.rd 16 (.rd 17 (.rd 18 (.rd 19 (.rd 20 .done))))))))))))))))))))) (by kernel_rfl) (by kernel_rfl) ?_
          (repeat (first | (refine Plan.tree_read (v := ?_) rfl rfl ?_ ?_; rotate_left; (focus ((intro wS hSw; have hkS := (bcell hSw).1; try (have hkT := fun (b o : Nat) (h : b < w.heap.size) => hkS b o (by first | omega | (simp; omega) | (simp; done))); go_simp); try with_reducible rfl)); simp only [Act.put, List.setIfInBounds_toArray, List.set_cons_zero, List.set_cons_succ]) | (refine Plan.tree_skip rfl rfl ?_; simp only [Act.put, List.setIfInBounds_toArray, List.set_cons_zero, List.set_cons_succ])))
          refine Plan.tree_write rfl (fun K hK => ?_)
          go_simp
          go_at_call 52
          (with_reducible refine (K1.out _).mono ?_)
          rintro e1 w1 ⟨rfl, hb1⟩
          have kB := Plan.below_drew_go hb1
          go_simp
          (refine hK.out _ _ (kB) ?_; clear hK K; try simp only [Act.put, List.setIfInBounds_toArray, List.set_cons_zero, List.set_cons_succ])
          (repeat (first | (refine Plan.tree_read (v := ?_) rfl rfl ?_ ?_; rotate_left; (focus ((intro wS hSw; have hkS := (bcell hSw).1; try (have hkT := fun (b o : Nat) (h : b < w.heap.size) => hkS b o (by first | omega | (simp; omega) | (simp; done))); go_simp); try with_reducible rfl)); simp only [Act.put, List.setIfInBounds_toArray, List.set_cons_zero, List.set_cons_succ]) | (refine Plan.tree_skip rfl rfl ?_; simp only [Act.put, List.setIfInBounds_toArray, List.set_cons_zero, List.set_cons_succ])))
          refine Plan.tree_done ?_
          go_wp2_with fail
          go_ret
          exact ⟨ret_bool HF.out.symm, (hBw.alloc hz _).trans (kB.mono (by simp; omega))⟩
        by_cases hn : x.known = h.known
        case neg =>
          have HF : Hid (postB e = false) := postB_no hhd.out HX.out (fitB_known hn)
          have n1 : (x.day != h.day) = false := by simpa using hd
          have n2 : (x.known != h.known) = true := by simpa using hn
          clear hok hd
          go_wp2_with fail
          refine Plan.wp_region_tree (.rd 0 (.wr 1 (.rd 2 (.rd 3 (.rd 4 (.rd 5 (.rd 6 (.rd 7 (.rd 8 (.rd 9 (.rd 10 (.rd 11 (.rd 12 (.rd 13 (.rd 14 (.rd 15 (.rd 16 (.rd 17 (.rd 18 (.rd 19 (.rd 20 .done))))))))))))))))))))) (by kernel_rfl) (by kernel_rfl) ?_
          (repeat (first | (refine Plan.tree_read (v := ?_) rfl rfl ?_ ?_; rotate_left; (focus ((intro wS hSw; have hkS := (bcell hSw).1; try (have hkT := fun (b o : Nat) (h : b < w.heap.size) => hkS b o (by first | omega | (simp; omega) | (simp; done))); go_simp); try with_reducible rfl)); simp only [Act.put, List.setIfInBounds_toArray, List.set_cons_zero, List.set_cons_succ]) | (refine Plan.tree_skip rfl rfl ?_; simp only [Act.put, List.setIfInBounds_toArray, List.set_cons_zero, List.set_cons_succ])))
          refine Plan.tree_write rfl (fun K hK => ?_)
          go_simp
          go_at_call 52
          (with_reducible refine (K1.out _).mono ?_)
          rintro e1 w1 ⟨rfl, hb1⟩
          have kB := Plan.below_drew_go hb1
          go_simp
          (refine hK.out _ _ (kB) ?_; clear hK K; try simp only [Act.put, List.setIfInBounds_toArray, List.set_cons_zero, List.set_cons_succ])
          (repeat (first | (refine Plan.tree_read (v := ?_) rfl rfl ?_ ?_; rotate_left; (focus ((intro wS hSw; have hkS := (bcell hSw).1; try (have hkT := fun (b o : Nat) (h : b < w.heap.size) => hkS b o (by first | omega | (simp; omega) | (simp; done))); go_simp); try with_reducible rfl)); simp only [Act.put, List.setIfInBounds_toArray, List.set_cons_zero, List.set_cons_succ]) | (refine Plan.tree_skip rfl rfl ?_; simp only [Act.put, List.setIfInBounds_toArray, List.set_cons_zero, List.set_cons_succ])))
          refine Plan.tree_done ?_
          go_wp2_with fail
          go_ret
          exact ⟨ret_bool HF.out.symm, (hBw.alloc hz _).trans (kB.mono (by simp; omega))⟩
        have HF : Hid (fitB h x = true) := fitB_all hok hd hn
        have n1 : (x.day != h.day) = false := by simpa using hd
        have n2 : (x.known != h.known) = false := by simpa using hn
        clear hok hd hn
        go_wp2_with fail
        refine Plan.wp_region_tree (.rd 0 (.wr 1 (.rd 2 (.rd 3 (.rd 4 (.rd 5 (.rd 6 (.rd 7 (.rd 8 (.rd 9 (.rd 10 (.rd 11 (.rd 12 (.rd 13 (.rd 14 (.rd 15 (.rd 16 (.rd 17 (.rd 18 (.rd 19 (.rd 20 .done))))))))))))))))))))) (by kernel_rfl) (by kernel_rfl) ?_
        (repeat (first | (refine Plan.tree_read (v := ?_) rfl rfl ?_ ?_; rotate_left; (focus ((intro wS hSw; have hkS := (bcell hSw).1; try (have hkT := fun (b o : Nat) (h : b < w.heap.size) => hkS b o (by first | omega | (simp; omega) | (simp; done))); go_simp); try with_reducible rfl)); simp only [Act.put, List.setIfInBounds_toArray, List.set_cons_zero, List.set_cons_succ]) | (refine Plan.tree_skip rfl rfl ?_; simp only [Act.put, List.setIfInBounds_toArray, List.set_cons_zero, List.set_cons_succ])))
        refine Plan.tree_write rfl (fun K hK => ?_)
        go_simp
        go_at_call 52
        (with_reducible refine (K1.out _).mono ?_)
        rintro e1 w1 ⟨rfl, hb1⟩
        have kB := Plan.below_drew_go hb1
        go_simp
        (refine hK.out _ _ (kB) ?_; clear hK K; try simp only [Act.put, List.setIfInBounds_toArray, List.set_cons_zero, List.set_cons_succ])
        (repeat (first | (refine Plan.tree_read (v := ?_) rfl rfl ?_ ?_; rotate_left; (focus ((intro wS hSw; have hkS := (bcell hSw).1; try (have hkT := fun (b o : Nat) (h : b < w.heap.size) => hkS b o (by first | omega | (simp; omega) | (simp; done))); go_simp); try with_reducible rfl)); simp only [Act.put, List.setIfInBounds_toArray, List.set_cons_zero, List.set_cons_succ]) | (refine Plan.tree_skip rfl rfl ?_; simp only [Act.put, List.setIfInBounds_toArray, List.set_cons_zero, List.set_cons_succ])))
        refine Plan.tree_done ?_
        have hrow1 := row_below (hrow.alloc _) kB
        have c4 : w1.cell? ⟨wr.heap.size, 4, none⟩ = some (.int .i64 x.litres) := by rw [(bcell kB).1 _ _ (by simp)]; simp
        have hzw1 := kB.size
        simp only [World.size_alloc] at hzw1
        have hBz : Below w.heap.size w w1 := (hBw.alloc hz _).trans (kB.mono (by simp; omega))
        clear kB hb1 hrow hBw
        go_wp2_with (first | (at_builtin; go_loud (refine wpList_append_own _ rfl _ _ 29 rfl w.heap.size 3 i0 (.int .i64 0) 1 8 Try.underlying29 hi hz0 hz1 hz2 rfl (by decide) _ k _ rfl (hrow1.alloc _) ⟨w1.heap.size, 0, none⟩ 1 1 [.int .i64 x.litres] rfl rfl (cell_one_at (by simp) _ _) (by simp [Value.oneCell']) (by unfold maxLen; omega) (by omega) (by simp; omega) ?_); intro v' w2 hown' hgrow _; obtain ⟨g', cap', rfl, hgq1, hgq2⟩ := hown'.form (by omega); have hb2 := below_app hrow1 (by omega) hgrow) | fail)
        go_roundw
        case rel => exact ⟨k + 1, by omega, by go_num, by rw [HL.out]; unfold intsV at hown' ⊢; rw [List.map_append]; exact hown', take_all HX.out hAll.out HF.out, hBz.trans hb2, by have := hb2.size; omega⟩
        case measure => simp [intOf]; omega
    · have hke : k = e.length := by omega
      subst hke
      have hrow2 : wr.ownsRow w.heap.size 3 1 u3 (lits e).length (intsV (lits e)) := by
        have := hrow
        rw [List.take_length] at this
        rw [show (lits e).length = e.length by simp [lits]]
        exact this
      obtain ⟨D, cd, he, hD⟩ := ints_of_owns hrow2
      subst he
      have K := Lib.hid (sum_any (lits e) D cd wr hD (by simp [lits]; omega) (fun y hy => by obtain ⟨a, ha, rfl⟩ := List.mem_map.1 hy; exact hI a ha))
      have hR : Hid (postB e = ((sumX (lits e)).2 && decide ((sumX (lits e)).1 = 0))) := postB_yes hhd.out HNE.out hAll.out
      clear hrow hrow2 hAll
      generalize lits e = L at *
      cases hok : (sumX L).2 with
      | false =>
        go_wp2_with (first | (go_at_call 27; (with_reducible refine K.out.mono ?_); rintro e1 w1 ⟨rfl, rfl⟩) | fail)
        go_ret
        exact ⟨ret_bool (by rw [hR.out, hok]; simp), hBw⟩
      | true =>
        obtain ⟨z, hzz⟩ : ∃ z, ((sumX L).1 == 0) = z := ⟨_, rfl⟩
        go_wp2_with (first | (go_at_call 27; (with_reducible refine K.out.mono ?_); rintro e1 w1 ⟨rfl, rfl⟩) | fail)
        go_ret
        exact ⟨ret_bool (by rw [hR.out, hok, ← hzz]; rfl), hBw⟩
end Go.Proofs.Ythoigjkelinjhaa.LD

/- Walks of the reference's Zero, posting and room. -/
namespace Go.Proofs.Ythoigjkelinjhaa.LD
set_option maxRecDepth 100000
open Go.RowKit LG
attribute [local go_sem] alloc_drewN setCell_drewN shape_drewN

theorem postB_zero {e : List Et} (h : zeroX e = false) : postB e = false := by unfold postB; rw [h]; simp
theorem absI_nn (n : Int) : 0 ≤ absI n := by unfold absI; split <;> omega
theorem absI_cases (n : Int) : (0 ≤ n ∧ absI n = n) ∨ (n < 0 ∧ absI n = -n) := by unfold absI; split <;> omega
theorem absS_nil : absS [] = 0 := rfl
theorem absS_cons (x : Et) (l : List Et) : absS (x :: l) = absI x.litres + absS l := by unfold absS; simp
theorem absS_append (a b : List Et) : absS (a ++ b) = absS a + absS b := by
  induction a with
  | nil => simp [absS_nil]
  | cons x a ih => rw [List.cons_append, absS_cons, absS_cons, ih]; omega
theorem absS_nn (l : List Et) : 0 ≤ absS l := by
  induction l with
  | nil => simp [absS_nil]
  | cons x a ih => rw [absS_cons]; have := absI_nn x.litres; omega
theorem absS_take {l : List Et} {k : Nat} {x : Et} (h : l[k]? = some x) : absS (l.take (k + 1)) = absS (l.take k) + absI x.litres := by
  rw [List.take_add_one, h, absS_append]; simp [absS_cons, absS_nil]
theorem absS_le (l : List Et) (k : Nat) : absS (l.take k) ≤ absS l := by
  have := absS_append (l.take k) (l.drop k)
  rw [List.take_append_drop] at this
  have := absS_nn (l.drop k)
  omega
def roomR (lim : Int) (l : List Et) : Int := if absS l ≤ lim then lim - absS l else -1
end Go.Proofs.Ythoigjkelinjhaa.LD

/- Walks of full and of slices.Concat. (Printed by gen_w5.py.) -/
namespace Go.Proofs.Ythoigjkelinjhaa.LD
set_option maxRecDepth 100000
open Go.RowKit LG
attribute [local go_sem] alloc_drewN setCell_drewN shape_drewN

set_option maxHeartbeats 8000000 in
theorem full_any (l e : List Et) (C1 C2 : Option Addr) (c1 c2 g : Nat) (w : World) {B : Nat} (h1 : EntsAt w B C1 l) (h2 : EntsAt w B C2 e) (hB : B ≤ w.heap.size) (hl1 : l.length ≤ 1000000) (hl2 : e.length ≤ 1000000) (hI1 : LitsIn l) (hI2 : LitsIn e)
    (hg : g < w.heap.size) (g0 : w.cell? ⟨g, 0, none⟩ = some (.slice C1 l.length c1)) (g1 : w.cell? ⟨g, 1, none⟩ = some (.slice C2 e.length c2)) :
    Calls Try.prog 41 #[.slice (some ⟨g, 0, none⟩) 2 2] w (BoolIs (fullB l e) w) := by
  go_enter Try.func41, Try.ntmps41
  go_wp2_with fail
  refine wp_loop_rounds 3 ?_
  rw [rounds_succ]
  go_wp2_with fail
  go_loopw [3, 17] (fun s i wr => ∃ (k : Nat) (m : Int), k ≤ l.length ∧ i = .int .i64 k ∧ s = .int .u64 m ∧ 0 ≤ m ∧ m ≤ 4611686018427387904 ∧ Hid (m = 0 + absS (l.take k)) ∧ Below w.heap.size w wr ∧ w.heap.size ≤ wr.heap.size) (fun _ i _ => l.length - (intOf i).toNat)
  case atStart => exact ⟨0, 0, Nat.zero_le _, rfl, rfl, by omega, by omega, (by show _ = _; rw [List.take_zero, absS_nil]; rfl), Below.refl _ _, Nat.le_refl _⟩
  case round =>
    obtain ⟨k, m, hk, rfl, rfl, hm0, hm1, hm, hBw, hz⟩ := hrel
    by_cases hlt : k < l.length
    · obtain ⟨x, hx⟩ : ∃ x, l[k]? = some x := ⟨_, List.getElem?_eq_getElem hlt⟩
      obtain ⟨b, off, heq, hb, r0, r1, r2, r3, r4, r5, r6⟩ := (h1.below (hBw.mono hB)).at_ hx
      subst heq
      have hbw : b < wr.heap.size := by omega
      have HT : Hid (absS (l.take (k + 1)) = absS (l.take k) + absI x.litres) := absS_take hx
      have HLE : Hid (absS (l.take (k + 1)) ≤ absS l) := absS_le _ _
      obtain ⟨in1, in2⟩ := hI1 x (List.mem_of_getElem? hx)
      clear hx
      by_cases c3 : x.litres < 0
      · have e1 : IntKind.u64.wrap x.litres = x.litres + 18446744073709551616 := by rw [IntKind.wrap_u64]; omega
        have e2 : IntKind.u64.wrap (-(x.litres + 18446744073709551616)) = -x.litres := by rw [IntKind.wrap_u64]; omega
        have e3 : IntKind.u64.wrap (m + -x.litres) = m + -x.litres := by rw [IntKind.wrap_u64]; omega
        have hn : Hid (m + -x.litres = 0 + absS (l.take (k + 1))) := by
          have a1 := HT.out; have a2 := hm.out
          show _ = _
          rcases absI_cases x.litres with ⟨p1, p2⟩ | ⟨p1, p2⟩ <;> omega
        by_cases c4 : 4611686018427387904 < m + -x.litres
        · have HF : Hid (fullB l e = true) := by
            show _ = _
            have a1 := hn.out; have a2 := HLE.out; have a3 := absS_nn l; have a4 := absS_nn e
            unfold fullB
            exact decide_eq_true (by omega)
          go_wp2_with fail
          all_goals (go_ret; exact ⟨ret_bool HF.out.symm, hBw.alloc hz _⟩)
        · go_wp2_with fail
          go_roundw
          case rel => exact ⟨k + 1, _, by omega, by go_num, rfl, by omega, by omega, (by have a := hn.out; show _ = _; omega), hBw.alloc hz _, by simp; omega⟩
          case measure => simp [intOf]; omega
      · have e1 : IntKind.u64.wrap x.litres = x.litres := by rw [IntKind.wrap_u64]; omega
        have e3 : IntKind.u64.wrap (m + x.litres) = m + x.litres := by rw [IntKind.wrap_u64]; omega
        have hn : Hid (m + x.litres = 0 + absS (l.take (k + 1))) := by
          have a1 := HT.out; have a2 := hm.out
          show _ = _
          rcases absI_cases x.litres with ⟨p1, p2⟩ | ⟨p1, p2⟩ <;> omega
        by_cases c4 : 4611686018427387904 < m + x.litres
        · have HF : Hid (fullB l e = true) := by
            show _ = _
            have a1 := hn.out; have a2 := HLE.out; have a3 := absS_nn l; have a4 := absS_nn e
            unfold fullB
            exact decide_eq_true (by omega)
          go_wp2_with fail
          all_goals (go_ret; exact ⟨ret_bool HF.out.symm, hBw.alloc hz _⟩)
        · go_wp2_with fail
          go_roundw
          case rel => exact ⟨k + 1, _, by omega, by go_num, rfl, by omega, by omega, (by have a := hn.out; show _ = _; omega), hBw.alloc hz _, by simp; omega⟩
          case measure => simp [intOf]; omega
    · have hke : k = l.length := by omega
      subst hke
      rw [List.take_length] at hm
      have hm1' := hm
      have q1 : wr.cell? ⟨g, 1, none⟩ = some (.slice C2 e.length c2) := (hBw.cell (p := ⟨g, 1, none⟩) (by show g < _; omega)).trans g1
      have hgw : g < wr.heap.size := by omega
      have hz1 := hz
      have hBw1 := hBw
      go_wp2_with fail
      rw [rounds_succ]
      go_wp2_with fail
      go_loopw [3, 17] (fun s i wr => ∃ (k : Nat) (m : Int), k ≤ e.length ∧ i = .int .i64 k ∧ s = .int .u64 m ∧ 0 ≤ m ∧ m ≤ 4611686018427387904 ∧ Hid (m = absS l + absS (e.take k)) ∧ Below w.heap.size w wr ∧ w.heap.size ≤ wr.heap.size) (fun _ i _ => e.length - (intOf i).toNat)
      case atStart => exact ⟨0, m, Nat.zero_le _, rfl, rfl, hm0, hm1, (by show _ = _; rw [List.take_zero, absS_nil]; have := hm1'.out; omega), hBw1, hz1⟩
      case round =>
        obtain ⟨k, m, hk, rfl, rfl, hm0, hm1, hm, hBw, hz⟩ := hrel
        by_cases hlt : k < e.length
        · obtain ⟨x, hx⟩ : ∃ x, e[k]? = some x := ⟨_, List.getElem?_eq_getElem hlt⟩
          obtain ⟨b, off, heq, hb, r0, r1, r2, r3, r4, r5, r6⟩ := (h2.below (hBw.mono hB)).at_ hx
          subst heq
          have hbw : b < wr.heap.size := by omega
          have HT : Hid (absS (e.take (k + 1)) = absS (e.take k) + absI x.litres) := absS_take hx
          have HLE : Hid (absS (e.take (k + 1)) ≤ absS e) := absS_le _ _
          obtain ⟨in1, in2⟩ := hI2 x (List.mem_of_getElem? hx)
          clear hx
          by_cases c3 : x.litres < 0
          · have e1 : IntKind.u64.wrap x.litres = x.litres + 18446744073709551616 := by rw [IntKind.wrap_u64]; omega
            have e2 : IntKind.u64.wrap (-(x.litres + 18446744073709551616)) = -x.litres := by rw [IntKind.wrap_u64]; omega
            have e3 : IntKind.u64.wrap (m + -x.litres) = m + -x.litres := by rw [IntKind.wrap_u64]; omega
            have hn : Hid (m + -x.litres = absS l + absS (e.take (k + 1))) := by
              have a1 := HT.out; have a2 := hm.out
              show _ = _
              rcases absI_cases x.litres with ⟨p1, p2⟩ | ⟨p1, p2⟩ <;> omega
            by_cases c4 : 4611686018427387904 < m + -x.litres
            · have HF : Hid (fullB l e = true) := by
                show _ = _
                have a1 := hn.out; have a2 := HLE.out; have a3 := absS_nn l; have a4 := absS_nn e
                unfold fullB
                exact decide_eq_true (by omega)
              go_wp2_with fail
              all_goals (go_ret; exact ⟨ret_bool HF.out.symm, hBw.alloc hz _⟩)
            · go_wp2_with fail
              go_roundw
              case rel => exact ⟨k + 1, _, by omega, by go_num, rfl, by omega, by omega, (by have a := hn.out; show _ = _; omega), hBw.alloc hz _, by simp; omega⟩
              case measure => simp [intOf]; omega
          · have e1 : IntKind.u64.wrap x.litres = x.litres := by rw [IntKind.wrap_u64]; omega
            have e3 : IntKind.u64.wrap (m + x.litres) = m + x.litres := by rw [IntKind.wrap_u64]; omega
            have hn : Hid (m + x.litres = absS l + absS (e.take (k + 1))) := by
              have a1 := HT.out; have a2 := hm.out
              show _ = _
              rcases absI_cases x.litres with ⟨p1, p2⟩ | ⟨p1, p2⟩ <;> omega
            by_cases c4 : 4611686018427387904 < m + x.litres
            · have HF : Hid (fullB l e = true) := by
                show _ = _
                have a1 := hn.out; have a2 := HLE.out; have a3 := absS_nn l; have a4 := absS_nn e
                unfold fullB
                exact decide_eq_true (by omega)
              go_wp2_with fail
              all_goals (go_ret; exact ⟨ret_bool HF.out.symm, hBw.alloc hz _⟩)
            · go_wp2_with fail
              go_roundw
              case rel => exact ⟨k + 1, _, by omega, by go_num, rfl, by omega, by omega, (by have a := hn.out; show _ = _; omega), hBw.alloc hz _, by simp; omega⟩
              case measure => simp [intOf]; omega
        · have hke : k = e.length := by omega
          subst hke
          rw [List.take_length] at hm
          go_wp2_with fail
          rw [rounds_succ]
          have HF : Hid (fullB l e = false) := by
            show _ = _
            have a := hm.out
            unfold fullB
            exact decide_eq_false (by omega)
          go_wp2_with fail
          go_ret
          exact ⟨ret_bool HF.out.symm, hBw⟩
end Go.Proofs.Ythoigjkelinjhaa.LD

/- The walk of slices.Concat at two lists of entries. -/
namespace Go.Proofs.Ythoigjkelinjhaa.LD
set_option maxRecDepth 100000
open Go.RowKit LG
attribute [local go_sem] alloc_drewN setCell_drewN shape_drewN

def growRen : Go.Shelf.Ren := ⟨fun | 4 => 53 | n => n, fun | 22 => 40 | 25 => 46 | n => n, fun n => n⟩
theorem growLays : Lays8.n4 Try.prog growRen where
  mixed := by kernel_rfl
  f4 := ⟨"slices.Grow[[]bourne/api.Entry,bourne/api.Entry]", by kernel_rfl, Try.func53.trans (congrArg some (by kernel_rfl))⟩
  t0 := Try.underlying0
  a0 := Try.isAgg0
  z0 := Try.sizeOf0
  v0 := Try.zeroValue0
  t3 := Try.underlying3
  a3 := Try.isAgg3
  z3 := Try.sizeOf3
  v3 := Try.zeroValue3
  t4 := Try.underlying4
  a4 := Try.isAgg4
  z4 := Try.sizeOf4
  v4 := Try.zeroValue4
  t9 := Try.underlying9
  a9 := Try.isAgg9
  z9 := Try.sizeOf9
  v9 := Try.zeroValue9
  t20 := Try.underlying20
  a20 := Try.isAgg20
  z20 := Try.sizeOf20
  v20 := Try.zeroValue20
  t22 := Try.underlying40
  a22 := Try.isAgg40
  z22 := Try.sizeOf40
  v22 := Try.zeroValue40
/-- A new row with room for n entries. -/
theorem grow_any (n : Nat) (hn : 0 < n) (hb : n ≤ 10000000) (w : World) : Calls Try.prog 53 #[.slice none 0 0, .int .i64 n] w fun e w' => ∃ v, e = .returned v ∧ w'.ownsRow w.heap.size 46 7 v 0 [] ∧ Below w.heap.size w w' := by
  obtain ⟨i0, hi, hz0, hz1, hz2⟩ := info_parts Try.infoEntry
  have := Any8.slices_Grow_grow growLays i0 _ hi hz0 (by omega) none 0 0 n [] w (Nat.le_refl _) (by omega) (by rw [hz2]; omega) (by omega) (by simp) (fun _ => rfl) (fun a h => by cases h)
  refine this.mono ?_
  rintro e w' ⟨rfl, rfl⟩
  refine ⟨_, rfl, ?_, ((Below.refl _ _).drew).alloc (Nat.le_refl _) _⟩
  have hc : grownCap w (0 + n) 0 (growRen.t 25) ≤ maxLen := grownCap_le_maxLen w _ _ _ (by unfold maxLen; omega)
  have hg : 0 + n ≤ grownCap w (0 + n) 0 (growRen.t 25) := grownCap_ge w _ _ _
  generalize grownCap w (0 + n) 0 (growRen.t 25) = G at hc hg ⊢
  exact World.ownsRow_made w.drew _ _ (Nat.le_refl _) hc (by simp [size_zeroCells, Value.cells]; omega)
theorem below_own {W w1 : World} {n₀ e size k : Nat} {v : Value} {xs : List Value} (hrow : W.ownsRow n₀ e size v k xs) (hn₀ : n₀ ≤ W.heap.size) (hgrow : W.grownBy w1 v.ownBlock) : Below n₀ W w1 := by
  refine (Below.refl n₀ W).grown hgrow hn₀ fun j ej => ?_
  rcases hrow.2 with ⟨rfl, _⟩ | ⟨g, cap, cur, rfl, hb, _, _⟩
  · simp [Value.ownBlock] at ej
  · obtain rfl : g = j := by simpa [Value.ownBlock] using ej
    exact hb
set_option maxHeartbeats 8000000 in
theorem concat_any (l e : List Et) (C1 C2 : Option Addr) (c1 c2 g : Nat) (w : World) {B : Nat} (h1 : EntsAt w B C1 l) (h2 : EntsAt w B C2 e) (hB : B ≤ w.heap.size) (hl1 : l.length ≤ 1000000) (hl2 : e.length ≤ 1000000) (hpos : 0 < l.length + e.length)
    (hg : g < w.heap.size) (g0 : w.cell? ⟨g, 0, none⟩ = some (.slice C1 l.length c1)) (g1 : w.cell? ⟨g, 1, none⟩ = some (.slice C2 e.length c2)) :
    Calls Try.prog 42 #[.slice (some ⟨g, 0, none⟩) 2 2] w fun x w' => ∃ v, x = .returned v ∧ w'.ownsRow w.heap.size 46 7 v (l ++ e).length (rowE (l ++ e)) ∧ Below w.heap.size w w' := by
  obtain ⟨i0, hi, hz0, hz1, hz2⟩ := info_parts Try.infoEntry
  have KG : Hid (Calls Try.prog 53 #[.slice none 0 0, .int .i64 ((l.length : Int) + (e.length : Int))] w fun e w' => ∃ v, e = .returned v ∧ w'.ownsRow w.heap.size 46 7 v 0 [] ∧ Below w.heap.size w w') := by
    have := grow_any (l.length + e.length) hpos (by omega) w
    rwa [Int.natCast_add] at this
  have H1 := Lib.hid h1
  have H2 := Lib.hid h2
  clear h1 h2
  go_enter Try.func42, Try.ntmps42
  go_wp2_with fail
  refine wp_loop_rounds 3 ?_
  rw [rounds_succ]
  go_wp2_with fail
  rw [rounds_succ]
  go_wp2_with fail
  rw [rounds_succ]
  go_wp2_with (first | (go_at_call 53; (with_reducible refine KG.out.mono ?_); rintro x1 w1 ⟨v1, rfl, hr1, hb1⟩) | fail)
  have HR1 := Lib.hid hr1
  have HB1 := Lib.hid hb1
  have k0 : w1.cell? ⟨g, 0, none⟩ = some (.slice C1 l.length c1) := (hb1.cell (p := ⟨g, 0, none⟩) hg).trans g0
  have k1 : w1.cell? ⟨g, 1, none⟩ = some (.slice C2 e.length c2) := (hb1.cell (p := ⟨g, 1, none⟩) hg).trans g1
  have hz1' := hb1.size
  have hgw1 : g < w1.heap.size := by omega
  have R1 := Lib.hid (reads_ents (H1.out.below (hb1.mono hB)))
  clear hr1 hb1
  refine wp_loop_rounds 3 ?_
  rw [rounds_succ]
  go_wp2_with (first | (at_builtin; refine wpList_append_any _ rfl _ _ 40 rfl w.heap.size 46 i0 _ 7 56 Try.underlying40 hi hz0 hz1 hz2 rfl (by decide) v1 0 [] rfl HR1.out B C1 l.length c1 (rowE l) rfl R1.out (rowE_one l) (by unfold maxLen; omega) (by omega) (by omega) ?_; intro v2 w2 hown2 hgrow2 _) | fail)
  have hbA := below_own HR1.out hz1' hgrow2
  have HBA := Lib.hid (HB1.out.trans hbA)
  have hzA := hbA.size
  have p1 : w2.cell? ⟨g, 1, none⟩ = some (.slice C2 e.length c2) := (hbA.cell (p := ⟨g, 1, none⟩) hg).trans k1
  have hgw2 : g < w2.heap.size := by omega
  have HO2 := Lib.hid hown2
  have R2 := Lib.hid (reads_ents (H2.out.below (HBA.out.mono hB)))
  clear hown2 hgrow2 hbA
  rw [rounds_succ]
  go_wp2_with (first | (at_builtin; refine wpList_append_any _ rfl _ _ 40 rfl w.heap.size 46 i0 _ 7 56 Try.underlying40 hi hz0 hz1 hz2 rfl (by decide) v2 (0 + l.length) ([] ++ rowE l) rfl HO2.out B C2 e.length c2 (rowE e) rfl R2.out (rowE_one e) (by unfold maxLen; omega) (by omega) (by omega) ?_; intro v3 w3 hown3 hgrow3 _) | fail)
  have hbB := below_own HO2.out (by omega) hgrow3
  have HBB := Lib.hid (HBA.out.trans hbB)
  have HO3 := Lib.hid hown3
  clear hown3 hgrow3 hbB
  rw [rounds_succ]
  go_wp2_with fail
  go_ret
  refine ⟨v3, rfl, ?_, HBB.out⟩
  have := HO3.out
  rw [List.nil_append, ← rowE_append, Nat.zero_add, ← List.length_append] at this
  exact this
end Go.Proofs.Ythoigjkelinjhaa.LD

/- The walk of Post. -/
namespace Go.Proofs.Ythoigjkelinjhaa.LD
set_option maxRecDepth 100000
open Go.RowKit LG
attribute [local go_sem] alloc_drewN setCell_drewN shape_drewN

/-- A slice of entries, of the call's own, and an error. -/
def PostRes (r : List Et × Int) (w : World) (x : Ending) (w' : World) : Prop := ∃ D dc, x = .returned (.tuple #[.slice D r.1.length dc, .int .i64 r.2]) ∧ r.1.length ≤ dc ∧ EntsAt w' w'.heap.size D r.1 ∧ (∀ a, D = some a → w.heap.size ≤ a.block) ∧ Below w.heap.size w w'
theorem PostRes.nil {r : List Et × Int} {n : Int} {w w' : World} (h : r = ([], n)) (hb : Below w.heap.size w w') : PostRes r w (.returned (.tuple #[.slice none 0 0, .int .i64 n])) w' := by
  subst h
  exact ⟨none, 0, rfl, Nat.le_refl _, EntsAt.nil _ _ _, (fun a ha => by cases ha), hb⟩
theorem postR_arg {l e : List Et} (h : postB e = false) : postR l e = ([], 1) := by unfold postR; rw [h]; rfl
theorem postR_late {l e : List Et} (h : postB e = true) (h2 : lateB l e = true) : postR l e = ([], 15) := by unfold postR; rw [h, h2]; rfl
theorem postR_full {l e : List Et} (h : postB e = true) (h2 : lateB l e = false) (h3 : fullB l e = true) : postR l e = ([], 8) := by unfold postR; rw [h, h2, h3]; rfl
theorem postR_ok {l e : List Et} (h : postB e = true) (h2 : lateB l e = false) (h3 : fullB l e = false) : postR l e = (l ++ e, 0) := by unfold postR; rw [h, h2, h3]; rfl
theorem postB_ne {e : List Et} (h : postB e = true) : e ≠ [] := fun hn => by subst hn; simp [postB] at h
theorem lateB_nil (e : List Et) : lateB [] e = false := rfl
theorem lateB_of {l e : List Et} {h q : Et} {n : Nat} (hn : l.length = n + 1) (hq : l[n]? = some q) (hh : e[0]? = some h) : lateB l e = decide (h.known < q.known) := by
  unfold lateB
  have h1 : l.getLastD default = q := by
    rw [List.getLastD_eq_getLast?, List.getLast?_eq_getElem?, hn]
    simp [hq]
  rw [headD_of hh, h1]
  cases l with
  | nil => simp at hn
  | cons _ _ => simp
set_option maxHeartbeats 8000000 in
theorem post_any (l e : List Et) (C1 C2 : Option Addr) (c1 c2 : Nat) (w : World) {B : Nat} (h1 : EntsAt w B C1 l) (h2 : EntsAt w B C2 e) (hB : B ≤ w.heap.size) (hl1 : l.length ≤ 900000) (hl2 : e.length ≤ 900000) (hI1 : LitsIn l) (hI2 : LitsIn e) :
    Calls Try.prog 26 #[.slice C1 l.length c1, .slice C2 e.length c2] w (PostRes (postR l e) w) := by
  have K0 := posting_any e C2 c2 w h2 hB (by omega) hI2
  unfold BoolIs at K0
  cases hp : postB e with
  | false =>
    have HR : Hid (postR l e = ([], 1)) := postR_arg hp
    rw [hp] at K0
    have K0 := Lib.hid K0
    clear hp
    go_enter Try.func26, Try.ntmps26
    go_wp2_with (first | (go_at_call 40; (with_reducible refine K0.out.mono ?_); rintro x1 w1 ⟨rfl, hb1⟩) | fail)
    go_ret2
    exact PostRes.nil HR.out hb1
  | true =>
    rw [hp] at K0
    have K0 := Lib.hid K0
    have HP := Lib.hid hp
    have hne : e ≠ [] := postB_ne hp
    have hpos : 0 < e.length := List.length_pos_iff.2 hne
    obtain ⟨h, hh⟩ : ∃ h, e[0]? = some h := ⟨_, List.getElem?_eq_getElem hpos⟩
    have HH := Lib.hid hh
    clear hp hne
    go_enter Try.func26, Try.ntmps26
    go_wp2_with (first | (go_at_call 40; (with_reducible refine K0.out.mono ?_); rintro x1 w1 ⟨rfl, hb1⟩) | fail)
    obtain ⟨b2, o2, rfl, hb2', z0, z1, _⟩ := (h2.below (hb1.mono hB)).at_ hh
    rw [Nat.zero_mul, Nat.add_zero] at z0 z1
    have hbz := hb1.size
    have hb2w : b2 < w1.heap.size := by omega
    clear hh
    by_cases hl0 : l = []
    · have HLt : Hid (lateB l e = false) := by show _ = _; rw [hl0]; exact lateB_nil e
      have d0 : ¬ (0 : Int) < (l.length : Int) := by rw [hl0]; simp
      have d1 : decide ((0 : Int) < (l.length : Int)) = false := decide_eq_false d0
      have d2 : decide (0 < l.length) = false := decide_eq_false (by omega)
      clear hl0
      go_quiet (fail)
      have hbq := below_drewN hb1 nq
      clear hb1 hb2w hbz z0 z1
      generalize w1.drewN nq = w3 at hbq ⊢
      have q1 : EntsAt w3 B C1 l := h1.below (hbq.mono hB)
      have q2 : EntsAt w3 B (some ⟨b2, o2, none⟩) e := h2.below (hbq.mono hB)
      have hz1 := hbq.size
      have KF := full_any l e C1 (some ⟨b2, o2, none⟩) c1 c2 w3.heap.size (w3.alloc (.cells #[.slice C1 l.length c1, .slice (some ⟨b2, o2, none⟩) e.length c2] 40)) (B := B) (q1.below ((Below.refl _ _).alloc (by omega) _)) (q2.below ((Below.refl _ _).alloc (by omega) _)) (by simp; omega) (by omega) (by omega) hI1 hI2 (by simp) (by simp) (by simp)
      unfold BoolIs at KF
      cases hf : fullB l e with
      | true =>
        have HR : Hid (postR l e = ([], 8)) := postR_full HP.out HLt.out hf
        rw [hf] at KF
        have KF := Lib.hid KF
        clear hf
        go_wp2_with (first | (go_at_call 41; (with_reducible refine KF.out.mono ?_); rintro x2 w2 ⟨rfl, hb2⟩) | fail)
        go_ret2
        exact PostRes.nil HR.out ((hbq.alloc (by omega) _).trans (hb2.mono (by simp; omega)))
      | false =>
        have HR : Hid (postR l e = (l ++ e, 0)) := postR_ok HP.out HLt.out hf
        rw [hf] at KF
        have KF := Lib.hid KF
        have KC := Lib.hid (fun (w2 : World) (hb : Below w3.heap.size w3 w2) => concat_any l e C1 (some ⟨b2, o2, none⟩) c1 c2 w2.heap.size (w2.alloc (.cells #[.slice C1 l.length c1, .slice (some ⟨b2, o2, none⟩) e.length c2] 40)) (B := B) ((q1.below (hb.mono (by omega))).below ((Below.refl _ _).alloc (by have := hb.size; omega) _)) ((q2.below (hb.mono (by omega))).below ((Below.refl _ _).alloc (by have := hb.size; omega) _)) (by have := hb.size; simp; omega) (by omega) (by omega) (by omega) (by simp) (by simp) (by simp))
        clear hf
        go_wp2_with (first | (go_at_call 41; (with_reducible refine KF.out.mono ?_); rintro x2 w2 ⟨rfl, hb2⟩; have hb3 : Below w3.heap.size w3 w2 := ((Below.refl _ _).alloc (Nat.le_refl _) _).trans (hb2.mono (by simp))) | (go_at_call 42; (with_reducible refine (KC.out _ hb3).mono ?_); rintro x4 w4 ⟨v4, rfl, hown, hb4⟩) | fail)
        have hz2 := hb3.size
        have hbF : Below w.heap.size w w4 := ((hbq.trans (hb3.mono hz1)).alloc (by omega) _).trans (hb4.mono (by simp; omega))
        obtain ⟨D, dc, he, hD, hF⟩ := ents_of_owns hown
        have hcap := owns_cap hown he
        subst he
        clear hown
        go_wp2_with fail
        go_ret2
        rw [HR.out]
        exact ⟨D, dc, rfl, hcap, hD, fun a ha => by have := hF a ha; simp at this; omega, hbF⟩
    · obtain ⟨n, hn⟩ : ∃ n, l.length = n + 1 := ⟨l.length - 1, by have := List.length_pos_iff.2 hl0; omega⟩
      obtain ⟨q, hq⟩ : ∃ q, l[n]? = some q := ⟨_, List.getElem?_eq_getElem (by omega)⟩
      obtain ⟨b1, o1, rfl, hb1', y0, y1, _⟩ := (h1.below (hb1.mono hB)).at_ hq
      have hb1w : b1 < w1.heap.size := by omega
      have hlate := lateB_of hn hq HH.out
      have v1 : IntKind.i64.wrap ((l.length : Int) - 1) = (n : Int) := by rw [IntKind.wrap_i64]; omega
      have v2 : (l.length : Int) - 1 = (n : Int) := by omega
      have v3 : IntKind.i64.wrap (n : Int) = (n : Int) := by rw [IntKind.wrap_i64]; omega
      have v4 : (n : Int) < (l.length : Int) := by omega
      have v5 : (0 : Int) < (l.length : Int) := by omega
      have v6 : n < l.length := by omega
      have v7 : decide ((0 : Int) < (l.length : Int)) = true := decide_eq_true v5
      have v8 : decide (0 < l.length) = true := decide_eq_true (by omega)
      have hN := Lib.hid hn
      clear hn hq hl0
      by_cases hk : h.known < q.known
      · have d1 : decide (h.known < q.known) = true := decide_eq_true hk
        have HR : Hid (postR l e = ([], 15)) := postR_late HP.out (hlate.trans d1)
        clear hlate
        go_quiet (fail)
        go_wp2_with fail
        go_ret2
        exact PostRes.nil HR.out (below_drewN hb1 _)
      · have d1 : decide (h.known < q.known) = false := decide_eq_false hk
        have HLt : Hid (lateB l e = false) := hlate.trans d1
        clear hlate
        go_quiet (fail)
        have hbq := below_drewN hb1 nq
        clear hb1 hb2w hbz z0 z1 hb1w y0 y1
        generalize w1.drewN nq = w3 at hbq ⊢
        have q1 : EntsAt w3 B (some ⟨b1, o1, none⟩) l := h1.below (hbq.mono hB)
        have q2 : EntsAt w3 B (some ⟨b2, o2, none⟩) e := h2.below (hbq.mono hB)
        have hz1 := hbq.size
        have KF := full_any l e (some ⟨b1, o1, none⟩) (some ⟨b2, o2, none⟩) c1 c2 w3.heap.size (w3.alloc (.cells #[.slice (some ⟨b1, o1, none⟩) l.length c1, .slice (some ⟨b2, o2, none⟩) e.length c2] 40)) (B := B) (q1.below ((Below.refl _ _).alloc (by omega) _)) (q2.below ((Below.refl _ _).alloc (by omega) _)) (by simp; omega) (by omega) (by omega) hI1 hI2 (by simp) (by simp) (by simp)
        unfold BoolIs at KF
        cases hf : fullB l e with
        | true =>
          have HR : Hid (postR l e = ([], 8)) := postR_full HP.out HLt.out hf
          rw [hf] at KF
          have KF := Lib.hid KF
          clear hf
          go_wp2_with (first | (go_at_call 41; (with_reducible refine KF.out.mono ?_); rintro x2 w2 ⟨rfl, hb2⟩) | fail)
          go_ret2
          exact PostRes.nil HR.out ((hbq.alloc (by omega) _).trans (hb2.mono (by simp; omega)))
        | false =>
          have HR : Hid (postR l e = (l ++ e, 0)) := postR_ok HP.out HLt.out hf
          rw [hf] at KF
          have KF := Lib.hid KF
          have KC := Lib.hid (fun (w2 : World) (hb : Below w3.heap.size w3 w2) => concat_any l e (some ⟨b1, o1, none⟩) (some ⟨b2, o2, none⟩) c1 c2 w2.heap.size (w2.alloc (.cells #[.slice (some ⟨b1, o1, none⟩) l.length c1, .slice (some ⟨b2, o2, none⟩) e.length c2] 40)) (B := B) ((q1.below (hb.mono (by omega))).below ((Below.refl _ _).alloc (by have := hb.size; omega) _)) ((q2.below (hb.mono (by omega))).below ((Below.refl _ _).alloc (by have := hb.size; omega) _)) (by have := hb.size; simp; omega) (by omega) (by omega) (by omega) (by simp) (by simp) (by simp))
          clear hf
          go_wp2_with (first | (go_at_call 41; (with_reducible refine KF.out.mono ?_); rintro x2 w2 ⟨rfl, hb2⟩; have hb3 : Below w3.heap.size w3 w2 := ((Below.refl _ _).alloc (Nat.le_refl _) _).trans (hb2.mono (by simp))) | (go_at_call 42; (with_reducible refine (KC.out _ hb3).mono ?_); rintro x4 w4 ⟨v4, rfl, hown, hb4⟩) | fail)
          have hz2 := hb3.size
          have hbF : Below w.heap.size w w4 := ((hbq.trans (hb3.mono hz1)).alloc (by omega) _).trans (hb4.mono (by simp; omega))
          obtain ⟨D, dc, he, hD, hF⟩ := ents_of_owns hown
          have hcap := owns_cap hown he
          subst he
          clear hown
          go_wp2_with fail
          go_ret2
          rw [HR.out]
          exact ⟨D, dc, rfl, hcap, hD, fun a ha => by have := hF a ha; simp at this; omega, hbF⟩
end Go.Proofs.Ythoigjkelinjhaa.LD

/- Plain laws of a booked ledger. -/
namespace Go.Proofs.Ythoigjkelinjhaa.LD.LG

def litS (l : List Et) : Int := (lits l).sum
def sumF (f : Et → Bool) (l : List Et) : Int := litS (l.filter f)
theorem litS_nil : litS [] = 0 := rfl
theorem litS_cons (e : Et) (l : List Et) : litS (e :: l) = e.litres + litS l := by simp [litS, lits]
theorem litS_append (a b : List Et) : litS (a ++ b) = litS a + litS b := by
  induction a with
  | nil => rw [List.nil_append, litS_nil]; omega
  | cons e a ih => rw [List.cons_append, litS_cons, litS_cons, ih]; omega
theorem litS_perm {a b : List Et} (h : a.Perm b) : litS a = litS b := by
  induction h with
  | nil => rfl
  | cons e _ ih => rw [litS_cons, litS_cons, ih]
  | swap x y l => rw [litS_cons, litS_cons, litS_cons, litS_cons]; omega
  | trans _ _ h1 h2 => rw [h1, h2]
theorem sumF_nil (f : Et → Bool) : sumF f [] = 0 := rfl
theorem sumF_cons (f : Et → Bool) (e : Et) (l : List Et) : sumF f (e :: l) = (if f e then e.litres else 0) + sumF f l := by
  unfold sumF
  cases h : f e
  · rw [List.filter_cons_of_neg (by simp [h])]; simp
  · rw [List.filter_cons_of_pos h, litS_cons]; simp
theorem sumF_append (f : Et → Bool) (a b : List Et) : sumF f (a ++ b) = sumF f a + sumF f b := by
  unfold sumF; rw [List.filter_append, litS_append]
theorem sumF_true (l : List Et) : sumF (fun _ => true) l = litS l := by unfold sumF; rw [List.filter_eq_self.2 (fun _ _ => rfl)]
theorem sumF_congr {f g : Et → Bool} {l : List Et} (h : ∀ e ∈ l, f e = g e) : sumF f l = sumF g l := by unfold sumF; rw [List.filter_congr h]
theorem sumF_none {f : Et → Bool} {l : List Et} (h : ∀ e ∈ l, f e = false) : sumF f l = 0 := by
  unfold sumF; rw [List.filter_eq_nil_iff.2 (fun e he => by simp [h e he])]; rfl
theorem sumF_filter (f g : Et → Bool) (l : List Et) : sumF f (l.filter g) = sumF (fun e => g e && f e) l := by
  induction l with
  | nil => rfl
  | cons e l ih =>
    rw [sumF_cons]
    cases h : g e
    · rw [List.filter_cons_of_neg (by simp [h]), ih]; simp
    · rw [List.filter_cons_of_pos h, sumF_cons, ih]; simp
theorem absI_nn (n : Int) : 0 ≤ absI n := by unfold absI; split <;> omega
theorem absI_le (n : Int) : -absI n ≤ n ∧ n ≤ absI n := by unfold absI; split <;> omega
theorem absS_cons (e : Et) (l : List Et) : absS (e :: l) = absI e.litres + absS l := by simp [absS]
theorem absS_nn (l : List Et) : 0 ≤ absS l := by
  induction l with
  | nil => exact Int.le_refl _
  | cons e l ih => rw [absS_cons]; have := absI_nn e.litres; omega
theorem litS_abs (l : List Et) : -absS l ≤ litS l ∧ litS l ≤ absS l := by
  induction l with
  | nil => exact ⟨Int.le_refl _, Int.le_refl _⟩
  | cons e l ih => rw [absS_cons, litS_cons]; have := absI_le e.litres; omega
theorem absS_append (a b : List Et) : absS (a ++ b) = absS a + absS b := by
  induction a with
  | nil => show absS b = 0 + absS b; omega
  | cons e a ih => rw [List.cons_append, absS_cons, absS_cons, ih]; omega
theorem absS_filter (f : Et → Bool) (l : List Et) : absS (l.filter f) ≤ absS l := by
  induction l with
  | nil => exact Int.le_refl _
  | cons e l ih =>
    rw [absS_cons]
    have := absI_nn e.litres
    cases h : f e
    · rw [List.filter_cons_of_neg (by simp [h])]; omega
    · rw [List.filter_cons_of_pos h, absS_cons]; omega
theorem absS_take (l : List Et) (k : Nat) : absS (l.take k) ≤ absS l := by
  have h := absS_append (l.take k) (l.drop k)
  rw [List.take_append_drop] at h
  have := absS_nn (l.drop k)
  omega
theorem absS_perm {a b : List Et} (h : a.Perm b) : absS a = absS b := by
  induction h with
  | nil => rfl
  | cons e _ ih => rw [absS_cons, absS_cons, ih]
  | swap x y l => rw [absS_cons, absS_cons, absS_cons, absS_cons]; omega
  | trans _ _ h1 h2 => rw [h1, h2]
theorem okE_all {e : Et} (h : okE e = true) : 0 ≤ e.day ∧ e.day ≤ 699050 ∧ 0 ≤ e.known ∧ e.known ≤ 16777216 ∧ -1 ≤ e.owner ∧ e.owner ≤ 15 ∧ 0 ≤ e.place ∧ e.place ≤ 63 ∧ -1125899906842624 ≤ e.litres ∧ e.litres ≤ 1125899906842624 := by
  unfold okE wit at h
  simp only [Bool.and_eq_true, decide_eq_true_eq] at h
  omega
theorem absS_le {l : List Et} (h : ∀ e ∈ l, okE e = true) : absS l ≤ l.length * 1125899906842624 := by
  induction l with
  | nil => exact Int.le_refl _
  | cons e l ih =>
    have i := ih (fun x hx => h x (List.mem_cons_of_mem _ hx))
    have o := okE_all (h e (List.mem_cons_self ..))
    rw [absS_cons, List.length_cons]
    have : absI e.litres ≤ 1125899906842624 := by unfold absI; split <;> omega
    push_cast
    omega
/-- Of at most 128 good entries every sum is far from the edges. -/
theorem small_le {l : List Et} (h : ∀ e ∈ l, okE e = true) (hl : l.length ≤ 128) : absS l ≤ 144115188075855872 := by
  have := absS_le h
  omega
theorem sumX_of {l : List Et} (h : absS l ≤ 144115188075855872) : sumX (lits l) = (litS l, true) := by
  have := litS_abs l
  unfold sumX
  rw [if_pos]; · rfl
  · show inB (litS l) = true
    unfold inB
    simp only [Bool.and_eq_true, decide_eq_true_eq]
    omega
theorem account_eq {l : List Et} (h : absS l ≤ 144115188075855872) (o p d k : Int) : account l o p d k = sumF (accB o p d k) l := by
  unfold account
  rw [sumX_of (Int.le_trans (absS_filter _ _) h)]; rfl
theorem sumF_abs (f : Et → Bool) (l : List Et) : -absS l ≤ sumF f l ∧ sumF f l ≤ absS l := by
  have h1 := litS_abs (l.filter f)
  have h2 := absS_filter f l
  unfold sumF
  omega
theorem zeroX_sum {l : List Et} (h : zeroX l = true) : litS l = 0 := by
  unfold zeroX at h
  rw [Bool.and_eq_true, decide_eq_true_eq] at h
  obtain ⟨h1, h2⟩ := h
  unfold sumX at h1 h2
  split at h2
  · exact h2
  · simp_all
theorem zeroX_of {l : List Et} (h : litS l = 0) : zeroX l = true := by
  have hs : (lits l).sum = 0 := h
  unfold zeroX sumX
  rw [hs]
  rfl
theorem zeroX_no {l : List Et} (h : litS l ≠ 0) : zeroX l = false := by
  cases hz : zeroX l
  · rfl
  · exact absurd (zeroX_sum hz) h
theorem postB_parts {p : List Et} (h : postB p = true) : p ≠ [] ∧ (∀ e ∈ p, okE e = true ∧ e.day = (p.headD default).day ∧ e.known = (p.headD default).known) ∧ litS p = 0 := by
  unfold postB at h
  rw [Bool.and_eq_true, Bool.and_eq_true] at h
  obtain ⟨⟨h1, h2⟩, h3⟩ := h
  refine ⟨by rintro rfl; simp at h1, fun e he => ?_, zeroX_sum h3⟩
  have := List.all_eq_true.1 h2 e he
  unfold sameG at this
  simp only [Bool.and_eq_true, decide_eq_true_eq] at this
  exact this
theorem postB_of {p : List Et} {a b : Int} (h1 : p ≠ []) (h2 : ∀ e ∈ p, okE e = true ∧ e.day = a ∧ e.known = b) (h3 : litS p = 0) : postB p = true := by
  unfold postB
  have hh : p.headD default ∈ p := by
    cases p with
    | nil => exact absurd rfl h1
    | cons x p => exact List.mem_cons_self ..
  have g := h2 _ hh
  rw [Bool.and_eq_true, Bool.and_eq_true]
  refine ⟨⟨by cases p <;> simp_all, List.all_eq_true.2 fun e he => ?_⟩, zeroX_of h3⟩
  have q := h2 e he
  unfold sameG
  simp only [Bool.and_eq_true, decide_eq_true_eq]
  exact ⟨q.1, by rw [q.2.1, g.2.1], by rw [q.2.2, g.2.2]⟩
/-- What is booked posting by posting. -/
inductive Led : List Et → Prop
  | nil : Led []
  | step {l p : List Et} : Led l → postB p = true → Led (l ++ p)
theorem Led.ok {l : List Et} (h : Led l) : ∀ e ∈ l, okE e = true := by
  induction h with
  | nil => exact fun e he => nomatch he
  | step _ hp ih =>
    intro e he
    rcases List.mem_append.1 he with h | h
    · exact ih e h
    · exact ((postB_parts hp).2.1 e h).1
/-- What looks at the day and the hour alone sums to naught. -/
theorem group_zero {f : Et → Bool} (hf : ∀ a b : Et, a.day = b.day → a.known = b.known → f a = f b) {p : List Et} (hp : postB p = true) : sumF f p = 0 := by
  obtain ⟨h1, h2, h3⟩ := postB_parts hp
  have hall : ∀ e ∈ p, f e = f (p.headD default) := fun e he => hf _ _ (h2 e he).2.1 (h2 e he).2.2
  rw [sumF_congr (g := fun _ => f (p.headD default)) hall]
  cases f (p.headD default)
  · exact sumF_none (fun _ _ => rfl)
  · rw [sumF_true, h3]
theorem Led.zero {f : Et → Bool} (hf : ∀ a b : Et, a.day = b.day → a.known = b.known → f a = f b) {l : List Et} (h : Led l) : sumF f l = 0 := by
  induction h with
  | nil => rfl
  | step _ hp ih => rw [sumF_append, ih, group_zero hf hp]; rfl
theorem Led.account {l : List Et} (h : Led l) (hl : l.length ≤ 128) (d k : Int) : account l (-1) (-1) d k = 0 := by
  rw [account_eq (small_le h.ok hl)]
  exact h.zero (fun a b h1 h2 => by unfold accB; rw [h1, h2]; simp)
theorem Led.balanced {l : List Et} (h : Led l) (k : Int) : balanced l k = true := by
  unfold LG.balanced
  refine List.all_eq_true.2 fun e _ => ?_
  rw [zeroX_of (h.zero (f := sameG e) (fun a b h1 h2 => by unfold sameG; rw [h1, h2]))]
  simp
end Go.Proofs.Ythoigjkelinjhaa.LD.LG

/- A map that the call has made whose elements are rows of integers of the call's own: the entry, the row grown, the store. -/
namespace Go.Proofs.Ythoigjkelinjhaa.LD
set_option maxRecDepth 100000
open Go Go.RowKit Go.ChangeMaps Go.WideElems

section
variable {α : Type} [DecidableEq α]
theorem findE_spec (x : α) : ∀ (ks : List α) (es : List MapEntry) (i : Nat), es.length = ks.length →
    (findE x ks es i = none ∧ x ∉ ks) ∨ ∃ (j : Nat) (e : MapEntry), findE x ks es i = some (i + j, e.val) ∧ es[j]? = some e ∧ ks[j]? = some x
  | [], [], _, _ => .inl ⟨rfl, by simp⟩
  | [], _ :: _, _, h => by simp at h
  | _ :: _, [], _, h => by simp at h
  | k :: ks, e :: es, i, h => by
    unfold findE
    by_cases q : x = k
    · subst q
      rw [if_pos rfl]
      exact .inr ⟨0, e, rfl, rfl, rfl⟩
    · rw [if_neg q]
      rcases findE_spec x ks es (i + 1) (by simpa using h) with ⟨h1, h2⟩ | ⟨j, e0, h1, h2, h3⟩
      · exact .inl ⟨h1, by simp [q, h2]⟩
      · exact .inr ⟨j + 1, e0, by rw [h1]; congr 2; omega, by simpa using h2, by simpa using h3⟩

/-- Block b is a map from keys to rows of integers, no two of them in one block. -/
structure GrpE (w : World) (base b : Nat) (f : α → Value) (te : TypeId) (es : Array MapEntry) (clock : Nat) (m : List (α × List Int)) : Prop where
  hb : w.heap[b]? = some (.map es clock)
  hbb : b < base
  len : es.size = m.length
  key : es.toList.map (·.key) = (m.map (·.1)).map f
  row : ∀ (i : Nat) (e : MapEntry) (p : α × List Int), es[i]? = some e → m[i]? = some p → w.ownsRow base te 1 e.val p.2.length (p.2.map (Value.int .i64))
  old : ∀ e ∈ es.toList, e.born < clock
  nd : (es.toList.map (·.born)).Nodup
  apart : ∀ (i j : Nat) (ei ej : MapEntry) (g : Nat), es[i]? = some ei → es[j]? = some ej → i ≠ j → ei.val.ownBlock = some g → ej.val.ownBlock ≠ some g
variable {w w1 w2 : World} {base b : Nat} {f : α → Value} {te : TypeId} {es : Array MapEntry} {clock : Nat} {m : List (α × List Int)}
omit [DecidableEq α] in
theorem GrpE.made (w : World) (f : α → Value) (te : TypeId) : GrpE (w.alloc (.map #[] 0)) (w.heap.size + 1) w.heap.size f te #[] 0 [] :=
  ⟨heap_alloc_new w _, Nat.lt_succ_self _, rfl, rfl, fun i e p h => by simp at h, fun e h => by simp at h, List.nodup_nil, fun i j ei ej g h => by simp at h⟩
omit [DecidableEq α] in
theorem GrpE.lt (h : GrpE w base b f te es clock m) : b < w.heap.size := (Array.getElem?_eq_some_iff.1 h.hb).1
omit [DecidableEq α] in
theorem GrpE.val_lt (h : GrpE w base b f te es clock m) {i g : Nat} {e : MapEntry} (he : es[i]? = some e) (hg : e.val.ownBlock = some g) : base ≤ g ∧ g < w.heap.size := by
  have hi : i < m.length := by rw [← h.len]; exact (Array.getElem?_eq_some_iff.1 he).1
  exact (h.row i e _ he (List.getElem?_eq_getElem hi)).lt g hg
omit [DecidableEq α] in
theorem GrpE.below (h : GrpE w base b f te es clock m) (hb : Below w.heap.size w w1) : GrpE w1 base b f te es clock m :=
  ⟨(hb.block b h.lt).trans h.hb, h.hbb, h.len, h.key, fun i e p h1 h2 => row_below (h.row i e p h1 h2) hb, h.old, h.nd, h.apart⟩
omit [DecidableEq α] in
theorem setBlock_self {o : Obj} (h : w.heap[b]? = some o) : setBlock w b o = w := by
  unfold setBlock
  have : w.heap.setIfInBounds b o = w.heap := by
    apply Array.ext_getElem?
    intro i
    rw [Array.getElem?_setIfInBounds]
    split
    · rename_i hi; subst hi; rw [h]; split <;> simp_all
    · rfl
  rw [this]
omit [DecidableEq α] in
theorem own_set {n : Nat} {v : Value} {xs : List Value} {es0 : Array MapEntry} {c0 : Nat} (hb0 : w.heap[b]? = some (.map es0 c0)) (h : w.ownsRow base te 1 v n xs) (hbb : b < base) (o : Obj) : (setBlock w b o).ownsRow base te 1 v n xs := by
  refine h.kept (row := some b) ⟨rfl, rfl, rfl, by simp [setBlock], fun i _ hi => heap_setBlock_other hb0 _ (fun e => hi (by rw [e]))⟩ ?_
  rcases h.2 with ⟨rfl, _⟩ | ⟨g, cap, cur, rfl, hb, _, _⟩
  · exact .inl rfl
  · refine .inr ?_
    simp only [Value.ownBlock]
    intro e
    injection e with e
    omega
/-- The entry of a key: it is there afterwards, and its row is handed out. -/
theorem GrpE.entry {P : Program} {t k E : TypeId} (h : GrpE w base b f te es clock m) (K : KeyX P k f) (ht : P.underlying t = some (.map k E)) (hz : ∀ u : World, (zeroValue E).run P u = .ok (.slice none 0 0) u) (x : α) :
    ∃ (es1 : Array MapEntry) (clock1 i : Nat) (e1 : MapEntry) (L : List Int) (m1 : List (α × List Int)), (Instr.mapEntry t (.map (some b)) (f x)).run P w = .ok (.tuple #[e1.val, goInt e1.born]) (setBlock w b (.map es1 clock1)) ∧
      GrpE (setBlock w b (.map es1 clock1)) base b f te es1 clock1 m1 ∧ es1[i]? = some e1 ∧ m1[i]? = some (x, L) ∧ ((m1 = m) ∨ (x ∉ m.map (·.1) ∧ L = [] ∧ m1 = m ++ [(x, [])])) := by
  have hf := K.find x w es.toList (m.map (·.1)) h.key
  rcases findE_spec x (m.map (·.1)) es.toList 0 (by simp [h.len]) with ⟨q1, q2⟩ | ⟨j, e0, q1, q2, q3⟩
  · rw [q1] at hf
    refine ⟨es.push ⟨f x, .slice none 0 0, clock⟩, clock + 1, es.size, ⟨f x, .slice none 0 0, clock⟩, [], m ++ [(x, [])], ?_, ?_, by simp, by simp [h.len], .inr ⟨q2, rfl, rfl⟩⟩
    · simp [Instr.mapEntry, run_underlying ht, MapKept.run_getObj_map h.hb, K.check, hf, hz, MapKept.run_setObj_map _ h.hb, Result.andThen, setBlock]
    · refine ⟨heap_setBlock_same h.hb _, h.hbb, by simp [h.len], by simp [h.key], fun i e p he hp => ?_, fun e he => ?_, ?_, fun i j ei ej g hi hj hij hg => ?_⟩
      · rw [Array.getElem?_push] at he
        split at he
        · rename_i hi
          injection he with he
          subst he
          have hl := h.len
          rw [List.getElem?_append_right (by omega)] at hp
          have : i - m.length = 0 := by omega
          rw [this] at hp
          simp at hp
          subst hp
          exact own_set h.hb (World.ownsRow_nil _ _ _ _) h.hbb _
        · have hi : i < m.length := by rw [← h.len]; exact (Array.getElem?_eq_some_iff.1 he).1
          rw [List.getElem?_append_left hi] at hp
          exact own_set h.hb (h.row i e p he hp) h.hbb _
      · rw [Array.toList_push, List.mem_append] at he
        rcases he with q | q
        · have := h.old e q; omega
        · simp at q; subst q; show clock < clock + 1; omega
      · rw [Array.toList_push, List.map_append]
        refine List.nodup_append.2 ⟨h.nd, by simp, fun a ha c hc e1 => ?_⟩
        simp at hc
        obtain ⟨e, he, rfl⟩ := List.mem_map.1 ha
        have := h.old e he
        omega
      · rw [Array.getElem?_push] at hi hj
        split at hi
        · injection hi with hi; subst hi; simp [Value.ownBlock] at hg
        · split at hj
          · injection hj with hj; subst hj; simp [Value.ownBlock]
          · exact h.apart i j ei ej g hi hj hij hg
  · rw [q1] at hf
    have hj : es[j]? = some e0 := by simpa using q2
    have hk : e0.key = f x := by
      have e1 := congrArg (fun l => l[j]?) h.key
      simp only [List.getElem?_map, Array.getElem?_toList, hj, q2] at e1
      rw [List.getElem?_map] at q3
      cases hm : m[j]? with
      | none => rw [hm] at q3; simp at q3
      | some p => rw [hm] at q3 e1; simp at q3 e1; rw [e1, q3]
    have hsame : es.modify j (fun e => { e with key := f x }) = es := by
      apply Array.ext'
      rw [Array.toList_modify, modify_eq_set _ _ _ _ q2]
      have : ({ e0 with key := f x } : MapEntry) = e0 := by rw [← hk]
      rw [this]
      exact set_self _ _ _ q2
    obtain ⟨p, hp⟩ : ∃ p, m[j]? = some p := ⟨_, List.getElem?_eq_getElem (by rw [← h.len]; exact (Array.getElem?_eq_some_iff.1 hj).1)⟩
    have hpx : p.1 = x := by rw [List.getElem?_map, hp] at q3; simpa using q3
    have hsb : setBlock w b (.map es clock) = w := setBlock_self h.hb
    refine ⟨es, clock, j, e0, p.2, m, ?_, by rw [hsb]; exact h, hj, by rw [hp, ← hpx], .inl rfl⟩
    simp [Instr.mapEntry, run_underlying ht, MapKept.run_getObj_map h.hb, K.check, hf, hj, hk, K.stays, hsame, MapKept.run_setObj_map _ h.hb, Result.andThen, setBlock]
omit [DecidableEq α] in
/-- The store behind: the row has grown, in its own block or in a new one. -/
theorem GrpE.store {P : Program} {t : TypeId} (h : GrpE w1 base b f te es clock m) {i : Nat} {e1 : MapEntry} {x : α} {L L' : List Int} {v' : Value} (he : es[i]? = some e1) (hp : m[i]? = some (x, L)) (hg : w1.grownBy w2 e1.val.ownBlock)
    (hrow : w2.ownsRow base te 1 v' L'.length (L'.map (Value.int .i64))) (hat : v'.ownBlock = e1.val.ownBlock ∨ v'.ownBlock = some w1.heap.size) :
    ∃ es' w3, (Instr.entryStore t (.map (some b)) (goInt e1.born) v').run P w2 = .ok () w3 ∧ GrpE w3 base b f te es' clock (m.set i (x, L')) ∧ w2.grownBy w3 (some b) := by
  have hbne : e1.val.ownBlock ≠ some b := fun q => by have := (h.val_lt he q).1; have := h.hbb; omega
  have hb2 : w2.heap[b]? = some (.map es clock) := (hg.block b h.lt (fun q => hbne q.symm)).trans h.hb
  have he' : es.toList[i]? = some e1 := by simpa using he
  have hidx : es.findIdx? (fun e => ((e.born : Nat) : Int) == ((e1.born : Nat) : Int)) = some i := by
    rw [findIdx_arr]; exact findIdx_born h.nd he'
  have hil : i < es.size := (Array.getElem?_eq_some_iff.1 he).1
  have hlist : (es.modify i (fun e => { e with val := v' })).toList = es.toList.set i { e1 with val := v' } := by rw [Array.toList_modify, modify_eq_set _ _ _ _ he']
  have hget : ∀ j, (es.modify i (fun e => { e with val := v' }))[j]? = if i = j then some { e1 with val := v' } else es[j]? := fun j => by
    rw [← Array.getElem?_toList, hlist, List.getElem?_set]
    split
    · rename_i q; subst q
      rw [if_pos (by simpa using hil)]
    · rw [Array.getElem?_toList]
  refine ⟨es.modify i (fun e => { e with val := v' }), setBlock w2 b (.map (es.modify i (fun e => { e with val := v' })) clock), ?_, ?_, ⟨rfl, rfl, rfl, by simp [setBlock], fun k _ hk => heap_setBlock_other hb2 _ (fun q => hk (by rw [q]))⟩⟩
  · simp [Instr.entryStore, MapKept.run_getObj_map hb2, asInt, asIntOf, goInt, hidx, MapKept.run_setObj_map _ hb2, Result.andThen, setBlock]
  have ho : ∀ (j g : Nat) (e : MapEntry), es[j]? = some e → j ≠ i → e.val.ownBlock = some g → v'.ownBlock ≠ some g := fun j g e hj hji hgj q => by
    rcases hat with q1 | q1
    · exact h.apart i j e1 e g he hj (fun q2 => hji q2.symm) (q1.symm.trans q) hgj
    · rw [q1] at q
      injection q with q
      have := (h.val_lt hj hgj).2
      omega
  refine ⟨heap_setBlock_same hb2 _, h.hbb, by rw [Array.size_modify, List.length_set]; exact h.len, ?_, fun j e p hj hpj => ?_, fun e hm => ?_, ?_, fun j k ej ek g hj hk hjk hgj => ?_⟩
  · have a1 : (es.toList.map (·.key)).set i e1.key = es.toList.map (·.key) := set_self _ _ _ (by rw [List.getElem?_map, he']; rfl)
    have a2 : (m.set i (x, L')).map (·.1) = m.map (·.1) := by
      rw [List.map_set]
      exact set_self _ _ _ (by rw [List.getElem?_map, hp]; rfl)
    rw [hlist, List.map_set, a2, ← h.key]
    exact a1
  · rw [hget] at hj
    rw [List.getElem?_set] at hpj
    split at hj
    · rename_i q; subst q
      injection hj with hj; subst hj
      rw [if_pos rfl, if_pos (by rw [← h.len]; exact hil)] at hpj
      injection hpj with hpj; subst hpj
      exact own_set hb2 hrow h.hbb _
    · rename_i q
      rw [if_neg q] at hpj
      refine own_set hb2 ((h.row j e p hj hpj).kept hg ?_) h.hbb _
      cases hv : e.val.ownBlock with
      | none => exact .inl rfl
      | some g => exact .inr (fun q2 => h.apart j i e e1 g hj he (fun q3 => q q3.symm) hv q2.symm)
  · rw [hlist] at hm
    rcases List.mem_or_eq_of_mem_set hm with q | q
    · exact h.old e q
    · subst q; exact h.old e1 (List.mem_of_getElem? he')
  · rw [hlist, List.map_set]
    have a1 : (es.toList.map (·.born)).set i e1.born = es.toList.map (·.born) := set_self _ _ _ (by rw [List.getElem?_map, he']; rfl)
    show ((es.toList.map (·.born)).set i e1.born).Nodup
    rw [a1]; exact h.nd
  · rw [hget] at hj hk
    split at hj
    · rename_i q; subst q
      injection hj with hj; subst hj
      rw [if_neg hjk] at hk
      intro q2
      exact ho k g ek hk (fun q3 => hjk q3.symm) q2 hgj
    · rename_i q
      split at hk
      · rename_i q3; subst q3
        injection hk with hk; subst hk
        exact ho j g ej hj (fun q4 => q q4.symm) hgj
      · exact h.apart j k ej ek g hj hk hjk hgj
end
end Go.Proofs.Ythoigjkelinjhaa.LD

/- Plain laws of groups by key. -/
namespace Go.Proofs.Ythoigjkelinjhaa.LD.GP
open LG

def keyE (e : Et) : Int × Int := (e.day, e.known)
/-- The groups are those of the entries: each key once, with the litres of its entries in their order. -/
structure Good (m : List ((Int × Int) × List Int)) (l : List Et) : Prop where
  nd : (m.map (·.1)).Nodup
  val : ∀ p ∈ m, p.2 = lits (l.filter (fun e => decide (keyE e = p.1)))
  all : ∀ e ∈ l, ∃ p ∈ m, p.1 = keyE e
theorem Good.nil : Good [] [] := ⟨List.nodup_nil, (fun p h => nomatch h), (fun e h => nomatch h)⟩
theorem lits_append (a b : List Et) : lits (a ++ b) = lits a ++ lits b := by simp [lits]
theorem nodup_get {α : Type} {l : List α} (h : l.Nodup) {i j : Nat} {x : α} (hi : l[i]? = some x) (hj : l[j]? = some x) : i = j := by
  have hi' := List.getElem?_eq_some_iff.1 hi
  have hj' := List.getElem?_eq_some_iff.1 hj
  rcases Nat.lt_trichotomy i j with c | c | c
  · have := List.pairwise_iff_getElem.1 h i j hi'.1 hj'.1 c
    exact absurd (hi'.2.trans hj'.2.symm) this
  · exact c
  · have := List.pairwise_iff_getElem.1 h j i hj'.1 hi'.1 c
    exact absurd (hj'.2.trans hi'.2.symm) this
theorem Good.step {m m1 : List ((Int × Int) × List Int)} {l : List Et} {e : Et} {i : Nat} {L : List Int} (h : Good m l) (h1 : (m1 = m) ∨ (keyE e ∉ m.map (·.1) ∧ L = [] ∧ m1 = m ++ [(keyE e, [])])) (hi : m1[i]? = some (keyE e, L)) :
    Good (m1.set i (keyE e, L ++ [e.litres])) (l ++ [e]) := by
  have nd1 : (m1.map (·.1)).Nodup := by
    rcases h1 with rfl | ⟨q1, q2, rfl⟩
    · exact h.nd
    · rw [List.map_append]
      exact List.nodup_append.2 ⟨h.nd, by simp, fun a ha b hb e1 => by simp at hb; subst hb; subst e1; exact q1 ha⟩
  have val1 : ∀ p ∈ m1, p.2 = lits (l.filter (fun x => decide (keyE x = p.1))) := by
    rcases h1 with rfl | ⟨q1, q2, rfl⟩
    · exact h.val
    · intro p hp
      rcases List.mem_append.1 hp with c | c
      · exact h.val p c
      · simp at c
        subst c
        have : l.filter (fun x => decide (keyE x = keyE e)) = [] := by
          rw [List.filter_eq_nil_iff]
          intro x hx hk
          obtain ⟨p, hp1, hp2⟩ := h.all x hx
          exact q1 (List.mem_map.2 ⟨p, hp1, by rw [hp2]; simpa using hk⟩)
        show [] = lits (l.filter _)
        rw [this]; rfl
  have hil := (List.getElem?_eq_some_iff.1 hi).1
  have hks : (m1.set i (keyE e, L ++ [e.litres])).map (·.1) = m1.map (·.1) := by
    rw [List.map_set]
    apply List.ext_getElem?
    intro j
    rw [List.getElem?_set]
    split
    · rename_i q; subst q
      rw [if_pos (by simpa using hil), List.getElem?_map, hi]; rfl
    · rfl
  refine ⟨by rw [hks]; exact nd1, fun p hp => ?_, fun x hx => ?_⟩
  · obtain ⟨j, hj⟩ := List.mem_iff_getElem?.1 hp
    rw [List.getElem?_set] at hj
    rw [List.filter_append, lits_append]
    split at hj
    · rename_i q; subst q
      injection hj with hj; subst hj
      have := val1 _ (List.mem_of_getElem? hi)
      show L ++ [e.litres] = _
      rw [show L = lits (l.filter (fun x => decide (keyE x = keyE e))) from this]
      simp [lits]
    · rename_i q
      have hne : keyE e ≠ p.1 := fun q2 => q (nodup_get nd1 (i := i) (j := j) (x := keyE e) (by rw [List.getElem?_map, hi]; rfl) (by rw [List.getElem?_map, hj]; simp [q2]))
      rw [val1 p (List.mem_of_getElem? hj)]
      simp [lits, hne]
  · have hx' : ∃ p ∈ m1, p.1 = keyE x := by
      rcases List.mem_append.1 hx with c | c
      · obtain ⟨p, hp1, hp2⟩ := h.all x c
        rcases h1 with rfl | ⟨q1, q2, rfl⟩
        · exact ⟨p, hp1, hp2⟩
        · exact ⟨p, by simp [hp1], hp2⟩
      · simp at c; subst c
        exact ⟨_, List.mem_of_getElem? hi, rfl⟩
    obtain ⟨p, hp1, hp2⟩ := hx'
    have : p.1 ∈ (m1.set i (keyE e, L ++ [e.litres])).map (·.1) := by rw [hks]; exact List.mem_map.2 ⟨p, hp1, rfl⟩
    obtain ⟨p', a, b⟩ := List.mem_map.1 this
    exact ⟨p', a, b.trans hp2⟩
/-- All groups are zero just where each entry's group is. -/
theorem Good.balanced {m : List ((Int × Int) × List Int)} {l : List Et} {known : Int} (h : Good m (l.filter (fun e => decide (e.known ≤ known)))) :
    LG.balanced l known = m.all (fun p => (sumX p.2).2 && decide ((sumX p.2).1 = 0)) := by
  have hg : ∀ (e : Et), e.known ≤ known → lits ((l.filter (fun e => decide (e.known ≤ known))).filter (fun x => decide (keyE x = keyE e))) = lits (l.filter (sameG e)) := fun e he => by
    rw [List.filter_filter]
    congr 1
    apply List.filter_congr
    intro x _
    unfold sameG keyE
    rw [Bool.eq_iff_iff]
    simp
    omega
  rw [Bool.eq_iff_iff, LG.balanced, List.all_eq_true, List.all_eq_true]
  constructor
  · intro H p hp
    rw [h.val p hp]
    by_cases hq : ∃ e ∈ l.filter (fun e => decide (e.known ≤ known)), p.1 = keyE e
    · obtain ⟨e, he, hpe⟩ := hq
      obtain ⟨he1, he2⟩ := List.mem_filter.1 he
      have he2 : e.known ≤ known := by simpa using he2
      rw [hpe, hg e he2]
      have := H e he1
      rw [decide_eq_true he2] at this
      simpa [zeroX] using this
    · have : (l.filter (fun e => decide (e.known ≤ known))).filter (fun x => decide (keyE x = p.1)) = [] := by
        rw [List.filter_eq_nil_iff]
        intro x hx hk
        exact hq ⟨x, hx, by simpa using (of_decide_eq_true hk).symm⟩
      rw [this]; decide
  · intro H e he
    by_cases he2 : e.known ≤ known
    · obtain ⟨p, hp1, hp2⟩ := h.all e (List.mem_filter.2 ⟨he, by simpa using he2⟩)
      have := H p hp1
      rw [h.val p hp1, hp2, hg e he2] at this
      rw [decide_eq_true he2]
      simpa [zeroX] using this
    · rw [decide_eq_false he2]; rfl
end Go.Proofs.Ythoigjkelinjhaa.LD.GP

/- The walk of Balanced. -/
namespace Go.Proofs.Ythoigjkelinjhaa.LD
set_option maxRecDepth 100000
open Go.RowKit LG GP
attribute [local go_sem] alloc_drewN setCell_drewN shape_drewN

def keyV (x : Int × Int) : Value := .agg #[.int .i64 x.1, .int .i64 x.2]
theorem Try.eqWhen (x y : Int × Int) (w : World) : (Op.equal 83 (keyV x) (keyV y)).run Try.prog w = .ok (decide (x = y)) w := by
  have h : (Op.equalIn 10000 83 (keyV x) (keyV y)).run Try.prog w = .ok (decide (x = y)) w := by
    unfold keyV
    by_cases h1 : x.1 = y.1
    · by_cases h2 : x.2 = y.2
      · rw [decide_eq_true (Prod.ext h1 h2)]
        have g1 : (x.1 == y.1) = true := by simpa using h1
        have g2 : (x.2 == y.2) = true := by simpa using h2
        go_simp
      · rw [decide_eq_false (fun e => h2 (by rw [e]))]
        have g1 : (x.1 == y.1) = true := by simpa using h1
        have g2 : (x.2 == y.2) = false := by simpa using h2
        go_simp
    · rw [decide_eq_false (fun e => h1 (by rw [e]))]
      have g1 : (x.1 == y.1) = false := by simpa using h1
      go_simp
  exact h
theorem Try.keyWhen : KeyX Try.prog 83 keyV := by
  refine struct_keyX Try.underlying83 (fun em x w => ?_) Try.eqWhen (fun x => ?_)
  · have h : ∀ n, (Instr.checkKey em (n + 2) 83 (keyV x)).run Try.prog w = .ok () w := fun n => by
      unfold keyV
      rw [Instr.checkKey]
      simp [go_sem, run_underlying Try.underlying83, Instr.checkKey, Result.andThen]
    exact h 9998
  · simp [keyV, Instr.sameBits]
theorem Try.zeroInts (w : World) : (zeroValue 29).run Try.prog w = .ok (.slice none 0 0) w := by kernel_rfl

section
variable {P : Program} {α : Type} [DecidableEq α] {base b : Nat} {f : α → Value} {te : TypeId} {es : Array MapEntry} {clock : Nat} {m : List (α × List Int)}
theorem wpList_entryX (w : World) {ops : Array Oper} {rest : List Oper} {o : Oper} {a : Act} {Q : Exit → Act → World → Prop}
    (hg : o.guard = none) (mo xo : Operand) (t : TypeId) (hop : o.op = Op.mapEntry t mo xo) (k E : TypeId) (K : KeyX P k f) (ht : P.underlying t = some (.map k E)) (hz : ∀ u : World, (zeroValue E).run P u = .ok (.slice none 0 0) u)
    (hm : a.eval mo = .map (some b)) (hown : GrpE w base b f te es clock m) (x : α) (hx : a.eval xo = f x)
    (hK : ∀ (es1 : Array MapEntry) (clock1 i : Nat) (e1 : MapEntry) (L : List Int) (m1 : List (α × List Int)) (w1 : World), GrpE w1 base b f te es1 clock1 m1 → es1[i]? = some e1 → m1[i]? = some (x, L) → ((m1 = m) ∨ (x ∉ m.map (·.1) ∧ L = [] ∧ m1 = m ++ [(x, [])])) → w.grownBy w1 (some b) → w1.heap.size = w.heap.size →
      wpList P ops Q rest (a.put o.dst (.tuple #[e1.val, goInt e1.born])) w1) : wpList P ops Q (o :: rest) a w := by
  refine wpList_plain hg fun K' hK' => ?_
  obtain ⟨es1, clock1, i, e1, L, m1, hrun, r1, r2, r3, r4⟩ := hown.entry K ht hz x
  unfold Oper.wp
  simp [execOp, hop, hm, hx, hrun, Result.andThen]
  exact hK' _ _ (hK es1 clock1 i e1 L m1 _ r1 r2 r3 r4 ⟨rfl, rfl, rfl, by simp [Go.ChangeMaps.setBlock], fun i _ hi => Go.ChangeMaps.heap_setBlock_other hown.hb _ (fun e => hi (by rw [e]))⟩ (by simp [Go.ChangeMaps.setBlock]))
omit [DecidableEq α] in
theorem wpList_storeX (w w1 : World) {ops : Array Oper} {rest : List Oper} {o : Oper} {a : Act} {Q : Exit → Act → World → Prop}
    (hg : o.guard = none) (mo so vo : Operand) (t : TypeId) (hop : o.op = Op.entryStore t mo so vo) (hown : GrpE w1 base b f te es clock m) {i : Nat} {e1 : MapEntry} {x : α} {L : List Int} (L' : List Int) {v' : Value}
    (hm : a.eval mo = .map (some b)) (hs : a.eval so = goInt e1.born) (hv : a.eval vo = v') (he : es[i]? = some e1) (hp : m[i]? = some (x, L)) (hgr : w1.grownBy w e1.val.ownBlock)
    (hrow : w.ownsRow base te 1 v' L'.length (L'.map (Value.int .i64))) (hat : v'.ownBlock = e1.val.ownBlock ∨ v'.ownBlock = some w1.heap.size)
    (hK : ∀ (es' : Array MapEntry) (w3 : World), GrpE w3 base b f te es' clock (m.set i (x, L')) → w.grownBy w3 (some b) → wpList P ops Q rest (a.put o.dst undef) w3) : wpList P ops Q (o :: rest) a w := by
  refine wpList_plain hg fun K' hK' => ?_
  obtain ⟨es', w3, hrun, r1, r2⟩ := hown.store (t := t) (P := P) he hp hgr hrow hat
  unfold Oper.wp
  simp [execOp, hop, hm, hs, hv, hrun, Result.andThen]
  exact hK' _ _ (hK es' w3 r1 r2)
end
/-- The entries up to k that are known. -/
def knownT (l : List Et) (known : Int) (k : Nat) : List Et := (l.take k).filter (fun e => decide (e.known ≤ known))
theorem knownT_succ {l : List Et} {known : Int} {k : Nat} {e : Et} (h : l[k]? = some e) : knownT l known (k + 1) = if e.known ≤ known then knownT l known k ++ [e] else knownT l known k := by
  unfold knownT
  rw [List.take_add_one, h]
  by_cases hp : e.known ≤ known <;> simp [hp]
def zeroP (L : List Int) : Bool := (sumX L).2 && decide ((sumX L).1 = 0)
theorem born_inj' {es : List MapEntry} (hn : (es.map (·.born)).Nodup) {i j : Nat} {x y : MapEntry} (hx : es[i]? = some x) (hy : es[j]? = some y) (h : x.born = y.born) : i = j :=
  nodup_get hn (x := x.born) (by rw [List.getElem?_map, hx]; rfl) (by rw [List.getElem?_map, hy, h]; rfl)
theorem all_seen' (es : Array MapEntry) (seen : Array Nat) (h : (leftOf es seen).size = 0) : ∀ x ∈ es.toList, seen.contains x.born = true := fun x hx => by
  cases hc : seen.contains x.born with
  | true => rfl
  | false =>
    have : x ∈ leftOf es seen := Array.mem_filter.2 ⟨Array.mem_toList_iff.1 hx, by rw [hc]; rfl⟩
    have := Array.eq_empty_of_size_eq_zero h ▸ this
    simp at this
theorem vals_le {m : List ((Int × Int) × List Int)} {l : List Et} (h : GP.Good m l) : ∀ p ∈ m, p.2.length ≤ l.length ∧ ∀ x ∈ p.2, ∃ e ∈ l, e.litres = x := fun p hp => by
  rw [h.val p hp]
  refine ⟨by unfold lits; rw [List.length_map]; exact List.length_filter_le _ _, fun x hx => ?_⟩
  obtain ⟨e, he, rfl⟩ := List.mem_map.1 hx
  exact ⟨e, (List.mem_filter.1 he).1, rfl⟩
set_option maxRecDepth 100000 in
set_option maxHeartbeats 8000000 in
theorem balanced_any (l : List Et) (C : Option Addr) (cc : Nat) (known : Int) (w : World) {B : Nat} (hC : EntsAt w B C l) (hB : B ≤ w.heap.size) (hl : l.length ≤ 1000000) (hI : LitsIn l) :
    Calls Try.prog 19 #[.slice C l.length cc, .int .i64 known] w (BoolIs (balanced l known) w) := by
  obtain ⟨i0, hi, hz0, hz1, hz2⟩ := info_parts Try.infoInt
  have hmm := @run_makeMap Try.prog
  go_enter Try.func19, Try.ntmps19
  go_wp2_with fail
  clear hmm
  go_loopw [16] (fun i wr => ∃ (k : Nat) (es : Array MapEntry) (clock : Nat) (m : List ((Int × Int) × List Int)), k ≤ l.length ∧ i = .int .i64 k ∧ Hid (GrpE wr (w.heap.size + 1) w.heap.size keyV 3 es clock m) ∧ Hid (GP.Good m (knownT l known k)) ∧ Below w.heap.size w wr ∧ w.heap.size + 1 ≤ wr.heap.size) (fun i _ => l.length - (intOf i).toNat)
  case atStart => exact ⟨0, #[], 0, [], Nat.zero_le _, rfl, GrpE.made w keyV _, GP.Good.nil, (Below.refl _ _).alloc (Nat.le_refl _) _, by simp⟩
  case round =>
    obtain ⟨k, es, clock, m, hk, rfl, hG, hM, hBw, hz⟩ := hrel
    by_cases hlt : k < l.length
    · obtain ⟨e, hx⟩ : ∃ e, l[k]? = some e := ⟨_, List.getElem?_eq_getElem hlt⟩
      obtain ⟨b, off, rfl, hb, r0, r1, r2, r3, r4, r5, r6⟩ := (hC.below (hBw.mono hB)).at_ hx
      have HS := Lib.hid (knownT_succ (known := known) hx)
      have hbw : b < wr.heap.size := by omega
      clear hx
      by_cases hkn : e.known ≤ known
      · have d1 : decide (e.known ≤ known) = true := decide_eq_true hkn
        have HS2 : Hid (knownT l known (k + 1) = knownT l known k ++ [e]) := by show _ = _; rw [HS.out, if_pos hkn]
        clear HS
        obtain ⟨W3, hW3⟩ : ∃ W3, W3 = (((wr.alloc (.cells #[.int .i64 e.day, .int .i64 e.known, .int .i64 e.owner, .int .i64 e.place, .int .i64 e.litres, .int .i64 e.why, .int .i64 e.ref] 46)).alloc (.cells #[.int .i64 e.day, .int .i64 e.known] 83)).alloc (.cells #[.int .i64 e.litres] 3)) := ⟨_, rfl⟩
        have hb3 : Below wr.heap.size wr W3 := by rw [hW3]; exact ((((Below.refl _ _).alloc (Nat.le_refl _) _).alloc (by simp) _).alloc (by simp; omega) _)
        have hz3 : W3.heap.size = wr.heap.size + 1 + 1 + 1 := by rw [hW3]; simp
        have hc3 : W3.cell? ⟨wr.heap.size + 1 + 1, 0, none⟩ = some (.int .i64 e.litres) := by rw [hW3, World.cell?_alloc_at _ _ _ _ (by simp)]; rfl
        obtain ⟨es1, clock1, i1, e1, L, m1, hrun, hG1, he1, hp1, hm1⟩ := (hG.out.below hb3).entry (P := Try.prog) (t := 81) Try.keyWhen Try.underlying81 Try.zeroInts (e.day, e.known)
        have hg1 : W3.grownBy (Go.ChangeMaps.setBlock W3 w.heap.size (.map es1 clock1)) (some w.heap.size) := ⟨rfl, rfl, rfl, by simp [Go.ChangeMaps.setBlock], fun i _ hi => Go.ChangeMaps.heap_setBlock_other (hG.out.below hb3).hb _ (fun e => hi (by rw [e]))⟩
        have hz1' : (Go.ChangeMaps.setBlock W3 w.heap.size (.map es1 clock1)).heap.size = W3.heap.size := by simp [Go.ChangeMaps.setBlock]
        generalize Go.ChangeMaps.setBlock W3 w.heap.size (.map es1 clock1) = w1 at hrun hG1 hg1 hz1'
        have hc1 : w1.cell? ⟨wr.heap.size + 1 + 1, 0, none⟩ = some (.int .i64 e.litres) := (Plan.grown_cells hg1 _ _ (by omega) (by simp; omega)).trans hc3
        have hrow1 := Lib.hid (hG1.row i1 e1 _ he1 hp1)
        have hB1 : Hid (Below w.heap.size w w1) := (hBw.trans (hb3.mono (by omega))).grown hg1 (by omega) (fun j hj => by cases hj; exact Nat.le_refl _)
        have hGd := Lib.hid (hM.out.step (e := e) hm1 hp1)
        have HL : Hid (L.length ≤ 1000000) := by
          show _ ≤ _
          have h1 := (hM.out.step (e := e) hm1 hp1).val _ (List.mem_of_getElem? (show (m1.set i1 (keyE e, L ++ [e.litres]))[i1]? = some (keyE e, L ++ [e.litres]) by rw [List.getElem?_set]; simp [(List.getElem?_eq_some_iff.1 hp1).1]))
          have h2 := congrArg List.length h1
          have h3 : (lits ((knownT l known k ++ [e]).filter (fun x => decide (keyE x = keyE e)))).length ≤ (knownT l known k ++ [e]).length := by unfold lits; rw [List.length_map]; exact List.length_filter_le _ _
          have h4 : (knownT l known k).length ≤ k := by unfold knownT; exact Nat.le_trans (List.length_filter_le _ _) (by rw [List.length_take]; omega)
          simp only [List.length_append, List.length_cons, List.length_nil] at h2 h3
          have h5 : (lits ((knownT l known k ++ [e]).filter (fun x => decide (keyE x = keyE e)))).length = L.length + 1 := h2.symm
          omega
        simp only [keyV, goInt] at hrun
        have HG1 := Lib.hid hG1
        clear hG hM hm1 hg1 hb3 hc3 hG1 hBw
        have hll : L.length ≤ 1000000 := HL.out
        rw [hW3] at hrun
        go_wp2_with (first | (at_builtin; go_loud (refine wpList_append_own_at _ rfl _ _ 29 rfl (w.heap.size + 1) 3 i0 (.int .i64 0) 1 8 Try.underlying29 hi hz0 hz1 hz2 rfl (by decide) e1.val L.length _ rfl hrow1.out ⟨wr.heap.size + 1 + 1, 0, none⟩ 1 1 [.int .i64 e.litres] rfl rfl (by intro j u hj; cases j with | zero => (simp at hj; subst hj; simpa [Addr.add] using hc1) | succ j => simp at hj) (by simp [Value.oneCell']) (by unfold maxLen; omega) (by omega) (by omega) ?_); intro v' w2 hown' hgrow _ hat; obtain ⟨es', w3, hrun2, hG3, hg3⟩ := HG1.out.store (t := 81) (P := Try.prog) (L' := L ++ [e.litres]) he1 hp1 hgrow (by rw [List.map_append, List.length_append]; exact hown') hat; simp only [goInt] at hrun2) | fail)
        have hB1b := hB1.out
        have hbq : Below w.heap.size w w3 := (hB1b.grown hgrow hB1b.size (fun j hj => by have := (HG1.out.val_lt he1 hj).1; omega)).grown hg3 (Nat.le_trans hB1b.size hgrow.size) (fun j hj => by cases hj; exact Nat.le_refl _)
        have hzq : w.heap.size + 1 ≤ w3.heap.size := by have := hgrow.size; have := hg3.size; omega
        go_roundw
        case rel => exact ⟨k + 1, es', clock1, _, by omega, by go_num, hG3, (show GP.Good _ _ by rw [HS2.out]; exact hGd.out), hbq, hzq⟩
        case measure => simp [intOf]; omega
      · have d1 : decide (e.known ≤ known) = false := decide_eq_false hkn
        have HS2 : Hid (knownT l known (k + 1) = knownT l known k) := by show _ = _; rw [HS.out, if_neg hkn]
        clear HS
        go_wp2_with fail
        go_roundw
        case rel => exact ⟨k + 1, es, clock, m, by omega, by go_num, hG.out.below ((Below.refl _ _).alloc (Nat.le_refl _) _), (show GP.Good _ _ by rw [HS2.out]; exact hM.out), hBw.alloc (by omega) _, by simp; omega⟩
        case measure => simp [intOf]; omega
    · have hke : k = l.length := by omega
      subst hke
      have hR : Hid (balanced l known = m.all (fun p => zeroP p.2)) := by
        have h := hM.out
        unfold knownT at h
        rw [List.take_length] at h
        exact h.balanced
      have hv := vals_le hM.out
      have hkl : (knownT l known l.length).length ≤ l.length := by unfold knownT; exact Nat.le_trans (List.length_filter_le _ _) (by rw [List.length_take]; omega)
      have hki : ∀ e ∈ knownT l known l.length, e ∈ l := fun e he => List.mem_of_mem_take (List.mem_filter.1 he).1
      have HV : Hid (∀ p ∈ m, p.2.length ≤ 1000000 ∧ ∀ x ∈ p.2, In64 x) := fun p hp => ⟨by have := (hv p hp).1; omega, fun x hx => by
        obtain ⟨e, he, rfl⟩ := (hv p hp).2 x hx
        exact hI e (hki e he)⟩
      clear hv hkl hki hM
      obtain ⟨wo, rfl⟩ : ∃ wo, wo = wr := ⟨_, rfl⟩
      have hrg := run_range_map (P := Try.prog) wo 81 83 29 w.heap.size es clock Try.underlying81 hG.out.hb
      go_wp2_with fail
      clear hrg
      have hri := heap_alloc_new wo (.mapIter (some w.heap.size) clock #[] clock)
      have hbi : Below wo.heap.size wo (wo.alloc (.mapIter (some w.heap.size) clock #[] clock)) := (Below.refl _ _).alloc (Nat.le_refl _) _
      generalize wo.alloc (.mapIter (some w.heap.size) clock #[] clock) = w0 at hri hbi ⊢
      go_loopw [] (fun w1 => ∃ (seen : Array Nat), w1.heap[wo.heap.size]? = some (.mapIter (some w.heap.size) clock seen clock) ∧ Below wo.heap.size wo w1 ∧ Hid (∀ (i : Nat) (e : MapEntry) (p : (Int × Int) × List Int), es[i]? = some e → m[i]? = some p → seen.contains e.born = true → zeroP p.2 = true)) (fun w1 => (leftOf es (w1.iterSeen wo.heap.size)).size)
      case atStart => exact ⟨#[], hri, hbi, fun i e p _ _ h => by simp at h⟩
      case round =>
        clear hri hbi
        obtain ⟨seen, hr1, hb1, hno⟩ := hrel
        have hG1 := hG.out.below hb1
        have law := run_next_at (P := Try.prog) wr 0 wo.heap.size w.heap.size clock clock seen es clock hr1 hG1.hb hG1.old (Nat.le_refl _)
        have hBf : Below w.heap.size w wr := hBw.trans (hb1.mono (by omega))
        rcases law with ⟨h0, hrun⟩ | ⟨e, he, w2, hal2, hrun⟩
        · have hnx : ∀ ty, (Instr.next (.pointer (some ⟨wo.heap.size, 0, none⟩)) false ty).run Try.prog wr = _ := fun _ => hrun
          have hT : Hid (balanced l known = true) := by
            show _ = _
            rw [hR.out, List.all_eq_true]
            intro p hp
            obtain ⟨i, hip⟩ := List.mem_iff_getElem?.1 hp
            obtain ⟨e, hie⟩ : ∃ e, es[i]? = some e := ⟨_, Array.getElem?_eq_getElem (by rw [hG.out.len]; exact (List.getElem?_eq_some_iff.1 hip).1)⟩
            exact hno.out i e p hie hip (all_seen' es seen h0 e (Array.mem_toList_iff.2 (Array.mem_of_getElem? hie)))
          go_wp2_with fail
          go_ret
          exact ⟨ret_bool hT.out.symm, hBf⟩
        · have hnx : ∀ ty, (Instr.next (.pointer (some ⟨wo.heap.size, 0, none⟩)) false ty).run Try.prog wr = _ := fun _ => hrun
          obtain ⟨hem, hes⟩ := mem_left he
          have hlw : Below wo.heap.size wr w2 := by rcases hal2 with rfl | rfl <;> exact ⟨rfl, rfl, rfl, Nat.le_refl _, fun _ _ => rfl⟩
          have hh2 : w2.heap = wr.heap := by rcases hal2 with rfl | rfl <;> rfl
          have hr2 : (Go.ChangeMaps.setBlock w2 wo.heap.size (.mapIter (some w.heap.size) clock (seen.push e.born) clock)).heap[wo.heap.size]? = some (.mapIter (some w.heap.size) clock (seen.push e.born) clock) := by
            show (w2.heap.setIfInBounds _ _)[_]? = _
            rw [Array.getElem?_setIfInBounds, if_pos rfl, if_pos (by rw [hh2]; exact (Array.getElem?_eq_some_iff.1 hr1).1)]
          have hb2 : Below wo.heap.size wo (Go.ChangeMaps.setBlock w2 wo.heap.size (.mapIter (some w.heap.size) clock (seen.push e.born) clock)) := by
            refine hb1.trans (hlw.trans ⟨rfl, rfl, rfl, by simp [Go.ChangeMaps.setBlock], fun j hj => ?_⟩)
            show (w2.heap.setIfInBounds _ _)[j]? = w2.heap[j]?
            rw [Array.getElem?_setIfInBounds, if_neg (by omega)]
          generalize Go.ChangeMaps.setBlock w2 wo.heap.size (.mapIter (some w.heap.size) clock (seen.push e.born) clock) = w3 at hnx hr2 hb2
          have hG3 := hG.out.below hb2
          have hen := run_entry_at (P := Try.prog) w3 wo.heap.size w.heap.size clock seen es clock e hr2 hG3.hb hem hG3.nd
          obtain ⟨i, hie⟩ := List.mem_iff_getElem?.1 hem
          rw [Array.getElem?_toList] at hie
          obtain ⟨p, hip⟩ : ∃ p, m[i]? = some p := ⟨_, List.getElem?_eq_getElem (by rw [← hG3.len]; exact (Array.getElem?_eq_some_iff.1 hie).1)⟩
          obtain ⟨D, cd, hval, hD⟩ := ints_of_owns (hG3.row i e p hie hip)
          obtain ⟨hpl, hpi⟩ := HV.out p (List.mem_of_getElem? hip)
          have K := Lib.hid (sum_any p.2 D cd w3 hD (by omega) hpi)
          have hzp : Hid (zeroP p.2 = ((sumX p.2).2 && decide ((sumX p.2).1 = 0))) := rfl
          have HIE := Lib.hid hie
          have HIP := Lib.hid hip
          have HEM := Lib.hid hem
          have HHE := Lib.hid he
          have HBf : Hid (Below w.heap.size w w3) := hBw.trans (hb2.mono (by omega))
          rw [hval] at hnx hen
          obtain ⟨L, hL⟩ : ∃ L, L = p.2 := ⟨_, rfl⟩
          have HL := Lib.hid hL
          rw [← hL] at K hzp hnx hen
          obtain ⟨sv, hsv⟩ : ∃ sv, (sumX L).1 = sv := ⟨_, rfl⟩
          obtain ⟨so, hso⟩ : ∃ so, (sumX L).2 = so := ⟨_, rfl⟩
          have K2 : Hid (Calls Try.prog 27 #[.slice D L.length cd] w3 fun x w' => x = .returned (.tuple #[.int .i64 sv, .bool so]) ∧ w3 = w') := by rw [← hsv, ← hso]; exact K.out
          rw [hsv, hso] at hzp
          clear K hie hip hem he hL hpl hpi hsv hso hval hrun hal2 hlw hh2 hD
          cases so with
          | false =>
            have hF : Hid (balanced l known = false) := by
              show _ = _
              rw [hR.out, List.all_eq_false]
              exact ⟨p, List.mem_of_getElem? HIP.out, by rw [← HL.out, hzp.out]; simp⟩
            go_wp2_with (first | (go_at_call 27; (with_reducible refine K2.out.mono ?_); rintro x1 w4 ⟨rfl, rfl⟩) | fail)
            go_ret
            exact ⟨ret_bool hF.out.symm, HBf.out⟩
          | true =>
            by_cases hs0 : sv = 0
            · subst hs0
              have hZ : Hid (zeroP L = true) := hzp.out
              clear hzp
              go_wp2_with (first | (go_at_call 27; (with_reducible refine K2.out.mono ?_); rintro x1 w4 ⟨rfl, rfl⟩) | fail)
              go_roundw
              case rel =>
                refine ⟨seen.push e.born, hr2, hb2, fun j e' q hj hq hc => ?_⟩
                rw [contains_push] at hc
                rcases Bool.or_eq_true _ _ ▸ hc with h1 | h1
                · exact hno.out j e' q hj hq h1
                · have : j = i := born_inj' hG3.nd (by rw [Array.getElem?_toList]; exact hj) (by rw [Array.getElem?_toList]; exact HIE.out) (beq_iff_eq.1 h1)
                  subst this
                  have := HIP.out
                  rw [hq] at this
                  cases this
                  rw [← HL.out]; exact hZ.out
              case measure =>
                unfold World.iterSeen
                rw [hr1, hr2]
                exact left_shrinks es seen e HHE.out
            · have hF : Hid (balanced l known = false) := by
                show _ = _
                rw [hR.out, List.all_eq_false]
                exact ⟨p, List.mem_of_getElem? HIP.out, by rw [← HL.out, hzp.out, decide_eq_false hs0]; simp⟩
              have d0 : (sv != 0) = true := by simpa using hs0
              go_wp2_with (first | (go_at_call 27; (with_reducible refine K2.out.mono ?_); rintro x1 w4 ⟨rfl, rfl⟩) | fail)
              go_ret
              exact ⟨ret_bool hF.out.symm, HBf.out⟩
end Go.Proofs.Ythoigjkelinjhaa.LD

