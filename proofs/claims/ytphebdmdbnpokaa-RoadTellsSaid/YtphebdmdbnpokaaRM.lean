/- Joined of: RM. -/
import Derived.Test.YtphebdmdbnpokaaMem
import Derived.Test.YtphebdmdbnpokaaRowK
import Derived.Test.YtphebdmdbnpokaaG12
import Derived.Test.YtphebdmdbnpokaaHP
/- Memory words of roads: a basin by value, its towns, roads and shelters; lists of volumes. -/
set_option linter.unusedSimpArgs false
set_option linter.unusedVariables false
namespace Go.Proofs.Ytphebdmdbnpokaa
open Go.RowKit RD
structure Tn where
  nm : ByteArray
  place : Int
  flood : Int
  lead : Int
  people : Int
  watch : Int
  quorum : Int
structure Sh where
  nm : ByteArray
  room : Int
def roadC (r : Rd) : List Value := [.string r.nm, .int .i64 r.frm, .int .i64 r.to_, .int .i64 r.hours, .int .i64 r.flow, .int .i64 r.by_, .int .i64 r.limit]
def townC (r : Tn) : List Value := [.string r.nm, .int .i64 r.place, .int .i64 r.flood, .int .i64 r.lead, .int .i64 r.people, .int .i64 r.watch, .int .i64 r.quorum]
def shC (r : Sh) : List Value := [.string r.nm, .int .i64 r.room]
theorem roadC_len (r : Rd) : (roadC r).length = 7 := rfl
theorem townC_len (r : Tn) : (townC r).length = 7 := rfl
theorem shC_len (r : Sh) : (shC r).length = 2 := rfl
/-- A basin by value. -/
structure Bs where
  nm : ByteArray
  a1 : Option Addr
  l1 : Nat
  c1 : Nat
  cl : Int
  a3 : Option Addr
  l3 : Nat
  c3 : Nat
  a4 : Option Addr
  l4 : Nat
  c4 : Nat
  a5 : Option Addr
  T : List Tn
  c5 : Nat
  a6 : Option Addr
  l6 : Nat
  c6 : Nat
  a7 : Option Addr
  R : List Rd
  c7 : Nat
  a8 : Option Addr
  S : List Sh
  c8 : Nat
  a9 : Option Addr
  l9 : Nat
  c9 : Nat
  er : Int
def Bs.N (X : Bs) : Nat := X.T.length + X.S.length
structure BsAt (w : World) (B : Nat) (X : Bs) : Prop where
  t : RowAt townC 7 w B X.a5 X.T
  r : RowAt roadC 7 w B X.a7 X.R
  s : RowAt shC 2 w B X.a8 X.S
structure BsLen (X : Bs) : Prop where
  t : X.T.length ≤ 1000000
  r : X.R.length ≤ 1000000
  s : X.S.length ≤ 1000000
  p : X.l3 ≤ 9223372036854775807
section
variable {w w' : World} {B B' : Nat} {X : Bs}
theorem BsAt.below (h : BsAt w B X) (hb : Below B w w') : BsAt w' B X := ⟨h.t.below hb, h.r.below hb, h.s.below hb⟩
theorem BsAt.more (h : BsAt w B X) (hB : B ≤ B') : BsAt w B' X := ⟨h.t.more hB, h.r.more hB, h.s.more hB⟩
theorem road_at {C : Option Addr} {R : List Rd} (h : RowAt roadC 7 w B C R) {k : Nat} {r : Rd} (hk : R[k]? = some r) : ∃ b off, C = some ⟨b, off, none⟩ ∧ b < B ∧
    w.cell? ⟨b, off + k * 7, none⟩ = some (.string r.nm) ∧ w.cell? ⟨b, off + k * 7 + 1, none⟩ = some (.int .i64 r.frm) ∧ w.cell? ⟨b, off + k * 7 + 2, none⟩ = some (.int .i64 r.to_) ∧ w.cell? ⟨b, off + k * 7 + 3, none⟩ = some (.int .i64 r.hours) ∧
    w.cell? ⟨b, off + k * 7 + 4, none⟩ = some (.int .i64 r.flow) ∧ w.cell? ⟨b, off + k * 7 + 5, none⟩ = some (.int .i64 r.by_) ∧ w.cell? ⟨b, off + k * 7 + 6, none⟩ = some (.int .i64 r.limit) := by
  have hlt := (List.getElem?_eq_some_iff.1 hk).1
  obtain ⟨b, off, e, hb, hc⟩ := h (by omega)
  have g := hc k r hk
  exact ⟨b, off, e, hb, g 0 _ rfl, g 1 _ rfl, g 2 _ rfl, g 3 _ rfl, g 4 _ rfl, g 5 _ rfl, g 6 _ rfl⟩
theorem town_at {C : Option Addr} {T : List Tn} (h : RowAt townC 7 w B C T) {k : Nat} {r : Tn} (hk : T[k]? = some r) : ∃ b off, C = some ⟨b, off, none⟩ ∧ b < B ∧
    w.cell? ⟨b, off + k * 7, none⟩ = some (.string r.nm) ∧ w.cell? ⟨b, off + k * 7 + 1, none⟩ = some (.int .i64 r.place) ∧ w.cell? ⟨b, off + k * 7 + 2, none⟩ = some (.int .i64 r.flood) ∧ w.cell? ⟨b, off + k * 7 + 3, none⟩ = some (.int .i64 r.lead) ∧
    w.cell? ⟨b, off + k * 7 + 4, none⟩ = some (.int .i64 r.people) ∧ w.cell? ⟨b, off + k * 7 + 5, none⟩ = some (.int .i64 r.watch) ∧ w.cell? ⟨b, off + k * 7 + 6, none⟩ = some (.int .i64 r.quorum) := by
  have hlt := (List.getElem?_eq_some_iff.1 hk).1
  obtain ⟨b, off, e, hb, hc⟩ := h (by omega)
  have g := hc k r hk
  exact ⟨b, off, e, hb, g 0 _ rfl, g 1 _ rfl, g 2 _ rfl, g 3 _ rfl, g 4 _ rfl, g 5 _ rfl, g 6 _ rfl⟩
theorem sh_at {C : Option Addr} {S : List Sh} (h : RowAt shC 2 w B C S) {k : Nat} {r : Sh} (hk : S[k]? = some r) : ∃ b off, C = some ⟨b, off, none⟩ ∧ b < B ∧
    w.cell? ⟨b, off + k * 2, none⟩ = some (.string r.nm) ∧ w.cell? ⟨b, off + k * 2 + 1, none⟩ = some (.int .i64 r.room) := by
  have hlt := (List.getElem?_eq_some_iff.1 hk).1
  obtain ⟨b, off, e, hb, hc⟩ := h (by omega)
  have g := hc k r hk
  exact ⟨b, off, e, hb, g 0 _ rfl, g 1 _ rfl⟩
theorem ints_at {C : Option Addr} {A : List Int} (h : IntsAt w B C A) {k : Nat} {x : Int} (hk : A[k]? = some x) : ∃ b off, C = some ⟨b, off, none⟩ ∧ b < B ∧ w.cell? ⟨b, off + k, none⟩ = some (.int .i64 x) := by
  have hlt := (List.getElem?_eq_some_iff.1 hk).1
  obtain ⟨b, off, e, hb, hc⟩ := h (by omega)
  refine ⟨b, off, e, hb, ?_⟩
  rw [hc k hlt]
  simp [intF, List.getD_eq_getElem?_getD, hk]
theorem ints_more {C : Option Addr} {A : List Int} (h : IntsAt w B C A) (hB : B ≤ B') : IntsAt w B' C A := CellsAt.more h hB
theorem ints_below {C : Option Addr} {A : List Int} (h : IntsAt w B C A) (hb : Below B w w') : IntsAt w' B C A := CellsAt.below h hb
/-- A block that holds these cells alone. -/
def Box (w : World) (b : Nat) (cs : Array Value) (t : TypeId) : Prop := w.heap[b]? = some (.cells cs t (0, 0))
theorem Box.lt {b : Nat} {cs : Array Value} {t : TypeId} (h : Box w b cs t) : b < w.heap.size := (Array.getElem?_eq_some_iff.1 h).1
theorem Box.cell {b : Nat} {cs : Array Value} {t : TypeId} (h : Box w b cs t) {j : Nat} {v : Value} (hj : cs[j]? = some v) : w.cell? ⟨b, j, none⟩ = some v := by
  unfold Box at h
  simp [World.cell?, h, hj]
theorem Box.free {b : Nat} {cs : Array Value} {t : TypeId} (h : Box w b cs t) (j : Nat) : w.frozen? ⟨b, j, none⟩ = false := by
  unfold Box at h
  simp [World.frozen?, h]
theorem Box.keep {b : Nat} {cs : Array Value} {t : TypeId} (h : Box w b cs t) (hk : w'.heap[b]? = w.heap[b]?) : Box w' b cs t := hk.trans h
theorem Box.below {b : Nat} {cs : Array Value} {t : TypeId} (h : Box w b cs t) (hb : Below B w w') (hB : b < B) : Box w' b cs t := h.keep (hb.block b hB)
theorem Box.new (w : World) (cs : Array Value) (t : TypeId) : Box (w.alloc (.cells cs t)) w.heap.size cs t := by
  show (w.heap.push (.cells cs t (0, 0)))[w.heap.size]? = _; simp
theorem Box.road {b : Nat} {r : Rd} {t : TypeId} (h : Box w b (roadC r).toArray t) : w.cell? ⟨b, 0, none⟩ = some (.string r.nm) ∧ w.cell? ⟨b, 1, none⟩ = some (.int .i64 r.frm) ∧ w.cell? ⟨b, 2, none⟩ = some (.int .i64 r.to_) ∧ w.cell? ⟨b, 3, none⟩ = some (.int .i64 r.hours) ∧
    w.cell? ⟨b, 4, none⟩ = some (.int .i64 r.flow) ∧ w.cell? ⟨b, 5, none⟩ = some (.int .i64 r.by_) ∧ w.cell? ⟨b, 6, none⟩ = some (.int .i64 r.limit) := ⟨h.cell rfl, h.cell rfl, h.cell rfl, h.cell rfl, h.cell rfl, h.cell rfl, h.cell rfl⟩
theorem Box.bas {b : Nat} {t : TypeId} (h : Box w b #[.string X.nm, .slice X.a1 X.l1 X.c1, .int .i64 X.cl, .slice X.a3 X.l3 X.c3, .slice X.a4 X.l4 X.c4, .slice X.a5 X.T.length X.c5, .slice X.a6 X.l6 X.c6, .slice X.a7 X.R.length X.c7, .slice X.a8 X.S.length X.c8, .slice X.a9 X.l9 X.c9, .int .i64 X.er] t) : w.cell? ⟨b, 0, none⟩ = some (.string X.nm) ∧ w.cell? ⟨b, 1, none⟩ = some (.slice X.a1 X.l1 X.c1) ∧ w.cell? ⟨b, 2, none⟩ = some (.int .i64 X.cl) ∧ w.cell? ⟨b, 3, none⟩ = some (.slice X.a3 X.l3 X.c3) ∧ w.cell? ⟨b, 4, none⟩ = some (.slice X.a4 X.l4 X.c4) ∧ w.cell? ⟨b, 5, none⟩ = some (.slice X.a5 X.T.length X.c5) ∧
    w.cell? ⟨b, 6, none⟩ = some (.slice X.a6 X.l6 X.c6) ∧ w.cell? ⟨b, 7, none⟩ = some (.slice X.a7 X.R.length X.c7) ∧ w.cell? ⟨b, 8, none⟩ = some (.slice X.a8 X.S.length X.c8) ∧ w.cell? ⟨b, 9, none⟩ = some (.slice X.a9 X.l9 X.c9) ∧ w.cell? ⟨b, 10, none⟩ = some (.int .i64 X.er) := ⟨h.cell rfl, h.cell rfl, h.cell rfl, h.cell rfl, h.cell rfl, h.cell rfl, h.cell rfl, h.cell rfl, h.cell rfl, h.cell rfl, h.cell rfl⟩
theorem Box.set1 {b : Nat} {v : Value} {t : TypeId} (h : Box w b #[v] t) (u : Value) : Box (w.setCell ⟨b, 0, none⟩ u) b #[u] t := by
  unfold Box at *
  simp [World.setCell, Array.getElem?_modify, h]
def ad (o : Option Nat) : Option Addr := o.map fun g => ⟨g, 0, none⟩
theorem ad_block {o : Option Nat} {n c : Nat} : (Value.slice (ad o) n c).ownBlock = o := by cases o <;> rfl
theorem ad_of_owns {base e size n : Nat} {v : Value} {xs : List Value} (h : w.ownsRow base e size v n xs) : ∃ o c, v = .slice (ad o) n c ∧ v.ownBlock = o := by
  rcases h.2 with ⟨rfl, rfl⟩ | ⟨g, cap, cur, rfl, _⟩
  · exact ⟨none, 0, rfl, rfl⟩
  · exact ⟨some g, cap, rfl, rfl⟩
theorem row_heap {base e size n : Nat} {v : Value} {xs : List Value} (hr : w.ownsRow base e size v n xs) (hk : ∀ k, v.ownBlock = some k → w'.heap[k]? = w.heap[k]?) : w'.ownsRow base e size v n xs := by
  refine ⟨hr.1, ?_⟩
  rcases hr.2 with hn | ⟨g, cap, cur, rfl, h2, h3, h4⟩
  · exact .inl hn
  · exact .inr ⟨g, cap, cur, rfl, h2, by rw [hk g rfl]; exact h3, h4⟩
/-- A row's cell is written. -/
theorem row_set {base e size n c g k : Nat} {xs : List Value} (hr : w.ownsRow base e size (.slice (some ⟨g, 0, none⟩) n c) n xs) (v : Value) : (w.setCell ⟨g, k, none⟩ v).ownsRow base e size (.slice (some ⟨g, 0, none⟩) n c) n (xs.set k v) := by
  obtain ⟨h1, ⟨e1, _⟩ | ⟨g', cap, cur, e1, h2, h3, h4, h5, h6, h7⟩⟩ := hr
  · cases e1
  · simp at e1
    obtain ⟨rfl, rfl⟩ := e1
    refine ⟨by rw [List.length_set]; exact h1, .inr ⟨g, c, cur.setIfInBounds k v, rfl, h2, ?_, h4, h5, by simpa using h6, ?_⟩⟩
    · simp [World.setCell, Array.getElem?_modify, h3]
    · rw [← h7]; simp [List.take_set]
/-- A row is shortened. -/
theorem row_cut {base e size n c : Nat} {a : Option Addr} {xs : List Value} (hr : w.ownsRow base e size (.slice a n c) n xs) {m : Nat} (hm : m ≤ n) : w.ownsRow base e size (.slice a m c) m (xs.take (m * size)) := by
  have hms : m * size ≤ n * size := Nat.mul_le_mul_right _ hm
  obtain ⟨h1, ⟨e1, h0⟩ | ⟨g', cap, cur, e1, h2, h3, h4, h5, h6, h7⟩⟩ := hr
  · simp at e1
    obtain ⟨rfl, _, rfl⟩ := e1
    exact ⟨by rw [List.length_take]; omega, .inl ⟨by simp; omega, by omega⟩⟩
  · simp at e1
    obtain ⟨rfl, rfl⟩ := e1
    exact ⟨by rw [List.length_take]; omega, .inr ⟨g', c, cur, rfl, h2, h3, by omega, h5, h6, by rw [← h7, List.take_take, Nat.min_eq_left hms]⟩⟩
/-- But for the blocks in S the old world stands. -/
structure Kp (S : Nat → Prop) (w w' : World) : Prop where
  os : w'.os = w.os
  tape : w'.tape = w.tape
  output : w'.output = w.output
  size : w.heap.size ≤ w'.heap.size
  block : ∀ k, k < w.heap.size → ¬ S k → w'.heap[k]? = w.heap[k]?
theorem Kp.refl (S : Nat → Prop) (w : World) : Kp S w w := ⟨rfl, rfl, rfl, Nat.le_refl _, fun _ _ _ => rfl⟩
theorem Kp.trans {S S1 : Nat → Prop} {w2 : World} (h : Kp S w w') (k : Kp S1 w' w2) (hs : ∀ n, n < w.heap.size → S1 n → S n) : Kp S w w2 :=
  ⟨k.os.trans h.os, k.tape.trans h.tape, k.output.trans h.output, Nat.le_trans h.size k.size, fun n h1 h2 => (k.block n (Nat.lt_of_lt_of_le h1 h.size) (fun q => h2 (hs n h1 q))).trans (h.block n h1 h2)⟩
theorem Kp.mono {S S1 : Nat → Prop} (h : Kp S w w') (hs : ∀ n, n < w.heap.size → S n → S1 n) : Kp S1 w w' := ⟨h.os, h.tape, h.output, h.size, fun n h1 h2 => h.block n h1 (fun q => h2 (hs n h1 q))⟩
theorem Kp.alloc {S : Nat → Prop} (h : Kp S w w') (o : Obj) : Kp S w (w'.alloc o) :=
  ⟨h.os, h.tape, h.output, by have := h.size; simp; omega, fun k h1 h2 => (Below.heap_alloc w' o k (Nat.lt_of_lt_of_le h1 h.size)).trans (h.block k h1 h2)⟩
theorem Kp.setCell {S : Nat → Prop} (h : Kp S w w') {p : Addr} (hp : w.heap.size ≤ p.block ∨ S p.block) (u : Value) : Kp S w (w'.setCell p u) :=
  ⟨h.os, h.tape, h.output, by simpa using h.size, fun k h1 h2 => (Below.heap_setCell w' p u k (by
    rintro rfl
    rcases hp with g | g
    · omega
    · exact h2 g)).trans (h.block k h1 h2)⟩
theorem Kp.drew {S : Nat → Prop} (h : Kp S w w') : Kp S w w'.drew := ⟨h.os, h.tape, h.output, h.size, h.block⟩
theorem Kp.drewN {S : Nat → Prop} (h : Kp S w w') (n : Nat) : Kp S w (w'.drewN n) := ⟨h.os, h.tape, h.output, h.size, h.block⟩
theorem Kp.of_below {S : Nat → Prop} (h : Below w.heap.size w w') : Kp S w w' := ⟨h.os, h.tape, h.output, h.size, fun k hk _ => h.block k hk⟩
theorem Kp.grown {S : Nat → Prop} {row : Option Nat} (h : w.grownBy w' row) (hs : ∀ g, row = some g → S g) : Kp S w w' := ⟨h.os, h.tape, h.output, h.size, fun k hk hn => h.block k hk (fun e => hn (hs k e.symm))⟩
theorem Kp.below {S : Nat → Prop} (h : Kp S w w') (hB : B ≤ w.heap.size) (hS : ∀ k, S k → B ≤ k) : Below B w w' :=
  ⟨h.os, h.tape, h.output, h.size, fun k hk => h.block k (by omega) (fun g => by have := hS k g; omega)⟩
theorem Kp.cell {S : Nat → Prop} (h : Kp S w w') {b o : Nat} (h1 : b < w.heap.size) (h2 : ¬ S b) : w'.cell? ⟨b, o, none⟩ = w.cell? ⟨b, o, none⟩ := World.cell?_of_block (a := ⟨b, o, none⟩) (h.block _ h1 h2)
/-- Lists of volumes: each a slice of integers. -/
structure Vl where
  a : Option Addr
  l : List Int
  c : Nat
def vlC (x : Vl) : List Value := [.slice x.a x.l.length x.c]
theorem vlC_len (x : Vl) : (vlC x).length = 1 := rfl
def vsOf (L : List Vl) : Vs := L.map (·.l)
structure VlsAt (w : World) (B : Nat) (C : Option Addr) (L : List Vl) : Prop where
  row : RowAt vlC 1 w B C L
  each : ∀ x ∈ L, IntsAt w B x.a x.l ∧ x.l.length ≤ 9223372036854775807
theorem VlsAt.below {C : Option Addr} {L : List Vl} (h : VlsAt w B C L) (hb : Below B w w') : VlsAt w' B C L := ⟨h.row.below hb, fun x hx => ⟨CellsAt.below (h.each x hx).1 hb, (h.each x hx).2⟩⟩
theorem VlsAt.more {C : Option Addr} {L : List Vl} (h : VlsAt w B C L) (hB : B ≤ B') : VlsAt w B' C L := ⟨h.row.more hB, fun x hx => ⟨CellsAt.more (h.each x hx).1 hB, (h.each x hx).2⟩⟩
theorem vl_at {C : Option Addr} {L : List Vl} (h : VlsAt w B C L) {k : Nat} {x : Vl} (hk : L[k]? = some x) : ∃ b off, C = some ⟨b, off, none⟩ ∧ b < B ∧ w.cell? ⟨b, off + k, none⟩ = some (.slice x.a x.l.length x.c) ∧ IntsAt w B x.a x.l ∧ x.l.length ≤ 9223372036854775807 := by
  have hlt := (List.getElem?_eq_some_iff.1 hk).1
  obtain ⟨b, off, e, hb, hc⟩ := h.row (by omega)
  have g := hc k x hk 0 _ rfl
  rw [Nat.mul_one, Nat.add_zero] at g
  exact ⟨b, off, e, hb, g, h.each x (List.mem_of_getElem? hk)⟩
theorem vsOf_len (L : List Vl) : (vsOf L).length = L.length := by simp [vsOf]
theorem vsOf_at {L : List Vl} {k : Nat} {x : Vl} (hk : L[k]? = some x) : (vsOf L).getD k [] = x.l := by simp [vsOf, List.getD_eq_getElem?_getD, hk]
end
end Go.Proofs.Ytphebdmdbnpokaa

