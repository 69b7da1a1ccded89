/- Byte strings as values; slices of strings; own rows by their block. -/
import Derived.Test.YtminphldifncaaaDoorMem
import Derived.Test.YtminphldifncaaaDoorRows
import Derived.Test.YtminphldifncaaaDoorAppSrc
set_option linter.unusedSimpArgs false
set_option linter.unusedVariables false
namespace Go.Proofs.YtminphldifncaaaDoor
open Go.RowKit
abbrev Bts := List UInt8
theorem below_new (w : World) (o : Obj) : Below w.heap.size w (w.alloc o) := (Below.refl _ _).alloc (Nat.le_refl _) _
def bs (l : Bts) : ByteArray := ⟨l.toArray⟩
theorem bs_size (l : Bts) : (bs l).size = l.length := by simp [bs, ByteArray.size]
theorem bs_list (l : Bts) : (bs l).data.toList = l := by simp [bs]
theorem bs_of (s : ByteArray) : bs s.data.toList = s := by apply ByteArray.ext; simp [bs]
theorem bs_inj {a b : Bts} (h : bs a = bs b) : a = b := by rw [← bs_list a, h, bs_list]
def bytesV (l : Bts) : List Value := l.map fun b => Value.int .u8 (b.toNat : Int)
theorem byteCells_bs (l : Bts) : byteCells (bs l) = bytesV l := by unfold byteCells; rw [bs_list]; rfl
theorem bytesV_app (a b : Bts) : bytesV (a ++ b) = bytesV a ++ bytesV b := by simp [bytesV]
theorem bytesV_len (a : Bts) : (bytesV a).length = a.length := by simp [bytesV]
theorem bytesV_take (a : Bts) (n : Nat) : (bytesV a).take n = bytesV (a.take n) := by simp [bytesV, List.map_take]
def ad (o : Option Nat) : Option Addr := o.map fun g => ⟨g, 0, none⟩
theorem ad_block {o : Option Nat} {n c : Nat} : (Value.slice (ad o) n c).ownBlock = o := by cases o <;> rfl
theorem ad_inj {o : Option Nat} {g : Nat} (h : ad o = some ⟨g, 0, none⟩) : o = some g := by cases o <;> simp [ad] at h ⊢; exact h
theorem ad_of_owns {w : World} {base e size n : Nat} {v : Value} {xs : List Value} (h : w.ownsRow base e size v n xs) : ∃ o c, v = .slice (ad o) n c ∧ v.ownBlock = o := by
  rcases h.2 with ⟨rfl, rfl⟩ | ⟨g, cap, cur, rfl, _⟩
  · exact ⟨none, 0, rfl, rfl⟩
  · exact ⟨some g, cap, rfl, rfl⟩
set_option maxRecDepth 100000 in
theorem Tryd.infoU8 : ∃ i, Tryd.prog.info? 5 = some i ∧ i.zero = some (.int .u8 0) ∧ i.size = 1 ∧ i.bytes = 1 := ⟨_, rfl, by kernel_rfl, by kernel_rfl, by kernel_rfl⟩
theorem row_heap {w w' : World} {base e size n : Nat} {v : Value} {xs : List Value} (h : w.ownsRow base e size v n xs) (hk : ∀ k, v.ownBlock = some k → w'.heap[k]? = w.heap[k]?) : w'.ownsRow base e size v n xs := by
  obtain ⟨h1, h2 | ⟨g, cap, cur, rfl, h2, h3, h4⟩⟩ := h
  · exact ⟨h1, .inl h2⟩
  · exact ⟨h1, .inr ⟨g, cap, cur, rfl, h2, (hk g rfl).trans h3, h4⟩⟩
def strF (l : List Bts) (j : Nat) : Value := .string (bs (l.getD j []))
def StrsAt (w : World) (B : Nat) (A : Option Addr) (l : List Bts) : Prop := CellsAt w B A l.length (strF l)
theorem StrsAt.at_ {w : World} {B : Nat} {A : Option Addr} {l : List Bts} (h : StrsAt w B A l) {k : Nat} {x : Bts} (hk : l[k]? = some x) : ∃ b off, A = some ⟨b, off, none⟩ ∧ b < B ∧ w.cell? ⟨b, off + k, none⟩ = some (.string (bs x)) := by
  have hlt := (List.getElem?_eq_some_iff.1 hk).1
  obtain ⟨b, off, e, hb, hc⟩ := h (by omega)
  refine ⟨b, off, e, hb, ?_⟩
  rw [hc k hlt]
  simp [strF, List.getD_eq_getElem?_getD, hk]
theorem StrsAt.below {w w' : World} {B : Nat} {A : Option Addr} {l : List Bts} (h : StrsAt w B A l) (hb : Below B w w') : StrsAt w' B A l := CellsAt.below h hb
theorem StrsAt.on {w w' : World} {A : Option Addr} {l : List Bts} (h : StrsAt w w.heap.size A l) (hb : Below w.heap.size w w') : StrsAt w' w'.heap.size A l := CellsAt.more (h.below hb) hb.size
/-- The names of places: each the first cell of a struct of 12. -/
def NamesAt (w : World) (B : Nat) (A : Option Addr) (l : List Bts) : Prop := 0 < l.length → ∃ b off, A = some ⟨b, off, none⟩ ∧ b < B ∧ ∀ k x, l[k]? = some x → w.cell? ⟨b, off + k * 12, none⟩ = some (.string (bs x))
theorem NamesAt.at_ {w : World} {B : Nat} {A : Option Addr} {l : List Bts} (h : NamesAt w B A l) {k : Nat} {x : Bts} (hk : l[k]? = some x) : ∃ b off, A = some ⟨b, off, none⟩ ∧ b < B ∧ w.cell? ⟨b, off + k * 12, none⟩ = some (.string (bs x)) := by
  have hlt := (List.getElem?_eq_some_iff.1 hk).1
  obtain ⟨b, off, e, hb, hc⟩ := h (by omega)
  exact ⟨b, off, e, hb, hc k x hk⟩
theorem NamesAt.below {w w' : World} {B : Nat} {A : Option Addr} {l : List Bts} (h : NamesAt w B A l) (hb : Below B w w') : NamesAt w' B A l := fun hl => by
  obtain ⟨b, off, e, hlt, hc⟩ := h hl
  exact ⟨b, off, e, hlt, fun k x hk => (hb.cell (p := ⟨b, _, none⟩) hlt).trans (hc k x hk)⟩
theorem NamesAt.more {w : World} {B B' : Nat} {A : Option Addr} {l : List Bts} (h : NamesAt w B A l) (hB : B ≤ B') : NamesAt w B' A l := fun hl => by
  obtain ⟨b, off, e, hlt, hc⟩ := h hl
  exact ⟨b, off, e, Nat.lt_of_lt_of_le hlt hB, hc⟩
theorem NamesAt.on {w w' : World} {A : Option Addr} {l : List Bts} (h : NamesAt w w.heap.size A l) (hb : Below w.heap.size w w') : NamesAt w' w'.heap.size A l := fun hl => by
  obtain ⟨b, off, e, hlt, hc⟩ := h.below hb hl
  exact ⟨b, off, e, Nat.lt_of_lt_of_le hlt hb.size, hc⟩
structure Bas where
  nm : ByteArray
  a1 : Option Addr
  l1 : Nat
  c1 : Nat
  cl : Int
  P : Option Addr
  cP : Nat
  a4 : Option Addr
  l4 : Nat
  c4 : Nat
  a5 : Option Addr
  l5 : Nat
  c5 : Nat
  a6 : Option Addr
  l6 : Nat
  c6 : Nat
  a7 : Option Addr
  l7 : Nat
  c7 : Nat
  a8 : Option Addr
  l8 : Nat
  c8 : Nat
  a9 : Option Addr
  l9 : Nat
  c9 : Nat
  er : Int
end Go.Proofs.YtminphldifncaaaDoor
