/- A log in memory, beside its disk; the plain words of Open. -/
import Derived.Test.YtmnimcdbfolhaaaH3
import Derived.Test.YtmnimcdbfolhaaaV4
set_option linter.unusedSimpArgs false
set_option linter.unusedVariables false
namespace Go.Proofs.Ytmnimcdbfolhaaa
open Go.RowKit DK
namespace DK
noncomputable def rowsOf (x : Bts) : List Bts := Classical.choose (rows_of x)
theorem rowsOf_is (x : Bts) : DK.Rows x (rowsOf x) := Classical.choose_spec (rows_of x)
theorem rowsOf_eq {x : Bts} {l : List Bts} (h : DK.Rows x l) : rowsOf x = l := (rowsOf_is x).uniq h
noncomputable def open1 (s : St) (f : Int) : Int × St := if (recs (rowsOf (s.data f.toNat))).length < (s.data f.toNat).length then cut s f ((recs (rowsOf (s.data f.toNat))).length : Int) else (0, s)
def open2 (s : St) (f : Int) : Int × St := if 0 < DK.size s (f + 1) then cut s (f + 1) 0 else (0, s)
noncomputable def openS (s : St) (f : Int) : Int × St :=
  if f < 0 ∨ 6 < f then (1, s) else if s.down then (9, s) else
    if (open1 s f).1 ≠ 0 then open1 s f else if (open2 (open1 s f).2 f).1 ≠ 0 then open2 (open1 s f).2 f else flush (open2 (open1 s f).2 f).2 f
end DK
def lp (lb : Nat) : Value := .pointer (some ⟨lb, 0, none⟩)
def logO (b : Nat) (f : Int) (v : Value) : Obj := .cells #[dp b, .int .i64 f, v] 77 (0, 0)
def strV (l : List Bts) : List Value := l.map fun x => .string (bs x)
theorem strV_len (l : List Bts) : (strV l).length = l.length := by simp [strV]
theorem strV_snoc (l : List Bts) (x : Bts) : strV (l ++ [x]) = strV l ++ [.string (bs x)] := by simp [strV]
structure LogAt (w : World) (b lb : Nat) (f : Int) (o : Option Nat) (c : Nat) (R : List Bts) : Prop where
  obj : w.heap[lb]? = some (logO b f (.slice (ad o) R.length c))
  row : w.ownsRow (lb + 1) 9 1 (.slice (ad o) R.length c) R.length (strV R)
section
variable {w w' : World} {b lb : Nat} {f : Int} {o : Option Nat} {c : Nat} {R : List Bts}
theorem LogAt.lt (h : LogAt w b lb f o c R) : lb < w.heap.size := (Array.getElem?_eq_some_iff.1 h.obj).1
theorem LogAt.olt (h : LogAt w b lb f o c R) {g : Nat} (e : o = some g) : lb < g ∧ g < w.heap.size := by
  have := h.row.lt g (by rw [ad_block]; exact e); omega
theorem LogAt.keep (h : LogAt w b lb f o c R) {P : Nat → Prop} (k : Keep P w w') (h1 : P lb) (h2 : ∀ g, o = some g → P g) : LogAt w' b lb f o c R :=
  ⟨(k.block lb h.lt h1).trans h.obj, row_heap h.row fun g e => by rw [ad_block] at e; exact k.block g (h.olt e).2 (h2 g e)⟩
theorem LogAt.below (h : LogAt w b lb f o c R) (k : Below w.heap.size w w') : LogAt w' b lb f o c R := h.keep (P := fun _ => True) (Keep.of_below k) trivial fun _ _ => trivial
theorem logO_cells {v : Value} (h : w.heap[lb]? = some (logO b f v)) : w.cell? ⟨lb, 0, none⟩ = some (dp b) ∧ w.cell? ⟨lb, 1, none⟩ = some (.int .i64 f) ∧ w.cell? ⟨lb, 2, none⟩ = some v ∧ w.frozen? ⟨lb, 2, none⟩ = false := by
  refine ⟨?_, ?_, ?_, ?_⟩ <;> simp [World.cell?, World.frozen?, h, logO]
theorem logO_set {v : Value} (h : w.heap[lb]? = some (logO b f v)) (u : Value) : (w.setCell ⟨lb, 2, none⟩ u).heap[lb]? = some (logO b f u) := by
  simp [World.setCell, Array.getElem?_modify, h, logO]
end
/-- A log beside its disk; P: the blocks of others, which stay. -/
structure Wal (w0 : World) (b lb : Nat) (f : Int) (P : Nat → Prop) (n : Nat) (w : World) (s : St) (R : List Bts) : Prop where
  at_ : ∃ o c, LogAt w b lb f o c R ∧ (∀ k, P k → k ≠ lb ∧ o ≠ some k) ∧ HasP w0 b (fun k => P k ∨ k = lb ∨ o = some k) n w s
  base : w0.heap.size ≤ lb
section
variable {w0 w w' : World} {b lb : Nat} {f : Int} {P : Nat → Prop} {n : Nat} {s : St} {R : List Bts}
theorem Wal.below_ (h : Wal w0 b lb f P n w s R) (hb : Below w.heap.size w w') : Wal w0 b lb f P n w' s R := by
  obtain ⟨o, c, hL, hP, hH⟩ := h.at_
  exact ⟨⟨o, c, hL.below hb, hP, hH.below_ hb⟩, h.base⟩
theorem Wal.has (h : Wal w0 b lb f P n w s R) : HasP w0 b P n w s := by
  obtain ⟨o, c, hL, hP, hH⟩ := h.at_
  exact hH.sub fun k q => .inl q
theorem Wal.below (h : Wal w0 b lb f P n w s R) : Below w0.heap.size w0 w := h.has.below
theorem Wal.lt (h : Wal w0 b lb f P n w s R) : lb < w.heap.size := by obtain ⟨o, c, hL, _⟩ := h.at_; exact hL.lt
theorem Wal.sub (h : Wal w0 b lb f P n w s R) {Q : Nat → Prop} (hq : ∀ k, Q k → P k) : Wal w0 b lb f Q n w s R := by
  obtain ⟨o, c, hL, hP, hH⟩ := h.at_
  exact ⟨⟨o, c, hL, fun k q => hP k (hq k q), hH.sub fun k q => q.imp (hq k) id⟩, h.base⟩
theorem Wal.more {m : Nat} (h : Wal w0 b lb f P n w s R) (hm : n ≤ m) : Wal w0 b lb f P m w s R := by
  obtain ⟨o, c, hL, hP, hH⟩ := h.at_
  exact ⟨⟨o, c, hL, hP, hH.more hm⟩, h.base⟩
end
def OpenIs (w0 : World) (b : Nat) (f : Int) (P : Nat → Prop) (n : Nat) (s : St) (w : World) (e : Ending) (w' : World) : Prop :=
  Keep P w w' ∧ (((openS s f).1 = 0 ∧ ∃ lb, e = .returned (.tuple #[lp lb, .int .i64 0]) ∧ Wal w0 b lb f P n w' (openS s f).2 (rowsOf (s.data f.toNat)) ∧ w.heap.size ≤ lb) ∨
    ((openS s f).1 ≠ 0 ∧ e = .returned (.tuple #[.pointer none, .int .i64 (openS s f).1]) ∧ HasP w0 b P n w' (openS s f).2))
end Go.Proofs.Ytmnimcdbfolhaaa
