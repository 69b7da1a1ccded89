/- Memory words of the disk: its cells, the rows of its files, its list; what a call may turn. -/
import Derived.Test.YtmnimcdbfolhaaaMem
import Derived.Test.YtmnimcdbfolhaaaAppSrc
import Derived.Test.YtmnimcdbfolhaaaRowK
import Derived.Test.YtmnimcdbfolhaaaDP
set_option linter.unusedSimpArgs false
set_option linter.unusedVariables false
namespace Go.Proofs.Ytmnimcdbfolhaaa
open Go.RowKit DK
def bs (l : Bts) : ByteArray := ⟨l.toArray⟩
theorem bs_size (l : Bts) : (bs l).size = l.length := by simp [bs, ByteArray.size]
theorem bs_list (l : Bts) : (bs l).data.toList = l := by simp [bs]
theorem bs_of (s : ByteArray) : bs s.data.toList = s := by apply ByteArray.ext; simp [bs]
theorem bs_inj {a b : Bts} (h : bs a = bs b) : a = b := by rw [← bs_list a, h, bs_list]
def bytesV (l : Bts) : List Value := l.map fun b => Value.int .u8 (b.toNat : Int)
theorem byteCells_bs (l : Bts) : byteCells (bs l) = bytesV l := by unfold byteCells; rw [bs_list]; rfl
theorem bytesV_app (a b : Bts) : bytesV (a ++ b) = bytesV a ++ bytesV b := by simp [bytesV]
theorem bytesV_len (a : Bts) : (bytesV a).length = a.length := by simp [bytesV]
theorem bytesV_take (a : Bts) (n : Nat) : (bytesV a).take n = bytesV (a.take n) := by simp [bytesV, List.map_take]
theorem ints_of_owns {w : World} {base e : Nat} {v : Value} {A : List Int} (h : w.ownsRow base e 1 v A.length (A.map (Value.int .i64))) : ∃ C cc, v = .slice C A.length cc ∧ IntsAt w w.heap.size C A := by
  obtain ⟨h1, ⟨rfl, h0⟩ | ⟨g, cap, cur, rfl, h2, h3, h4, h5, h6, h7⟩⟩ := h
  · obtain rfl : A = [] := List.eq_nil_of_length_eq_zero h0
    exact ⟨none, 0, rfl, fun h => absurd h (by simp)⟩
  · refine ⟨_, cap, rfl, fun _ => ⟨g, 0, rfl, ?_, fun j hj => ?_⟩⟩
    · rcases Nat.lt_or_ge g w.heap.size with h | h
      · exact h
      · rw [Array.getElem?_eq_none h] at h3; cases h3
    · rw [Nat.zero_add, cell_of_row w g j cur e (0, 0) h3]
      have : (A.map (Value.int .i64))[j]? = some (intF A j) := by simp [intF, List.getD_eq_getElem?_getD, hj]
      rw [← h7, List.getElem?_take_of_lt (by omega)] at this
      simpa using this
theorem IntsAt.at_ {w : World} {B : Nat} {C : Option Addr} {A : List Int} (h : IntsAt w B C A) {k : Nat} {x : Int} (hk : A[k]? = some x) : ∃ b off, C = some ⟨b, off, none⟩ ∧ b < B ∧ w.cell? ⟨b, off + k, none⟩ = some (.int .i64 x) := by
  have hlt := (List.getElem?_eq_some_iff.1 hk).1
  obtain ⟨b, off, e, hb, hc⟩ := h (by omega)
  refine ⟨b, off, e, hb, ?_⟩
  rw [hc k hlt]
  simp [intF, List.getD_eq_getElem?_getD, hk]
theorem IntsAt.below {w w' : World} {B : Nat} {C : Option Addr} {A : List Int} (h : IntsAt w B C A) (hb : Below B w w') : IntsAt w' B C A := CellsAt.below h hb
theorem IntsAt.more {w : World} {B B' : Nat} {C : Option Addr} {A : List Int} (h : IntsAt w B C A) (hB : B ≤ B') : IntsAt w B' C A := CellsAt.more h hB
def pdC (p : Pd) : List Value := [.int .i64 p.file, .int .i64 p.fr, .int .i64 p.un]
theorem pdC_len (p : Pd) : (pdC p).length = 3 := rfl
def rowPd (q : List Pd) : List Value := q.flatMap pdC
theorem rowPd_len (q : List Pd) : (rowPd q).length = q.length * 3 := rowk_len pdC_len q
def ad (o : Option Nat) : Option Addr := o.map fun g => ⟨g, 0, none⟩
/-- The names of a disk's memory: of each file its row and the row's room; of the list; of what is kept at the scheduled crash. -/
structure Dm where
  dA : Nat → Option Nat
  dc : Nat → Nat
  lA : Option Nat
  lc : Nat
  kA : Option Addr
  kc : Nat
def Dm.zero : Dm := ⟨fun _ => none, fun _ => 0, none, 0, none, 0⟩
structure DiskAt (w : World) (b : Nat) (m : Dm) (s : St) : Prop where
  cd : ∀ f, f < 8 → w.cell? ⟨b, f * 2, none⟩ = some (.slice (ad (m.dA f)) (s.data f).length (m.dc f))
  cu : ∀ f, f < 8 → w.cell? ⟨b, f * 2 + 1, none⟩ = some (.int .i64 (s.dur f))
  cl : w.cell? ⟨b, 16, none⟩ = some (.slice (ad m.lA) s.q.length m.lc)
  cn : w.cell? ⟨b, 17, none⟩ = some (.bool s.down)
  ct : w.cell? ⟨b, 18, none⟩ = some (.int .i64 s.lost)
  ca : w.cell? ⟨b, 19, none⟩ = some (.int .i64 s.armed)
  ck : w.cell? ⟨b, 20, none⟩ = some (.slice m.kA s.keep.length m.kc)
  fz : ∀ i, w.frozen? ⟨b, i, none⟩ = false
  rd : ∀ f, f < 8 → w.ownsRow (b + 1) 5 1 (.slice (ad (m.dA f)) (s.data f).length (m.dc f)) (s.data f).length (bytesV (s.data f))
  rl : w.ownsRow (b + 1) 94 3 (.slice (ad m.lA) s.q.length m.lc) s.q.length (rowPd s.q)
  rk : IntsAt w w.heap.size m.kA s.keep
  ap : ∀ f g, f < 8 → g < 8 → f ≠ g → m.dA f = none ∨ m.dA f ≠ m.dA g
  al : ∀ f, f < 8 → m.dA f = none ∨ m.dA f ≠ m.lA
  ak : ∀ a, m.kA = some a → b < a.block ∧ (∀ f, f < 8 → m.dA f ≠ some a.block) ∧ m.lA ≠ some a.block
  kl : ∀ a, m.kA = some a → a.block < w.heap.size
/-- The blocks of a disk. -/
def foot (b : Nat) (m : Dm) (k : Nat) : Prop := k = b ∨ (∃ f, f < 8 ∧ m.dA f = some k) ∨ m.lA = some k ∨ ∃ a, m.kA = some a ∧ a.block = k
abbrev footD := foot
/-- What a call on a disk may have turned: the disk's own blocks, and what is new. -/
structure Stp (b : Nat) (m : Dm) (w : World) (m' : Dm) (w' : World) : Prop where
  os : w'.os = w.os
  tape : w'.tape = w.tape
  output : w'.output = w.output
  size : w.heap.size ≤ w'.heap.size
  block : ∀ k, k < w.heap.size → ¬ foot b m k → w'.heap[k]? = w.heap[k]?
  foot : ∀ k, footD b m' k → footD b m k ∨ w.heap.size ≤ k
theorem Stp.refl (b : Nat) (m : Dm) (w : World) : Stp b m w m w := ⟨rfl, rfl, rfl, Nat.le_refl _, fun _ _ _ => rfl, fun _ h => .inl h⟩
theorem Stp.trans {b : Nat} {m1 m2 m3 : Dm} {w1 w2 w3 : World} (h : Stp b m1 w1 m2 w2) (k : Stp b m2 w2 m3 w3) : Stp b m1 w1 m3 w3 := by
  refine ⟨k.os.trans h.os, k.tape.trans h.tape, k.output.trans h.output, Nat.le_trans h.size k.size, fun i hi hn => ?_, fun i hi => ?_⟩
  · have h2 : ¬ footD b m2 i := fun q => by
      rcases h.foot i q with q | q
      · exact hn q
      · omega
    rw [k.block i (Nat.lt_of_lt_of_le hi h.size) h2, h.block i hi hn]
  · rcases k.foot i hi with q | q
    · exact h.foot i q
    · exact .inr (Nat.le_trans h.size q)
theorem Stp.below {b : Nat} {m m' : Dm} {w w' : World} (h : Stp b m w m' w') {B : Nat} (hB : B ≤ w.heap.size) (hf : ∀ k, footD b m k → B ≤ k) : Below B w w' :=
  ⟨h.os, h.tape, h.output, h.size, fun k hk => h.block k (by omega) (fun q => by have := hf k q; omega)⟩
theorem Stp.of_below {b : Nat} {m : Dm} {w w' : World} (h : Below w.heap.size w w') : Stp b m w m w' := ⟨h.os, h.tape, h.output, h.size, fun k hk _ => h.block k hk, fun _ q => .inl q⟩
theorem ad_block {o : Option Nat} {n c : Nat} : (Value.slice (ad o) n c).ownBlock = o := by cases o <;> rfl
theorem ad_inj {o : Option Nat} {g : Nat} (h : ad o = some ⟨g, 0, none⟩) : o = some g := by cases o <;> simp [ad] at h ⊢; exact h
theorem ad_of_owns {w : World} {base e size n : Nat} {v : Value} {xs : List Value} (h : w.ownsRow base e size v n xs) : ∃ o c, v = .slice (ad o) n c ∧ v.ownBlock = o := by
  rcases h.2 with ⟨rfl, rfl⟩ | ⟨g, cap, cur, rfl, _⟩
  · exact ⟨none, 0, rfl, rfl⟩
  · exact ⟨some g, cap, rfl, rfl⟩
section
variable {w w' : World} {b : Nat} {m : Dm} {s : St}
theorem DiskAt.lt (h : DiskAt w b m s) : b < w.heap.size := World.block_lt_of_cell? w ⟨b, 17, none⟩ h.cn
theorem DiskAt.dlt (h : DiskAt w b m s) {f : Nat} (hf : f < 8) {g : Nat} (e : m.dA f = some g) : b < g ∧ g < w.heap.size := by
  have := (h.rd f hf).lt g (by rw [ad_block]; exact e); omega
theorem DiskAt.llt (h : DiskAt w b m s) {g : Nat} (e : m.lA = some g) : b < g ∧ g < w.heap.size := by
  have := h.rl.lt g (by rw [ad_block]; exact e); omega
theorem DiskAt.klt (h : DiskAt w b m s) {a : Addr} (e : m.kA = some a) (hk : s.keep ≠ []) : a.block < w.heap.size := by
  obtain ⟨b', o, e', hb, _⟩ := h.rk (List.length_pos_iff.2 hk)
  rw [e] at e'; injection e' with e'; rw [e']; exact hb
/-- Where no block of the disk has turned. -/
theorem DiskAt.keep (h : DiskAt w b m s) (hz : w.heap.size ≤ w'.heap.size) (hk : ∀ k, k < w.heap.size → foot b m k → w'.heap[k]? = w.heap[k]?) : DiskAt w' b m s := by
  have hb := h.lt
  have hB : w'.heap[b]? = w.heap[b]? := hk b hb (.inl rfl)
  have hc : ∀ i, w'.cell? ⟨b, i, none⟩ = w.cell? ⟨b, i, none⟩ := fun i => World.cell?_of_block (a := ⟨b, i, none⟩) hB
  have row : ∀ {e k n : Nat} {o : Option Nat} {c : Nat} {xs : List Value}, w.ownsRow (b + 1) e k (.slice (ad o) n c) n xs → (∀ g, o = some g → foot b m g) → w'.ownsRow (b + 1) e k (.slice (ad o) n c) n xs := by
    intro e k n o c xs hr hf
    refine ⟨hr.1, ?_⟩
    rcases hr.2 with hn | ⟨g, cap, cur, h1, h2, h3, h4⟩
    · exact .inl hn
    · have hg : o = some g := by injection h1 with h1; exact ad_inj h1
      exact .inr ⟨g, cap, cur, h1, h2, by rw [hk g (Array.getElem?_eq_some_iff.1 h3).1 (hf g hg)]; exact h3, h4⟩
  refine ⟨fun f hf => (hc _).trans (h.cd f hf), fun f hf => (hc _).trans (h.cu f hf), (hc _).trans h.cl, (hc _).trans h.cn, (hc _).trans h.ct, (hc _).trans h.ca, (hc _).trans h.ck,
    fun i => (World.frozen?_of_block (a := ⟨b, i, none⟩) hB).trans (h.fz i), fun f hf => row (h.rd f hf) fun g e => .inr (.inl ⟨f, hf, e⟩), row h.rl fun g e => .inr (.inr (.inl e)), ?_, h.ap, h.al, h.ak, fun a e => Nat.lt_of_lt_of_le (h.kl a e) hz⟩
  intro hl
  obtain ⟨b', o, e, hlt, hcell⟩ := h.rk hl
  exact ⟨b', o, e, by omega, fun j hj => (World.cell?_of_block (a := ⟨b', o + j, none⟩) (hk b' hlt (.inr (.inr (.inr ⟨_, e, rfl⟩))))).trans (hcell j hj)⟩
theorem DiskAt.below (h : DiskAt w b m s) (hb : Below w.heap.size w w') : DiskAt w' b m s := h.keep hb.size fun k hk _ => hb.block k hk
theorem DiskAt.drewN (h : DiskAt w b m s) (n : Nat) : DiskAt (w.drewN n) b m s := h.below (below_drewN (Below.refl _ _) n)
theorem DiskAt.drew (h : DiskAt w b m s) : DiskAt w.drew b m s := h.below (Below.refl _ _).drew
/-- What a store into the disk's own block leaves. -/
structure Rest (w w' : World) (b i : Nat) (v : Value) : Prop where
  cell : w'.cell? ⟨b, i, none⟩ = some v
  other : ∀ j, j ≠ i → w'.cell? ⟨b, j, none⟩ = w.cell? ⟨b, j, none⟩
  fz : ∀ j, w'.frozen? ⟨b, j, none⟩ = w.frozen? ⟨b, j, none⟩
  heap : ∀ k, k ≠ b → w'.heap[k]? = w.heap[k]?
  size : w'.heap.size = w.heap.size
theorem rest_store {u : Value} (i : Nat) (hc : w.cell? ⟨b, i, none⟩ = some u) (v : Value) : Rest w (w.setCell ⟨b, i, none⟩ v) b i v :=
  ⟨World.cell?_setCell_same _ _ _ hc, fun j hj => World.cell?_setCell_other _ _ _ _ (fun e => hj (by injection e with e1 e2; exact e2.symm)), fun j => World.frozen?_setCell _ _ _ _, fun k hk => Below.heap_setCell _ _ _ _ hk, by simp⟩
theorem stp_store (m : Dm) (i : Nat) (v : Value) : Stp b m w m (w.setCell ⟨b, i, none⟩ v) :=
  ⟨rfl, rfl, rfl, by simp, fun k _ hn => Below.heap_setCell _ _ _ _ (fun e => hn (.inl e)), fun _ h => .inl h⟩
theorem row_heap {base e size n : Nat} {v : Value} {xs : List Value} (hr : w.ownsRow base e size v n xs) (hk : ∀ k, v.ownBlock = some k → w'.heap[k]? = w.heap[k]?) : w'.ownsRow base e size v n xs := by
  refine ⟨hr.1, ?_⟩
  rcases hr.2 with hn | ⟨g, cap, cur, rfl, h2, h3, h4⟩
  · exact .inl hn
  · exact .inr ⟨g, cap, cur, rfl, h2, by rw [hk g rfl]; exact h3, h4⟩
theorem ints_heap {B B' : Nat} {A : Option Addr} {l : List Int} (h : IntsAt w B A l) (hB : B ≤ B') (hk : ∀ a, A = some a → a.block < B → w'.heap[a.block]? = w.heap[a.block]?) : IntsAt w' B' A l := by
  intro hl
  obtain ⟨b', o, e, hlt, hcell⟩ := h hl
  exact ⟨b', o, e, by omega, fun j hj => (World.cell?_of_block (a := ⟨b', o + j, none⟩) (hk ⟨b', o, none⟩ e hlt)).trans (hcell j hj)⟩
/-- The general step: the cells of the disk's block hold a state's again, the rows hold, and lie apart. -/
theorem DiskAt.again (h : DiskAt w b m s) {m' : Dm} {s' : St} {i : Nat} {v : Value} (R : Rest w w' b i v) (hz : w.heap.size ≤ w'.heap.size)
    (ed : ∀ f, f < 8 → w'.cell? ⟨b, f * 2, none⟩ = some (.slice (ad (m'.dA f)) (s'.data f).length (m'.dc f))) (eu : ∀ f, f < 8 → w'.cell? ⟨b, f * 2 + 1, none⟩ = some (.int .i64 (s'.dur f)))
    (el : w'.cell? ⟨b, 16, none⟩ = some (.slice (ad m'.lA) s'.q.length m'.lc)) (en : w'.cell? ⟨b, 17, none⟩ = some (.bool s'.down)) (et : w'.cell? ⟨b, 18, none⟩ = some (.int .i64 s'.lost)) (ea : w'.cell? ⟨b, 19, none⟩ = some (.int .i64 s'.armed))
    (ek : w'.cell? ⟨b, 20, none⟩ = some (.slice m'.kA s'.keep.length m'.kc))
    (hd : ∀ f, f < 8 → w.ownsRow (b + 1) 5 1 (.slice (ad (m'.dA f)) (s'.data f).length (m'.dc f)) (s'.data f).length (bytesV (s'.data f)))
    (hl : w.ownsRow (b + 1) 94 3 (.slice (ad m'.lA) s'.q.length m'.lc) s'.q.length (rowPd s'.q)) (hk : IntsAt w w.heap.size m'.kA s'.keep)
    (ap : ∀ f g, f < 8 → g < 8 → f ≠ g → m'.dA f = none ∨ m'.dA f ≠ m'.dA g) (al : ∀ f, f < 8 → m'.dA f = none ∨ m'.dA f ≠ m'.lA)
    (ak : ∀ a, m'.kA = some a → b < a.block ∧ (∀ f, f < 8 → m'.dA f ≠ some a.block) ∧ m'.lA ≠ some a.block) (kl : ∀ a, m'.kA = some a → a.block < w.heap.size) : DiskAt w' b m' s' :=
  ⟨ed, eu, el, en, et, ea, ek, fun j => (R.fz j).trans (h.fz j), fun f hf => row_heap (hd f hf) fun k e => R.heap k (by have := (hd f hf).lt k e; omega), row_heap hl fun k e => R.heap k (by have := hl.lt k e; omega),
    ints_heap hk hz fun a e _ => R.heap _ (by have := (ak a e).1; omega), ap, al, ak, fun a e => Nat.lt_of_lt_of_le (kl a e) hz⟩
theorem DiskAt.setArmed (h : DiskAt w b m s) (n : Nat) : DiskAt (w.setCell ⟨b, 19, none⟩ (.int .i64 n)) b m { s with armed := n } := by
  have R := rest_store 19 h.ca (.int .i64 n)
  exact h.again R (by simp) (fun f hf => (R.other _ (by omega)).trans (h.cd f hf)) (fun f hf => (R.other _ (by omega)).trans (h.cu f hf)) ((R.other _ (by omega)).trans h.cl) ((R.other _ (by omega)).trans h.cn) ((R.other _ (by omega)).trans h.ct) R.cell ((R.other _ (by omega)).trans h.ck) h.rd h.rl h.rk h.ap h.al h.ak h.kl
theorem DiskAt.setLost (h : DiskAt w b m s) (n : Nat) : DiskAt (w.setCell ⟨b, 18, none⟩ (.int .i64 n)) b m { s with lost := n } := by
  have R := rest_store 18 h.ct (.int .i64 n)
  exact h.again R (by simp) (fun f hf => (R.other _ (by omega)).trans (h.cd f hf)) (fun f hf => (R.other _ (by omega)).trans (h.cu f hf)) ((R.other _ (by omega)).trans h.cl) ((R.other _ (by omega)).trans h.cn) R.cell ((R.other _ (by omega)).trans h.ca) ((R.other _ (by omega)).trans h.ck) h.rd h.rl h.rk h.ap h.al h.ak h.kl
theorem DiskAt.setDown (h : DiskAt w b m s) (n : Bool) : DiskAt (w.setCell ⟨b, 17, none⟩ (.bool n)) b m { s with down := n } := by
  have R := rest_store 17 h.cn (.bool n)
  exact h.again R (by simp) (fun f hf => (R.other _ (by omega)).trans (h.cd f hf)) (fun f hf => (R.other _ (by omega)).trans (h.cu f hf)) ((R.other _ (by omega)).trans h.cl) R.cell ((R.other _ (by omega)).trans h.ct) ((R.other _ (by omega)).trans h.ca) ((R.other _ (by omega)).trans h.ck) h.rd h.rl h.rk h.ap h.al h.ak h.kl
theorem DiskAt.setKeep (h : DiskAt w b m s) {A : Option Addr} {l : List Int} {c : Nat} (hA : IntsAt w w.heap.size A l) (ha : ∀ a, A = some a → b < a.block ∧ (∀ f, f < 8 → m.dA f ≠ some a.block) ∧ m.lA ≠ some a.block) (hl : ∀ a, A = some a → a.block < w.heap.size) :
    DiskAt (w.setCell ⟨b, 20, none⟩ (.slice A l.length c)) b { m with kA := A, kc := c } { s with keep := l } := by
  have R := rest_store 20 h.ck (.slice A l.length c)
  exact h.again R (by simp) (fun f hf => (R.other _ (by omega)).trans (h.cd f hf)) (fun f hf => (R.other _ (by omega)).trans (h.cu f hf)) ((R.other _ (by omega)).trans h.cl) ((R.other _ (by omega)).trans h.cn) ((R.other _ (by omega)).trans h.ct) ((R.other _ (by omega)).trans h.ca) R.cell h.rd h.rl hA h.ap h.al ha hl
theorem DiskAt.setList (h : DiskAt w b m s) {o : Option Nat} {c : Nat} {q : List Pd} (hq : w.ownsRow (b + 1) 94 3 (.slice (ad o) q.length c) q.length (rowPd q)) (ha : ∀ f, f < 8 → m.dA f = none ∨ m.dA f ≠ o) (hk : ∀ a, m.kA = some a → o ≠ some a.block) :
    DiskAt (w.setCell ⟨b, 16, none⟩ (.slice (ad o) q.length c)) b { m with lA := o, lc := c } { s with q := q } := by
  have R := rest_store 16 h.cl (.slice (ad o) q.length c)
  exact h.again R (by simp) (fun f hf => (R.other _ (by omega)).trans (h.cd f hf)) (fun f hf => (R.other _ (by omega)).trans (h.cu f hf)) R.cell ((R.other _ (by omega)).trans h.cn) ((R.other _ (by omega)).trans h.ct) ((R.other _ (by omega)).trans h.ca) ((R.other _ (by omega)).trans h.ck) h.rd hq h.rk h.ap ha (fun a e => ⟨(h.ak a e).1, (h.ak a e).2.1, hk a e⟩) h.kl
theorem DiskAt.setDur (h : DiskAt w b m s) {f : Nat} (hf : f < 8) (n : Nat) : DiskAt (w.setCell ⟨b, f * 2 + 1, none⟩ (.int .i64 n)) b m { s with dur := upd s.dur f n } := by
  have R := rest_store (f * 2 + 1) (h.cu f hf) (.int .i64 n)
  refine h.again R (by simp) (fun g hg => (R.other _ (by omega)).trans (h.cd g hg)) (fun g hg => ?_) ((R.other _ (by omega)).trans h.cl) ((R.other _ (by omega)).trans h.cn) ((R.other _ (by omega)).trans h.ct) ((R.other _ (by omega)).trans h.ca) ((R.other _ (by omega)).trans h.ck) h.rd h.rl h.rk h.ap h.al h.ak h.kl
  by_cases e : g = f
  · subst e
    show _ = some (Value.int .i64 ((upd s.dur g n g : Nat) : Int))
    rw [upd_same]; exact R.cell
  · show _ = some (Value.int .i64 ((upd s.dur f n g : Nat) : Int))
    rw [upd_other _ _ e]; exact (R.other _ (by omega)).trans (h.cu g hg)
/-- A file's slice is written: its row may be another. -/
theorem DiskAt.setData (h : DiskAt w b m s) {f : Nat} (hf : f < 8) {o : Option Nat} {c : Nat} {x : Bts} (hx : w.ownsRow (b + 1) 5 1 (.slice (ad o) x.length c) x.length (bytesV x))
    (hap : ∀ g, g < 8 → g ≠ f → o = none ∨ o ≠ m.dA g) (hal : o = none ∨ o ≠ m.lA) (hak : ∀ a, m.kA = some a → o ≠ some a.block) :
    DiskAt (w.setCell ⟨b, f * 2, none⟩ (.slice (ad o) x.length c)) b { m with dA := upd m.dA f o, dc := upd m.dc f c } { s with data := upd s.data f x } := by
  have R := rest_store (f * 2) (h.cd f hf) (.slice (ad o) x.length c)
  refine h.again R (by simp) (fun g hg => ?_) (fun g hg => (R.other _ (by omega)).trans (h.cu g hg)) ((R.other _ (by omega)).trans h.cl) ((R.other _ (by omega)).trans h.cn) ((R.other _ (by omega)).trans h.ct) ((R.other _ (by omega)).trans h.ca) ((R.other _ (by omega)).trans h.ck) (fun g hg => ?_) h.rl h.rk (fun g k hg hk hne => ?_) (fun g hg => ?_) (fun a e => ⟨(h.ak a e).1, fun g hg => ?_, (h.ak a e).2.2⟩) h.kl
  · show _ = some (Value.slice (ad (upd m.dA f o g)) (List.length (upd s.data f x g)) (upd m.dc f c g))
    by_cases e : g = f
    · subst e; rw [upd_same, upd_same, upd_same]; exact R.cell
    · rw [upd_other _ _ e, upd_other _ _ e, upd_other _ _ e]; exact (R.other _ (by omega)).trans (h.cd g hg)
  · show w.ownsRow _ _ _ (Value.slice (ad (upd m.dA f o g)) (List.length (upd s.data f x g)) (upd m.dc f c g)) (List.length (upd s.data f x g)) (bytesV (upd s.data f x g))
    by_cases e : g = f
    · subst e; rw [upd_same, upd_same, upd_same]; exact hx
    · rw [upd_other _ _ e, upd_other _ _ e, upd_other _ _ e]; exact h.rd g hg
  · show upd m.dA f o g = none ∨ upd m.dA f o g ≠ upd m.dA f o k
    by_cases e : g = f
    · subst e; rw [upd_same, upd_other _ _ (Ne.symm hne)]; exact hap k hk (Ne.symm hne)
    · rw [upd_other _ _ e]
      by_cases e2 : k = f
      · subst e2; rw [upd_same]
        rcases hap g hg e with q | q
        · rw [q]; cases m.dA g <;> simp
        · exact .inr (Ne.symm q)
      · rw [upd_other _ _ e2]; exact h.ap g k hg hk hne
  · show upd m.dA f o g = none ∨ upd m.dA f o g ≠ m.lA
    by_cases e : g = f
    · subst e; rw [upd_same]; exact hal
    · rw [upd_other _ _ e]; exact h.al g hg
  · show upd m.dA f o g ≠ _
    by_cases e : g = f
    · subst e; rw [upd_same]; exact hak a e
    · rw [upd_other _ _ e]; exact (h.ak a ‹_›).2.1 g hg
/-- The bytes of a file's row are written; all else stands. -/
theorem DiskAt.poke (h : DiskAt w b m s) {f : Nat} (hf : f < 8) {x : Bts} (hg : w.grownBy w' (m.dA f)) (hl : x.length = (s.data f).length) (hx : w'.ownsRow (b + 1) 5 1 (.slice (ad (m.dA f)) x.length (m.dc f)) x.length (bytesV x)) :
    DiskAt w' b m { s with data := upd s.data f x } := by
  have hb := h.lt
  have hB : w'.heap[b]? = w.heap[b]? := hg.block b hb (fun e => by have := h.dlt hf e.symm; omega)
  have hc : ∀ i, w'.cell? ⟨b, i, none⟩ = w.cell? ⟨b, i, none⟩ := fun i => World.cell?_of_block (a := ⟨b, i, none⟩) hB
  refine ⟨fun g hg8 => ?_, fun g hg => (hc _).trans (h.cu g hg), (hc _).trans h.cl, (hc _).trans h.cn, (hc _).trans h.ct, (hc _).trans h.ca, (hc _).trans h.ck, fun i => (World.frozen?_of_block (a := ⟨b, i, none⟩) hB).trans (h.fz i), fun g hg8 => ?_,
    row_heap h.rl fun k e => hg.block k (h.rl.lt k e).2 (fun e2 => ?_), ints_heap h.rk hg.size fun a e hlt => ?_, h.ap, h.al, h.ak, fun a e => Nat.lt_of_lt_of_le (h.kl a e) hg.size⟩
  · refine (hc _).trans ?_
    show _ = some (Value.slice (ad (m.dA g)) (List.length (upd s.data f x g)) (m.dc g))
    by_cases e : g = f
    · subst e; rw [upd_same, hl]; exact h.cd g hg8
    · rw [upd_other _ _ e]; exact h.cd g hg8
  · show w'.ownsRow _ _ _ (Value.slice (ad (m.dA g)) (List.length (upd s.data f x g)) (m.dc g)) (List.length (upd s.data f x g)) (bytesV (upd s.data f x g))
    by_cases e : g = f
    · subst e; rw [upd_same]; exact hx
    · rw [upd_other _ _ e]
      refine row_heap (h.rd g hg8) fun k ek => hg.block k ((h.rd g hg8).lt k ek).2 (fun e2 => ?_)
      rw [ad_block] at ek
      rcases h.ap f g hf hg8 (Ne.symm e) with q | q
      · rw [q] at e2; cases e2
      · exact q (by rw [ek]; exact e2.symm)
  · rw [ad_block] at e
    rcases h.al f hf with q | q
    · rw [q] at e2; cases e2
    · exact q (by rw [e]; exact e2.symm)
  · have hk := h.ak a e
    exact hg.block _ hlt (fun e2 => hk.2.1 f hf e2.symm)
theorem DiskAt.congr (h : DiskAt w b m s) {s' : St} (hd : ∀ f, f < 8 → s'.data f = s.data f) (hu : ∀ f, f < 8 → s'.dur f = s.dur f) (hq : s'.q = s.q) (hn : s'.down = s.down) (ht : s'.lost = s.lost) (ha : s'.armed = s.armed) (hk : s'.keep = s.keep) : DiskAt w b m s' :=
  ⟨fun f hf => by rw [hd f hf]; exact h.cd f hf, fun f hf => by rw [hu f hf]; exact h.cu f hf, by rw [hq]; exact h.cl, by rw [hn]; exact h.cn, by rw [ht]; exact h.ct, by rw [ha]; exact h.ca, by rw [hk]; exact h.ck, h.fz,
    fun f hf => by rw [hd f hf]; exact h.rd f hf, by rw [hq]; exact h.rl, by rw [hk]; exact h.rk, h.ap, h.al, h.ak, h.kl⟩
/-- The list's row is written or made anew, and stored. -/
theorem DiskAt.listed (h : DiskAt w b m s) (hg : w.grownBy w' m.lA) {o : Option Nat} {c : Nat} {q : List Pd} (hq : w'.ownsRow (b + 1) 94 3 (.slice (ad o) q.length c) q.length (rowPd q)) (ho : o = m.lA ∨ ∃ k, o = some k ∧ w.heap.size ≤ k) :
    DiskAt (w'.setCell ⟨b, 16, none⟩ (.slice (ad o) q.length c)) b { m with lA := o, lc := c } { s with q := q } ∧ Stp b m w { m with lA := o, lc := c } (w'.setCell ⟨b, 16, none⟩ (.slice (ad o) q.length c)) := by
  have hb := h.lt
  have hB : w'.heap[b]? = w.heap[b]? := hg.block b hb (fun e => by have := h.llt e.symm; omega)
  have hc : ∀ i, w'.cell? ⟨b, i, none⟩ = w.cell? ⟨b, i, none⟩ := fun i => World.cell?_of_block (a := ⟨b, i, none⟩) hB
  have R := rest_store 16 ((hc 16).trans h.cl) (.slice (ad o) q.length c)
  have hd : ∀ f, f < 8 → w'.ownsRow (b + 1) 5 1 (.slice (ad (m.dA f)) (s.data f).length (m.dc f)) (s.data f).length (bytesV (s.data f)) := fun f hf =>
    row_heap (h.rd f hf) fun k ek => hg.block k ((h.rd f hf).lt k ek).2 fun e2 => by
      rw [ad_block] at ek
      rcases h.al f hf with q | q
      · rw [q] at ek; cases ek
      · exact q (by rw [ek]; exact e2)
  have hk : IntsAt w' w'.heap.size m.kA s.keep := ints_heap h.rk hg.size fun a e hlt => hg.block _ hlt fun e2 => (h.ak a e).2.2 e2.symm
  have hal : ∀ f, f < 8 → m.dA f = none ∨ m.dA f ≠ o := fun f hf => by
    rcases ho with rfl | ⟨k, rfl, hk⟩
    · exact h.al f hf
    · cases e : m.dA f with
      | none => exact .inl rfl
      | some g => have := h.dlt hf e; exact .inr (fun q => by injection q with q; omega)
  have hak : ∀ a, m.kA = some a → o ≠ some a.block := fun a e => by
    rcases ho with rfl | ⟨k, rfl, hk⟩
    · exact (h.ak a e).2.2
    · have := h.kl a e; intro q; injection q with q; omega
  refine ⟨⟨fun f hf => (R.other _ (by omega)).trans ((hc _).trans (h.cd f hf)), fun f hf => (R.other _ (by omega)).trans ((hc _).trans (h.cu f hf)), R.cell, (R.other _ (by omega)).trans ((hc _).trans h.cn), (R.other _ (by omega)).trans ((hc _).trans h.ct),
    (R.other _ (by omega)).trans ((hc _).trans h.ca), (R.other _ (by omega)).trans ((hc _).trans h.ck), fun j => (R.fz j).trans ((World.frozen?_of_block (a := ⟨b, j, none⟩) hB).trans (h.fz j)),
    fun f hf => row_heap (hd f hf) fun k e => R.heap k (by have := (hd f hf).lt k e; omega), row_heap hq fun k e => R.heap k (by have := hq.lt k e; omega), ints_heap hk (by rw [R.size]; exact Nat.le_refl _) fun a e _ => R.heap _ (by have := (h.ak a e).1; omega), h.ap, hal,
    fun a e => ⟨(h.ak a e).1, (h.ak a e).2.1, hak a e⟩, fun a e => by rw [R.size]; exact Nat.lt_of_lt_of_le (h.kl a e) hg.size⟩, ⟨hg.os, hg.tape, hg.output, by rw [R.size]; exact hg.size, fun k hk hn => ?_, fun k hk => ?_⟩⟩
  · rw [R.heap k (fun e => hn (.inl e))]
    exact hg.block k hk (fun e => hn (.inr (.inr (.inl e.symm))))
  · rcases hk with e | e | e | e
    · exact .inl (.inl e)
    · exact .inl (.inr (.inl e))
    · rcases ho with rfl | ⟨j, rfl, hj⟩
      · exact .inl (.inr (.inr (.inl e)))
      · injection e with e; exact .inr (by omega)
    · exact .inl (.inr (.inr (.inr e)))
/-- A file's row is written behind its end or made anew, and stored. -/
theorem DiskAt.filed (h : DiskAt w b m s) {f : Nat} (hf : f < 8) (hg : w.grownBy w' (m.dA f)) {o : Option Nat} {c : Nat} {x : Bts} (hx : w'.ownsRow (b + 1) 5 1 (.slice (ad o) x.length c) x.length (bytesV x)) (ho : o = m.dA f ∨ ∃ k, o = some k ∧ w.heap.size ≤ k) :
    DiskAt (w'.setCell ⟨b, f * 2, none⟩ (.slice (ad o) x.length c)) b { m with dA := upd m.dA f o, dc := upd m.dc f c } { s with data := upd s.data f x } ∧ Stp b m w { m with dA := upd m.dA f o, dc := upd m.dc f c } (w'.setCell ⟨b, f * 2, none⟩ (.slice (ad o) x.length c)) := by
  have hb := h.lt
  have hB : w'.heap[b]? = w.heap[b]? := hg.block b hb (fun e => by have := h.dlt hf e.symm; omega)
  have hc : ∀ i, w'.cell? ⟨b, i, none⟩ = w.cell? ⟨b, i, none⟩ := fun i => World.cell?_of_block (a := ⟨b, i, none⟩) hB
  have R := rest_store (f * 2) ((hc _).trans (h.cd f hf)) (.slice (ad o) x.length c)
  have hd : ∀ g, g < 8 → g ≠ f → w'.ownsRow (b + 1) 5 1 (.slice (ad (m.dA g)) (s.data g).length (m.dc g)) (s.data g).length (bytesV (s.data g)) := fun g hg8 hne =>
    row_heap (h.rd g hg8) fun k ek => hg.block k ((h.rd g hg8).lt k ek).2 fun e2 => by
      rw [ad_block] at ek
      rcases h.ap g f hg8 hf hne with q | q
      · rw [q] at ek; cases ek
      · exact q (by rw [ek]; exact e2)
  have hl : w'.ownsRow (b + 1) 94 3 (.slice (ad m.lA) s.q.length m.lc) s.q.length (rowPd s.q) := row_heap h.rl fun k ek => hg.block k (h.rl.lt k ek).2 fun e2 => by
    rw [ad_block] at ek
    rcases h.al f hf with q | q
    · rw [q] at e2; cases e2
    · exact q (by rw [ek]; exact e2.symm)
  have hk : IntsAt w' w'.heap.size m.kA s.keep := ints_heap h.rk hg.size fun a e hlt => hg.block _ hlt fun e2 => (h.ak a e).2.1 f hf e2.symm
  have fresh : ∀ k, k < w.heap.size → (∀ e : o = some k, m.dA f = some k) := fun k hk e => by
    rcases ho with rfl | ⟨j, rfl, hj⟩
    · exact e
    · injection e with e; omega
  refine ⟨⟨fun g hg8 => ?_, fun g hg8 => (R.other _ (by omega)).trans ((hc _).trans (h.cu g hg8)), (R.other _ (by omega)).trans ((hc _).trans h.cl), (R.other _ (by omega)).trans ((hc _).trans h.cn), (R.other _ (by omega)).trans ((hc _).trans h.ct),
    (R.other _ (by omega)).trans ((hc _).trans h.ca), (R.other _ (by omega)).trans ((hc _).trans h.ck), fun j => (R.fz j).trans ((World.frozen?_of_block (a := ⟨b, j, none⟩) hB).trans (h.fz j)),
    fun g hg8 => ?_, row_heap hl fun k e => R.heap k (by have := hl.lt k e; omega), ints_heap hk (by rw [R.size]; exact Nat.le_refl _) fun a e _ => R.heap _ (by have := (h.ak a e).1; omega), fun g k hg8 hk8 hne => ?_, fun g hg8 => ?_,
    fun a e => ⟨(h.ak a e).1, fun g hg8 => ?_, (h.ak a e).2.2⟩, fun a e => by rw [R.size]; exact Nat.lt_of_lt_of_le (h.kl a e) hg.size⟩, ⟨hg.os, hg.tape, hg.output, by rw [R.size]; exact hg.size, fun k hk hn => ?_, fun k hk => ?_⟩⟩
  · show _ = some (Value.slice (ad (upd m.dA f o g)) (List.length (upd s.data f x g)) (upd m.dc f c g))
    by_cases e : g = f
    · subst e; rw [upd_same, upd_same, upd_same]; exact R.cell
    · rw [upd_other _ _ e, upd_other _ _ e, upd_other _ _ e]; exact (R.other _ (by omega)).trans ((hc _).trans (h.cd g hg8))
  · show World.ownsRow _ _ _ _ (Value.slice (ad (upd m.dA f o g)) (List.length (upd s.data f x g)) (upd m.dc f c g)) (List.length (upd s.data f x g)) (bytesV (upd s.data f x g))
    by_cases e : g = f
    · subst e; rw [upd_same, upd_same, upd_same]; exact row_heap hx fun k e => R.heap k (by have := hx.lt k e; omega)
    · rw [upd_other _ _ e, upd_other _ _ e, upd_other _ _ e]; exact row_heap (hd g hg8 e) fun k q => R.heap k (by have := (hd g hg8 e).lt k q; omega)
  · show upd m.dA f o g = none ∨ upd m.dA f o g ≠ upd m.dA f o k
    by_cases e : g = f
    · subst e; rw [upd_same, upd_other _ _ (Ne.symm hne)]
      cases eo : o with
      | none => exact .inl rfl
      | some j =>
        refine .inr fun q => ?_
        have hj := h.dlt hk8 q.symm
        have := fresh j hj.2 eo
        rcases h.ap g k hg8 hk8 hne with r | r
        · rw [r] at this; cases this
        · exact r (this.trans q)
    · rw [upd_other _ _ e]
      by_cases e2 : k = f
      · subst e2; rw [upd_same]
        cases eg : m.dA g with
        | none => exact .inl rfl
        | some j =>
          refine .inr fun q => ?_
          have hj := h.dlt hg8 eg
          have := fresh j hj.2 q.symm
          rcases h.ap g k hg8 hk8 hne with r | r
          · rw [r] at eg; cases eg
          · exact r (eg.trans this.symm)
      · rw [upd_other _ _ e2]; exact h.ap g k hg8 hk8 hne
  · show upd m.dA f o g = none ∨ upd m.dA f o g ≠ m.lA
    by_cases e : g = f
    · subst e; rw [upd_same]
      cases eo : o with
      | none => exact .inl rfl
      | some j =>
        refine .inr fun q => ?_
        have hj := h.llt q.symm
        have := fresh j hj.2 eo
        rcases h.al g hg8 with r | r
        · rw [r] at this; cases this
        · exact r (this.trans q)
    · rw [upd_other _ _ e]; exact h.al g hg8
  · show upd m.dA f o g ≠ _
    by_cases e2 : g = f
    · subst e2; rw [upd_same]; intro q
      exact (h.ak a e).2.1 g hg8 (fresh _ (h.kl a e) q)
    · rw [upd_other _ _ e2]; exact (h.ak a e).2.1 g hg8
  · rw [R.heap k (fun e => hn (.inl e))]
    exact hg.block k hk (fun e => hn (.inr (.inl ⟨f, hf, e.symm⟩)))
  · rcases hk with e | ⟨g, hg8, e⟩ | e | e
    · exact .inl (.inl e)
    · have e : upd m.dA f o g = some k := e
      by_cases e2 : g = f
      · subst e2; rw [upd_same] at e
        rcases Nat.lt_or_ge k w.heap.size with hlt | hge
        · exact .inl (.inr (.inl ⟨g, hg8, fresh k hlt e⟩))
        · exact .inr hge
      · rw [upd_other _ _ e2] at e; exact .inl (.inr (.inl ⟨g, hg8, e⟩))
    · exact .inl (.inr (.inr (.inl e)))
    · exact .inl (.inr (.inr (.inr e)))
end
end Go.Proofs.Ytmnimcdbfolhaaa
