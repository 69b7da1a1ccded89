/- Memory words of the reference's disk: its cells, the row of its files, its list; what a call may turn. -/
import Derived.Test.YtmnimcdbfolhaaaDR
import Derived.Test.YtmnimcdbfolhaaaWD
set_option linter.unusedSimpArgs false
set_option linter.unusedVariables false
namespace Go.Proofs.Ytmnimcdbfolhaaa
open Go.RowKit DK
attribute [local go_sem] alloc_drewN setCell_drewN shape_drewN
def pcC (p : Nat × Bts) : List Value := [.int .i64 p.1, .string (bs p.2)]
theorem pcC_len (p : Nat × Bts) : (pcC p).length = 2 := rfl
def rowPc (q : List (Nat × Bts)) : List Value := q.flatMap pcC
theorem rowPc_len (q : List (Nat × Bts)) : (rowPc q).length = q.length * 2 := rowk_len pcC_len q
theorem rowPc_snoc (q : List (Nat × Bts)) (p : Nat × Bts) : rowPc (q ++ [p]) = rowPc q ++ pcC p := by simp [rowPc]
/-- The names of its memory. -/
structure Rm where
  gA : Nat
  gc : Nat
  qA : Option Nat
  qc : Nat
  kA : Option Addr
  kc : Nat
def eight (g : Nat → Bts) : List Bts := (List.range 8).map g
theorem eight_len (g : Nat → Bts) : (eight g).length = 8 := by simp [eight]
theorem eight_at (g : Nat → Bts) {k : Nat} (h : k < 8) : (strV (eight g))[k]? = some (.string (bs (g k))) := by simp [eight, strV, h]
theorem eight_set (g : Nat → Bts) {k : Nat} (h : k < 8) (x : Bts) : (strV (eight g)).set k (.string (bs x)) = strV (eight (upd g k x)) := by
  apply List.ext_getElem?
  intro i
  by_cases e : k = i
  · subst e
    rw [List.getElem?_set_self (by rw [strV_len, eight_len]; exact h), eight_at _ h, upd_same]
  · rw [List.getElem?_set_ne e]
    by_cases hi : i < 8
    · rw [eight_at _ hi, eight_at _ hi, upd_other _ _ (Ne.symm e)]
    · rw [List.getElem?_eq_none (by rw [strV_len, eight_len]; omega), List.getElem?_eq_none (by rw [strV_len, eight_len]; omega)]
def rdO (m : Rm) (t : RS) : Obj := .cells #[.slice (ad (some m.gA)) 8 m.gc, .slice (ad m.qA) t.q.length m.qc, .int .i64 t.lost, .bool t.down, .int .i64 t.armed, .slice m.kA t.keep.length m.kc] 98 (0, 0)
structure RDisk (w : World) (bb b : Nat) (m : Rm) (t : RS) : Prop where
  obj : w.heap[b]? = some (rdO m t)
  rl : w.ownsRow bb 9 1 (.slice (ad (some m.gA)) 8 m.gc) 8 (strV (eight t.lasts))
  rq : w.ownsRow bb 107 2 (.slice (ad m.qA) t.q.length m.qc) t.q.length (rowPc t.q)
  rk : IntsAt w w.heap.size m.kA t.keep
  gb : m.gA ≠ b
  qb : m.qA ≠ some b
  gq : m.qA ≠ some m.gA
  kb : ∀ a, m.kA = some a → bb ≤ a.block ∧ a.block < w.heap.size ∧ a.block ≠ b ∧ a.block ≠ m.gA ∧ m.qA ≠ some a.block
  lo : bb ≤ b
def footR (b : Nat) (m : Rm) (k : Nat) : Prop := k = b ∨ m.gA = k ∨ m.qA = some k ∨ ∃ a, m.kA = some a ∧ a.block = k
section
variable {w w' : World} {bb b : Nat} {m : Rm} {t : RS}
theorem RDisk.lt (h : RDisk w bb b m t) : b < w.heap.size := (Array.getElem?_eq_some_iff.1 h.obj).1
theorem RDisk.glt (h : RDisk w bb b m t) : bb ≤ m.gA ∧ m.gA < w.heap.size := h.rl.lt m.gA rfl
theorem RDisk.qlt (h : RDisk w bb b m t) {g : Nat} (e : m.qA = some g) : bb ≤ g ∧ g < w.heap.size := h.rq.lt g (by rw [ad_block]; exact e)
theorem RDisk.foot_lt (h : RDisk w bb b m t) {k : Nat} (hk : footR b m k) : k < w.heap.size ∧ bb ≤ k := by
  rcases hk with rfl | rfl | e | ⟨a, e, rfl⟩
  · exact ⟨h.lt, h.lo⟩
  · exact h.glt.symm
  · exact (h.qlt e).symm
  · have := h.kb a e; exact ⟨this.2.1, this.1⟩
theorem rdO_cells (h : w.heap[b]? = some (rdO m t)) : w.cell? ⟨b, 0, none⟩ = some (.slice (ad (some m.gA)) 8 m.gc) ∧ w.cell? ⟨b, 1, none⟩ = some (.slice (ad m.qA) t.q.length m.qc) ∧ w.cell? ⟨b, 2, none⟩ = some (.int .i64 t.lost) ∧ w.cell? ⟨b, 3, none⟩ = some (.bool t.down) ∧ w.cell? ⟨b, 4, none⟩ = some (.int .i64 t.armed) ∧ w.cell? ⟨b, 5, none⟩ = some (.slice m.kA t.keep.length m.kc) ∧ ∀ i, w.frozen? ⟨b, i, none⟩ = false := by
  refine ⟨?_, ?_, ?_, ?_, ?_, ?_, fun i => ?_⟩ <;> simp [World.cell?, World.frozen?, h, rdO]
theorem RDisk.last (h : RDisk w bb b m t) {k : Nat} (hk : k < 8) : w.cell? ⟨m.gA, k, none⟩ = some (.string (bs (t.lasts k))) ∧ w.frozen? ⟨m.gA, k, none⟩ = false :=
  ⟨(h.rl.cellAt k (by omega)).trans (eight_at _ hk), h.rl.frozenAt k⟩
theorem owns_pc {base g n c : Nat} {R : List (Nat × Bts)} (h : w.ownsRow base 107 2 (.slice (some ⟨g, 0, none⟩) n c) n (rowPc R)) (hn : n = R.length) {k : Nat} {p : Nat × Bts} (hk : R[k]? = some p) :
    g < w.heap.size ∧ w.cell? ⟨g, k * 2, none⟩ = some (.int .i64 p.1) ∧ w.cell? ⟨g, k * 2 + 1, none⟩ = some (.string (bs p.2)) := by
  have hlt := (List.getElem?_eq_some_iff.1 hk).1
  have c := fun j (hj : j < 2) => (h.cellAt (k * 2 + j) (by omega)).trans (rowk_get pcC_len R k p hk j hj)
  exact ⟨(h.lt g rfl).2, c 0 (by omega), c 1 (by omega)⟩
theorem RDisk.piece (h : RDisk w bb b m t) {k : Nat} {p : Nat × Bts} (hk : t.q[k]? = some p) : ∃ g, m.qA = some g ∧ g < w.heap.size ∧ w.cell? ⟨g, k * 2, none⟩ = some (.int .i64 p.1) ∧ w.cell? ⟨g, k * 2 + 1, none⟩ = some (.string (bs p.2)) := by
  obtain ⟨g, e⟩ := ad_addr h.rq (by have := (List.getElem?_eq_some_iff.1 hk).1; omega)
  have hr := h.rq
  rw [e] at hr
  exact ⟨g, e, owns_pc hr rfl hk⟩
/-- What lies outside may turn. -/
theorem RDisk.keep (h : RDisk w bb b m t) (hz : w.heap.size ≤ w'.heap.size) (hk : ∀ k, k < w.heap.size → footR b m k → w'.heap[k]? = w.heap[k]?) : RDisk w' bb b m t :=
  ⟨(hk b h.lt (.inl rfl)).trans h.obj, row_heap h.rl fun k e => hk k (h.rl.lt k e).2 (.inr (.inl (by injection e))), row_heap h.rq fun k e => hk k (h.rq.lt k e).2 (by rw [ad_block] at e; exact .inr (.inr (.inl e))),
    ints_heap h.rk hz fun a e hlt => hk _ hlt (.inr (.inr (.inr ⟨a, e, rfl⟩))), h.gb, h.qb, h.gq, fun a e => by have := h.kb a e; exact ⟨this.1, by omega, this.2.2⟩, h.lo⟩
theorem rdO_set {i : Nat} {v : Value} {m' : Rm} {t' : RS} (h : w.heap[b]? = some (rdO m t)) (e : ∀ c : Array Value, rdO m t = .cells c 98 (0, 0) → rdO m' t' = .cells (c.setIfInBounds i v) 98 (0, 0)) : (w.setCell ⟨b, i, none⟩ v).heap[b]? = some (rdO m' t') := by
  rw [e _ rfl]
  simp [World.setCell, Array.getElem?_modify, h, rdO]
end
/-- The reference's disk beside a set of blocks that stay. -/
structure RT (w0 : World) (b : Nat) (P : Nat → Prop) (w : World) (t : RS) : Prop where
  at_ : ∃ m, RDisk w w0.heap.size b m t ∧ ∀ k, P k → ¬ footR b m k
  lt : ∀ k, P k → k < w.heap.size
  below : Below w0.heap.size w0 w
section
variable {w0 w w' w2 : World} {b : Nat} {m : Rm} {P : Nat → Prop} {t t' : RS}
theorem RT.blt (h : RT w0 b P w t) : b < w.heap.size := by obtain ⟨m, hD, _⟩ := h.at_; exact hD.lt
theorem RT.sub {Q : Nat → Prop} (h : RT w0 b P w t) (hq : ∀ k, Q k → P k) : RT w0 b Q w t := by
  obtain ⟨m, hD, hP⟩ := h.at_
  exact ⟨⟨m, hD, fun k hk => hP k (hq k hk)⟩, fun k hk => h.lt k (hq k hk), h.below⟩
/-- Blocks of the set, or new ones, turn; the disk's do not; the set becomes another. -/
theorem RT.turn_ (h : RT w0 b P w t) {Q : Nat → Prop} (hos : w'.os = w.os) (htape : w'.tape = w.tape) (hout : w'.output = w.output) (hz : w.heap.size ≤ w'.heap.size)
    (hk : ∀ k, k < w.heap.size → ¬ P k ∨ k < w0.heap.size → w'.heap[k]? = w.heap[k]?) (hQ : ∀ k, Q k → (P k ∨ w.heap.size ≤ k) ∧ k < w'.heap.size) : RT w0 b Q w' t := by
  obtain ⟨m, hD, hP⟩ := h.at_
  have hb := h.below
  refine ⟨⟨m, hD.keep hz fun k hlt hf => hk k hlt (.inl fun q => hP k q hf), fun k q hf => ?_⟩, fun k q => (hQ k q).2, ⟨hos.trans hb.os, htape.trans hb.tape, hout.trans hb.output, Nat.le_trans hb.size hz, fun k hlt => ?_⟩⟩
  · rcases (hQ k q).1 with q | q
    · exact hP k q hf
    · have := (hD.foot_lt hf).1; omega
  · exact (hk k (Nat.lt_of_lt_of_le hlt hb.size) (.inr hlt)).trans (hb.block k hlt)
theorem RT.below_ (h : RT w0 b P w t) (hb : Below w.heap.size w w') : RT w0 b P w' t :=
  h.turn_ hb.os hb.tape hb.output hb.size (fun k hk _ => hb.block k hk) (fun k q => ⟨.inl q, Nat.lt_of_lt_of_le (h.lt k q) hb.size⟩)
/-- One step: the disk's own blocks, or new ones, turn. -/
theorem RT.step {m' : Rm} (h : RT w0 b P w t) (hD : RDisk w w0.heap.size b m t) (hP : ∀ k, P k → ¬ footR b m k) (hos : w'.os = w.os) (htape : w'.tape = w.tape) (hout : w'.output = w.output) (hz : w.heap.size ≤ w'.heap.size)
    (hk : ∀ k, k < w.heap.size → ¬ footR b m k → w'.heap[k]? = w.heap[k]?) (hf : ∀ k, footR b m' k → footR b m k ∨ w.heap.size ≤ k) (hD' : RDisk w' w0.heap.size b m' t') : RT w0 b P w' t' ∧ Keep P w w' := by
  have hb := h.below
  refine ⟨⟨⟨m', hD', fun k hp q => ?_⟩, fun k hp => Nat.lt_of_lt_of_le (h.lt k hp) hz, ⟨hos.trans hb.os, htape.trans hb.tape, hout.trans hb.output, Nat.le_trans hb.size hz, fun k hlt => (hk k (Nat.lt_of_lt_of_le hlt hb.size) fun q => by have := (hD.foot_lt q).2; omega).trans (hb.block k hlt)⟩⟩, ⟨hz, fun k hlt hp => hk k hlt (hP k hp)⟩⟩
  rcases hf k q with q | q
  · exact hP k hp q
  · have := h.lt k hp; omega
/-- The box is written; the rows it tells may be new, the list's may be grown. -/
theorem RT.boxed {m' : Rm} {i : Nat} {v : Value} {row : Option Nat} (h : RT w0 b P w t) (hD : RDisk w w0.heap.size b m t) (hP : ∀ k, P k → ¬ footR b m k) (hG : w.grownBy w' row) (hr : ∀ g, row = some g → m.qA = some g)
    (e : ∀ c : Array Value, rdO m t = .cells c 98 (0, 0) → rdO m' t' = .cells (c.setIfInBounds i v) 98 (0, 0))
    (rl : w'.ownsRow w0.heap.size 9 1 (.slice (ad (some m'.gA)) 8 m'.gc) 8 (strV (eight t'.lasts)))
    (rq : w'.ownsRow w0.heap.size 107 2 (.slice (ad m'.qA) t'.q.length m'.qc) t'.q.length (rowPc t'.q))
    (rk : IntsAt w' w'.heap.size m'.kA t'.keep)
    (gn : m'.gA = m.gA ∨ w.heap.size ≤ m'.gA) (qn : ∀ k, m'.qA = some k → m.qA = some k ∨ w.heap.size ≤ k) (kn : ∀ a, m'.kA = some a → (m.kA = some a ∨ w.heap.size ≤ a.block) ∧ a.block < w'.heap.size)
    (gq : m'.qA ≠ some m'.gA) (kq : ∀ a, m'.kA = some a → a.block ≠ m'.gA ∧ m'.qA ≠ some a.block) : RT w0 b P (w'.setCell ⟨b, i, none⟩ v) t' ∧ Keep P w (w'.setCell ⟨b, i, none⟩ v) := by
  have hlt := hD.lt
  have hbr : some b ≠ row := fun e => hD.qb (hr b e.symm)
  have hW : ∀ k, k ≠ b → (w'.setCell ⟨b, i, none⟩ v).heap[k]? = w'.heap[k]? := fun k hk => Below.heap_setCell _ _ _ _ hk
  have hz : w.heap.size ≤ (w'.setCell ⟨b, i, none⟩ v).heap.size := by have := hG.size; simpa using this
  have hgb : m'.gA ≠ b := by rcases gn with q | q; rw [q]; exact hD.gb; omega
  have hqb : m'.qA ≠ some b := fun q => by
    rcases qn b q with r | r
    · exact hD.qb r
    · omega
  have hkb : ∀ a, m'.kA = some a → w0.heap.size ≤ a.block ∧ a.block ≠ b := fun a ea => by
    rcases (kn a ea).1 with r | r
    · have := hD.kb a r; exact ⟨this.1, this.2.2.1⟩
    · have := h.below.size; exact ⟨by omega, by omega⟩
  refine h.step hD hP hG.os hG.tape hG.output hz (fun k hk hn => ?_) (fun k hk => ?_) (m' := m') ⟨rdO_set ((hG.block b hlt hbr).trans hD.obj) e, row_heap rl fun k ek => hW k ?_, row_heap rq fun k ek => hW k ?_, ints_heap rk (by simp) fun a ea _ => hW _ (hkb a ea).2, hgb, hqb, gq, fun a ea => ⟨(hkb a ea).1, by have := (kn a ea).2; simpa using this, (hkb a ea).2, kq a ea⟩, hD.lo⟩
  · rw [hW k fun q => hn (.inl q)]
    exact hG.block k hk fun q => hn (.inr (.inr (.inl (hr k q.symm))))
  · rcases hk with q | q | q | ⟨a, q, rfl⟩
    · exact .inl (.inl q)
    · rcases gn with r | r
      · exact .inl (.inr (.inl (r ▸ q)))
      · exact .inr (by omega)
    · exact (qn k q).imp (fun r => .inr (.inr (.inl r))) id
    · exact (kn a q).1.imp (fun r => .inr (.inr (.inr ⟨a, r, rfl⟩))) id
  · injection ek with ek
    exact fun q => hgb (ek.trans q)
  · rw [ad_block] at ek
    exact fun q => hqb (q ▸ ek)
/-- A word of the box is written. -/
theorem RT.word {i : Nat} {v : Value} (h : RT w0 b P w t) (hD : RDisk w w0.heap.size b m t) (hP : ∀ k, P k → ¬ footR b m k)
    (e : ∀ c : Array Value, rdO m t = .cells c 98 (0, 0) → rdO m t' = .cells (c.setIfInBounds i v) 98 (0, 0)) (el : t'.lasts = t.lasts) (eq : t'.q = t.q) (ek : t'.keep = t.keep) : RT w0 b P (w.setCell ⟨b, i, none⟩ v) t' ∧ Keep P w (w.setCell ⟨b, i, none⟩ v) :=
  h.boxed hD hP (grown_refl w none) (fun g e => by cases e) e (by rw [el]; exact hD.rl) (by rw [eq]; exact hD.rq) (by rw [ek]; exact hD.rk) (.inl rfl) (fun k q => .inl q) (fun a q => ⟨.inl q, (hD.kb a q).2.1⟩) hD.gq fun a q => (hD.kb a q).2.2.2
/-- The list is grown, or is another, and stored. -/
theorem RT.queue {row o : Option Nat} {c : Nat} {q : List (Nat × Bts)} (h : RT w0 b P w t) (hD : RDisk w w0.heap.size b m t) (hP : ∀ k, P k → ¬ footR b m k) (hG : w.grownBy w' row) (hr : ∀ g, row = some g → m.qA = some g)
    (rq : w'.ownsRow w0.heap.size 107 2 (.slice (ad o) q.length c) q.length (rowPc q)) (qn : ∀ k, o = some k → m.qA = some k ∨ w.heap.size ≤ k) :
    RT w0 b P (w'.setCell ⟨b, 1, none⟩ (.slice (ad o) q.length c)) { t with q := q } ∧ Keep P w (w'.setCell ⟨b, 1, none⟩ (.slice (ad o) q.length c)) := by
  have hne : ∀ k, footR b m k → m.qA ≠ some k → k < w.heap.size → w'.heap[k]? = w.heap[k]? := fun k _ hn hlt => hG.block k hlt fun e => hn (hr k e.symm)
  refine h.boxed (m' := { m with qA := o, qc := c }) hD hP hG hr (fun c e => by injection e with e; rw [← e]; rfl) (row_heap hD.rl fun k e => ?_) rq (ints_heap hD.rk hG.size fun a e hlt => ?_) (.inl rfl) qn (fun a e => ⟨.inl e, Nat.lt_of_lt_of_le (hD.kb a e).2.1 hG.size⟩) (fun e => ?_) (fun a e => ⟨(hD.kb a e).2.2.2.1, fun e2 => ?_⟩)
  · obtain rfl : m.gA = k := by injection e
    exact hne _ (.inr (.inl rfl)) hD.gq hD.glt.2
  · exact hne _ (.inr (.inr (.inr ⟨a, e, rfl⟩))) (hD.kb a e).2.2.2.2 hlt
  · rcases qn _ e with r | r
    · exact hD.gq r
    · have := hD.glt.2; have r : w.heap.size ≤ m.gA := r; omega
  · rcases qn _ e2 with r | r
    · exact (hD.kb a e).2.2.2.2 r
    · have := (hD.kb a e).2.1; omega
/-- A file's bytes are stored. -/
theorem RT.file {k : Nat} (hk : k < 8) (x : Bts) (h : RT w0 b P w t) (hD : RDisk w w0.heap.size b m t) (hP : ∀ k, P k → ¬ footR b m k) : RT w0 b P (w.setCell ⟨m.gA, k, none⟩ (.string (bs x))) { t with lasts := upd t.lasts k x } ∧ RDisk (w.setCell ⟨m.gA, k, none⟩ (.string (bs x))) w0.heap.size b m { t with lasts := upd t.lasts k x } ∧ Keep P w (w.setCell ⟨m.gA, k, none⟩ (.string (bs x))) := by
  have hs := hD.rl.stored k (.string (bs x))
  rw [eight_set _ hk] at hs
  have hW : ∀ j, j ≠ m.gA → (w.setCell ⟨m.gA, k, none⟩ (.string (bs x))).heap[j]? = w.heap[j]? := fun j hj => Below.heap_setCell _ _ _ _ hj
  have hz : w.heap.size ≤ (w.setCell ⟨m.gA, k, none⟩ (.string (bs x))).heap.size := by simp
  have hD' : RDisk (w.setCell ⟨m.gA, k, none⟩ (.string (bs x))) w0.heap.size b m { t with lasts := upd t.lasts k x } :=
    ⟨(hW b (Ne.symm hD.gb)).trans hD.obj, hs.1, row_heap hD.rq fun j e => hW j fun q => hD.gq (by rw [ad_block] at e; rw [← q]; exact e), ints_heap hD.rk hz fun a e _ => hW _ (hD.kb a e).2.2.2.1, hD.gb, hD.qb, hD.gq, fun a e => by have := hD.kb a e; exact ⟨this.1, by simpa using this.2.1, this.2.2⟩, hD.lo⟩
  have := h.step hD hP (w' := w.setCell ⟨m.gA, k, none⟩ (.string (bs x))) rfl rfl rfl hz (fun j _ hn => hW j fun q => hn (.inr (.inl q.symm))) (fun j q => .inl q) hD'
  exact ⟨this.1, hD', this.2⟩
end
end Go.Proofs.Ytmnimcdbfolhaaa
