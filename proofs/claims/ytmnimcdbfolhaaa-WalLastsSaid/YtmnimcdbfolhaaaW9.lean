/- The walk of Cut. -/
import Derived.Test.YtmnimcdbfolhaaaW8
set_option linter.unusedSimpArgs false
set_option linter.unusedVariables false
namespace Go.Proofs.Ytmnimcdbfolhaaa
open Go.RowKit DK
attribute [local go_sem] alloc_drewN setCell_drewN shape_drewN
section
variable {w w' : World} {b : Nat} {m : Dm} {s : St}
theorem DiskAt.foot_lt (h : DiskAt w b m s) {k : Nat} (hk : foot b m k) : k < w.heap.size ∧ b ≤ k := by
  rcases hk with rfl | ⟨f, hf, e⟩ | e | ⟨a, e, rfl⟩
  · exact ⟨h.lt, Nat.le_refl _⟩
  · have := h.dlt hf e; omega
  · have := h.llt e; omega
  · have := h.kl a e; have := (h.ak a e).1; omega
/-- The list's cells are written; all else stands. -/
theorem DiskAt.pokeList (h : DiskAt w b m s) {q : List Pd} (hg : w.grownBy w' m.lA) (hl : q.length = s.q.length) (hx : w'.ownsRow (b + 1) 94 3 (.slice (ad m.lA) q.length m.lc) q.length (rowPd q)) :
    DiskAt w' b m { s with q := q } := by
  have hb := h.lt
  have hB : w'.heap[b]? = w.heap[b]? := hg.block b hb (fun e => by have := h.llt e.symm; omega)
  have hc : ∀ i, w'.cell? ⟨b, i, none⟩ = w.cell? ⟨b, i, none⟩ := fun i => World.cell?_of_block (a := ⟨b, i, none⟩) hB
  refine ⟨fun g hg8 => (hc _).trans (h.cd g hg8), fun g hg => (hc _).trans (h.cu g hg), (hc _).trans (by rw [hl]; exact h.cl), (hc _).trans h.cn, (hc _).trans h.ct, (hc _).trans h.ca, (hc _).trans h.ck, fun i => (World.frozen?_of_block (a := ⟨b, i, none⟩) hB).trans (h.fz i), fun g hg8 => ?_,
    hx, ints_heap h.rk hg.size fun a e hlt => hg.block _ hlt (fun e2 => (h.ak a e).2.2 e2.symm), h.ap, h.al, h.ak, fun a e => Nat.lt_of_lt_of_le (h.kl a e) hg.size⟩
  refine row_heap (h.rd g hg8) fun k ek => hg.block k ((h.rd g hg8).lt k ek).2 (fun e2 => ?_)
  rw [ad_block] at ek
  rcases h.al g hg8 with q | q
  · rw [q] at ek; cases ek
  · exact q (by rw [ek]; exact e2)
theorem DiskAt.cutData (h : DiskAt w b m s) {f u : Nat} (hf : f < 8) (hu : u ≤ (s.data f).length) :
    DiskAt (w.setCell ⟨b, f * 2, none⟩ (.slice (ad (m.dA f)) u (m.dc f))) b m { s with data := upd s.data f ((s.data f).take u) } := by
  have hxl : ((s.data f).take u).length = u := by rw [List.length_take]; omega
  have hx := owns_take (h.rd f hf) hu
  rw [Nat.mul_one, bytesV_take] at hx
  have h0 := DiskAt.setData h hf (o := m.dA f) (c := m.dc f) (x := (s.data f).take u) (by rw [hxl]; exact hx) (fun g hg hne => h.ap f g hf hg (Ne.symm hne)) (h.al f hf) (fun a e => (h.ak a e).2.1 f hf)
  rw [hxl, upd_self, upd_self] at h0
  exact h0
theorem Stp.row (hg : w.grownBy w' m.lA) : Stp b m w m w' := ⟨hg.os, hg.tape, hg.output, hg.size, fun k hk hn => hg.block k hk (fun e => hn (.inr (.inr (.inl e.symm)))), fun _ q => .inl q⟩
/-- A box of the call's own, outside the disk, is as it was. -/
theorem Stp.box (h : DiskAt w b m s) {m' : Dm} (hS : Stp b m w m' w') {fb : Nat} {v : Value} (hv : w.cell? ⟨fb, 0, none⟩ = some v) (hn : ¬ footD b m fb) : w'.cell? ⟨fb, 0, none⟩ = some v ∧ ¬ footD b m' fb := by
  have hlt := World.block_lt_of_cell? w ⟨fb, 0, none⟩ hv
  refine ⟨(World.cell?_of_block (a := ⟨fb, 0, none⟩) (hS.block fb hlt hn)).trans hv, fun q => ?_⟩
  rcases hS.foot fb q with q | q
  · exact hn q
  · have : fb < w.heap.size := hlt
    omega
end
def cutP (f n : Nat) (p : Pd) : Pd := if p.file = f then { p with un := min p.un n } else p
def cutQ (f n : Nat) (q : List Pd) (k : Nat) : List Pd := (q.take k).map (cutP f n) ++ q.drop k
theorem cutQ_len (f n : Nat) (q : List Pd) (k : Nat) : (cutQ f n q k).length = q.length := by
  unfold cutQ
  simp only [List.length_append, List.length_map, List.length_take, List.length_drop]
  omega
theorem cutQ_at {f n : Nat} {q : List Pd} {k : Nat} {p : Pd} (h : q[k]? = some p) : (cutQ f n q k)[k]? = some p := by
  have hk := (List.getElem?_eq_some_iff.1 h).1
  unfold cutQ
  have hl : ((q.take k).map (cutP f n)).length = k := by rw [List.length_map, List.length_take]; omega
  rw [List.getElem?_append_right (by omega), hl, Nat.sub_self, List.getElem?_drop]
  simpa using h
theorem cutQ_next {f n : Nat} {q : List Pd} {k : Nat} {p : Pd} (h : q[k]? = some p) : cutQ f n q (k + 1) = (cutQ f n q k).set k (cutP f n p) := by
  have hk := (List.getElem?_eq_some_iff.1 h).1
  unfold cutQ
  have hl : ((q.take k).map (cutP f n)).length = k := by rw [List.length_map, List.length_take]; omega
  rw [List.set_append_right _ _ (by omega), hl, Nat.sub_self, List.take_add_one, h]
  have e : q.drop k = p :: q.drop (k + 1) := by
    rw [List.drop_eq_getElem_cons hk]
    congr 1
    exact (List.getElem?_eq_some_iff.1 h).2
  rw [e]
  simp
theorem cutQ_same {f n : Nat} {q : List Pd} {k : Nat} {p : Pd} (h : q[k]? = some p) (hp : p.file ≠ f) : cutQ f n q (k + 1) = cutQ f n q k := by
  rw [cutQ_next h, show cutP f n p = p from if_neg hp]
  apply List.ext_getElem?
  intro i
  by_cases e : k = i
  · subst e
    rw [List.getElem?_set_self (by rw [cutQ_len]; exact (List.getElem?_eq_some_iff.1 h).1)]
    exact (cutQ_at h).symm
  · rw [List.getElem?_set_ne e]
theorem rowPd_un (R : List Pd) (k : Nat) (p : Pd) (u : Nat) (h : R[k]? = some p) : (rowPd R).set (k * 3 + 2) (.int .i64 u) = rowPd (R.set k { p with un := u }) := by
  have hk := (List.getElem?_eq_some_iff.1 h).1
  rw [← rowPd_set R k { p with un := u } hk]
  congr 1
  have hg := rowk_get pdC_len R k p h
  apply List.ext_getElem?
  intro i
  by_cases e1 : k * 3 + 1 = i
  · subst e1
    rw [List.getElem?_set_self (by rw [List.length_set, rowPd_len]; omega)]
    exact hg 1 (by omega)
  · rw [List.getElem?_set_ne e1]
    by_cases e2 : k * 3 = i
    · subst e2
      rw [List.getElem?_set_self (by rw [rowPd_len]; omega)]
      exact hg 0 (by omega)
    · rw [List.getElem?_set_ne e2]
end Go.Proofs.Ytmnimcdbfolhaaa
