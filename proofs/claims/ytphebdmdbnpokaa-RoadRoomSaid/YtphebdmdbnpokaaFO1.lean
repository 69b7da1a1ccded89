/- The network while it is made: the edges' row, a row of edges from each node, each in a block of its own. -/
import Derived.Test.YtphebdmdbnpokaaFA2
import Derived.Deep.AppendLies
set_option linter.unusedSimpArgs false
set_option linter.unusedVariables false
namespace Go.Proofs.Ytphebdmdbnpokaa.FL
open Go.RowKit FM

theorem owns_keep {w w' : World} {base e size n : Nat} {v : Value} {xs : List Value} (h : w.ownsRow base e size v n xs) (hk : ∀ k, v.ownBlock = some k → w'.heap[k]? = w.heap[k]?) : w'.ownsRow base e size v n xs := by
  obtain ⟨h1, h2⟩ := h
  refine ⟨h1, h2.imp id ?_⟩
  rintro ⟨g, cap, cur, rfl, hb, hg, h⟩
  exact ⟨g, cap, cur, rfl, hb, (hk g rfl).trans hg, h⟩
def intV (l : List Nat) : List Value := l.map fun e => .int .i64 (e : Nat)
structure Opn (w : World) (B n X gO gD : Nat) (ve : Value) (m : Nat) (es : List Value) (rv : Nat → Value) (ls : Nat → List Nat) : Prop where
  lo : B ≤ X ∧ B ≤ gO ∧ B ≤ gD
  hi : X < w.heap.size ∧ gO < w.heap.size ∧ gD < w.heap.size
  ne : X ≠ gO ∧ X ≠ gD ∧ gO ≠ gD
  x0 : w.cell? ⟨X, 0, none⟩ = some ve ∧ w.frozen? ⟨X, 0, none⟩ = false
  x1 : w.cell? ⟨X, 1, none⟩ = some (.slice (some ⟨gO, 0, none⟩) n n)
  x2 : w.cell? ⟨X, 2, none⟩ = some (.slice (some ⟨gD, 0, none⟩) n n)
  own : w.ownsRow B 93 2 ve m es
  far : ∀ b, ve.ownBlock = some b → b ≠ X ∧ b ≠ gO ∧ b ≠ gD
  out : ∀ v, v < n → w.cell? ⟨gO, v, none⟩ = some (rv v) ∧ w.frozen? ⟨gO, v, none⟩ = false
  row : ∀ v, v < n → w.ownsRow B 3 1 (rv v) (ls v).length (intV (ls v))
  rfar : ∀ v, v < n → ∀ b, (rv v).ownBlock = some b → b ≠ X ∧ b ≠ gO ∧ b ≠ gD ∧ ve.ownBlock ≠ some b
  sep : ∀ u v, u < n → v < n → u ≠ v → ∀ b, (rv u).ownBlock = some b → (rv v).ownBlock ≠ some b
  dist : ∀ v, v < n → w.cell? ⟨gD, v, none⟩ = some (.int .i64 0) ∧ w.frozen? ⟨gD, v, none⟩ = false
section
variable {w w' w1 : World} {B n X gO gD m : Nat} {ve : Value} {es : List Value} {rv : Nat → Value} {ls : Nat → List Nat}
theorem Opn.later (h : Opn w B n X gO gD ve m es rv ls) (hs : w.heap.size ≤ w'.heap.size) (hk : ∀ k, k < w.heap.size → w'.heap[k]? = w.heap[k]?) : Opn w' B n X gO gD ve m es rv ls := by
  obtain ⟨a1, a2, a3⟩ := h.hi
  have hc : ∀ b o, b < w.heap.size → w'.cell? ⟨b, o, none⟩ = w.cell? ⟨b, o, none⟩ := fun b o hb => World.cell?_of_block (a := ⟨b, o, none⟩) (hk b hb)
  have hf : ∀ b o, b < w.heap.size → w'.frozen? ⟨b, o, none⟩ = w.frozen? ⟨b, o, none⟩ := fun b o hb => World.frozen?_of_block (a := ⟨b, o, none⟩) (hk b hb)
  exact ⟨h.lo, ⟨by omega, by omega, by omega⟩, h.ne, ⟨(hc _ _ a1).trans h.x0.1, (hf _ _ a1).trans h.x0.2⟩, (hc _ _ a1).trans h.x1, (hc _ _ a1).trans h.x2, owns_keep h.own fun k e => hk k (h.own.lt k e).2, h.far,
    fun v hv => ⟨(hc _ _ a2).trans (h.out v hv).1, (hf _ _ a2).trans (h.out v hv).2⟩, fun v hv => owns_keep (h.row v hv) fun k e => hk k ((h.row v hv).lt k e).2, h.rfar, h.sep, fun v hv => ⟨(hc _ _ a3).trans (h.dist v hv).1, (hf _ _ a3).trans (h.dist v hv).2⟩⟩
theorem Opn.alloc (h : Opn w B n X gO gD ve m es rv ls) (o : Obj) : Opn (w.alloc o) B n X gO gD ve m es rv ls := h.later (by simp) fun k hk => Below.heap_alloc w o k hk
theorem Opn.drewN (h : Opn w B n X gO gD ve m es rv ls) (k : Nat) : Opn (w.drewN k) B n X gO gD ve m es rv ls := h.later (Nat.le_refl _) fun _ _ => rfl
theorem Opn.drew (h : Opn w B n X gO gD ve m es rv ls) : Opn w.drew B n X gO gD ve m es rv ls := h.later (Nat.le_refl _) fun _ _ => rfl
/-- The edges are appended to. -/
theorem Opn.edges (h : Opn w B n X gO gD ve m es rv ls) {g cap m' : Nat} {es' : List Value} (hg : w.grownBy w1 ve.ownBlock) (ho : w1.ownsRow B 93 2 (.slice (some ⟨g, 0, none⟩) m' cap) m' es') (hat : ve.ownBlock = some g ∨ g = w.heap.size) :
    Opn (w1.setCell ⟨X, 0, none⟩ (.slice (some ⟨g, 0, none⟩) m' cap)) B n X gO gD (.slice (some ⟨g, 0, none⟩) m' cap) m' es' rv ls := by
  obtain ⟨a1, a2, a3⟩ := h.hi
  obtain ⟨n1, n2, n3⟩ := h.ne
  have hfar : ∀ b, ve.ownBlock = some b → b ≠ X ∧ b ≠ gO ∧ b ≠ gD := h.far
  have gne : g ≠ X ∧ g ≠ gO ∧ g ≠ gD := by
    rcases hat with e | e
    · exact hfar g e
    · exact ⟨by omega, by omega, by omega⟩
  have nX : some X ≠ ve.ownBlock := fun e => (hfar X e.symm).1 rfl
  have nO : some gO ≠ ve.ownBlock := fun e => (hfar gO e.symm).2.1 rfl
  have nD : some gD ≠ ve.ownBlock := fun e => (hfar gD e.symm).2.2 rfl
  have c1 : ∀ o, w1.cell? ⟨X, o, none⟩ = w.cell? ⟨X, o, none⟩ := fun o => World.cell?_of_block (a := ⟨X, o, none⟩) (hg.block X a1 nX)
  have f1 : ∀ o, w1.frozen? ⟨X, o, none⟩ = w.frozen? ⟨X, o, none⟩ := fun o => World.frozen?_of_block (a := ⟨X, o, none⟩) (hg.block X a1 nX)
  have c2 : ∀ o, w1.cell? ⟨gO, o, none⟩ = w.cell? ⟨gO, o, none⟩ := fun o => World.cell?_of_block (a := ⟨gO, o, none⟩) (hg.block gO a2 nO)
  have f2 : ∀ o, w1.frozen? ⟨gO, o, none⟩ = w.frozen? ⟨gO, o, none⟩ := fun o => World.frozen?_of_block (a := ⟨gO, o, none⟩) (hg.block gO a2 nO)
  have c3 : ∀ o, w1.cell? ⟨gD, o, none⟩ = w.cell? ⟨gD, o, none⟩ := fun o => World.cell?_of_block (a := ⟨gD, o, none⟩) (hg.block gD a3 nD)
  have f3 : ∀ o, w1.frozen? ⟨gD, o, none⟩ = w.frozen? ⟨gD, o, none⟩ := fun o => World.frozen?_of_block (a := ⟨gD, o, none⟩) (hg.block gD a3 nD)
  have so : ∀ b o, (b ≠ X ∨ o ≠ 0) → ∀ u, (w1.setCell ⟨X, 0, none⟩ u).cell? ⟨b, o, none⟩ = w1.cell? ⟨b, o, none⟩ := fun b o hb u => cset_other fun e => by injection e with e1 e2; omega
  have hs := hg.size
  refine ⟨h.lo, by simp; omega, h.ne, ⟨cset_same ((c1 0).trans h.x0.1), (World.frozen?_setCell _ _ _ _).trans ((f1 0).trans h.x0.2)⟩, (so _ _ (by omega) _).trans ((c1 1).trans h.x1), (so _ _ (by omega) _).trans ((c1 2).trans h.x2),
    owns_keep ho fun k e => Below.heap_setCell _ _ _ _ ?_, ?_, fun v hv => ⟨(so _ _ (by omega) _).trans ((c2 v).trans (h.out v hv).1), (World.frozen?_setCell _ _ _ _).trans ((f2 v).trans (h.out v hv).2)⟩, fun v hv => ?_, fun v hv b e => ?_, h.sep,
    fun v hv => ⟨(so _ _ (by omega) _).trans ((c3 v).trans (h.dist v hv).1), (World.frozen?_setCell _ _ _ _).trans ((f3 v).trans (h.dist v hv).2)⟩⟩
  · obtain rfl : g = k := by simpa [Value.ownBlock] using e
    exact gne.1
  · intro b e
    obtain rfl : g = b := by simpa [Value.ownBlock] using e
    exact gne
  · refine owns_keep (h.row v hv) fun k e => (Below.heap_setCell _ _ _ _ ?_).trans (hg.block k ((h.row v hv).lt k e).2 ?_)
    · exact (h.rfar v hv k e).1
    · exact fun c => (h.rfar v hv k e).2.2.2 c.symm
  · obtain ⟨r1, r2, r3, r4⟩ := h.rfar v hv b e
    refine ⟨r1, r2, r3, fun c => ?_⟩
    obtain rfl : g = b := by simpa [Value.ownBlock] using c
    rcases hat with e' | e'
    · exact r4 e'
    · have := ((h.row v hv).lt g e).2; omega
def updV (f : Nat → Value) (u : Nat) (x : Value) : Nat → Value := fun v => if v = u then x else f v
def addTo (ls : Nat → List Nat) (u e : Nat) : Nat → List Nat := fun v => if v = u then ls v ++ [e] else ls v
/-- A node's row is appended to. -/
theorem Opn.push (h : Opn w B n X gO gD ve m es rv ls) {u e g cap : Nat} (hu : u < n) (hg : w.grownBy w1 (rv u).ownBlock) (ho : w1.ownsRow B 3 1 (.slice (some ⟨g, 0, none⟩) ((ls u).length + 1) cap) ((ls u).length + 1) (intV (ls u) ++ [.int .i64 (e : Nat)])) (hat : (rv u).ownBlock = some g ∨ g = w.heap.size) :
    Opn (w1.setCell ⟨gO, u, none⟩ (.slice (some ⟨g, 0, none⟩) ((ls u).length + 1) cap)) B n X gO gD ve m es (updV rv u (.slice (some ⟨g, 0, none⟩) ((ls u).length + 1) cap)) (addTo ls u e) := by
  obtain ⟨a1, a2, a3⟩ := h.hi
  obtain ⟨n1, n2, n3⟩ := h.ne
  have hfar := h.rfar u hu
  have gne : g ≠ X ∧ g ≠ gO ∧ g ≠ gD ∧ ve.ownBlock ≠ some g := by
    rcases hat with e | e
    · exact hfar g e
    · exact ⟨by omega, by omega, by omega, fun c => by have := (h.own.lt g c).2; omega⟩
  have nX : some X ≠ (rv u).ownBlock := fun e => (hfar X e.symm).1 rfl
  have nO : some gO ≠ (rv u).ownBlock := fun e => (hfar gO e.symm).2.1 rfl
  have nD : some gD ≠ (rv u).ownBlock := fun e => (hfar gD e.symm).2.2.1 rfl
  have c1 : ∀ o, w1.cell? ⟨X, o, none⟩ = w.cell? ⟨X, o, none⟩ := fun o => World.cell?_of_block (a := ⟨X, o, none⟩) (hg.block X a1 nX)
  have f1 : ∀ o, w1.frozen? ⟨X, o, none⟩ = w.frozen? ⟨X, o, none⟩ := fun o => World.frozen?_of_block (a := ⟨X, o, none⟩) (hg.block X a1 nX)
  have c2 : ∀ o, w1.cell? ⟨gO, o, none⟩ = w.cell? ⟨gO, o, none⟩ := fun o => World.cell?_of_block (a := ⟨gO, o, none⟩) (hg.block gO a2 nO)
  have f2 : ∀ o, w1.frozen? ⟨gO, o, none⟩ = w.frozen? ⟨gO, o, none⟩ := fun o => World.frozen?_of_block (a := ⟨gO, o, none⟩) (hg.block gO a2 nO)
  have c3 : ∀ o, w1.cell? ⟨gD, o, none⟩ = w.cell? ⟨gD, o, none⟩ := fun o => World.cell?_of_block (a := ⟨gD, o, none⟩) (hg.block gD a3 nD)
  have f3 : ∀ o, w1.frozen? ⟨gD, o, none⟩ = w.frozen? ⟨gD, o, none⟩ := fun o => World.frozen?_of_block (a := ⟨gD, o, none⟩) (hg.block gD a3 nD)
  have so : ∀ b o, (b ≠ gO ∨ o ≠ u) → ∀ x, (w1.setCell ⟨gO, u, none⟩ x).cell? ⟨b, o, none⟩ = w1.cell? ⟨b, o, none⟩ := fun b o hb x => cset_other fun e => by injection e with e1 e2; omega
  have hs := hg.size
  refine ⟨h.lo, by simp; omega, h.ne, ⟨(so _ _ (by omega) _).trans ((c1 0).trans h.x0.1), (World.frozen?_setCell _ _ _ _).trans ((f1 0).trans h.x0.2)⟩, (so _ _ (by omega) _).trans ((c1 1).trans h.x1), (so _ _ (by omega) _).trans ((c1 2).trans h.x2),
    owns_keep h.own fun k e => (Below.heap_setCell _ _ _ _ (h.far k e).2.1).trans (hg.block k (h.own.lt k e).2 fun c => (hfar k c.symm).2.2.2 e), h.far, fun v hv => ⟨?_, (World.frozen?_setCell _ _ _ _).trans ((f2 v).trans (h.out v hv).2)⟩, fun v hv => ?_, fun v hv b e => ?_, fun v v' hv hv' hne b e => ?_,
    fun v hv => ⟨(so _ _ (by omega) _).trans ((c3 v).trans (h.dist v hv).1), (World.frozen?_setCell _ _ _ _).trans ((f3 v).trans (h.dist v hv).2)⟩⟩
  · by_cases q : v = u
    · subst q
      simp only [updV, if_pos]
      exact cset_same ((c2 v).trans (h.out v hv).1)
    · simp only [updV, if_neg q]
      exact (so _ _ (by omega) _).trans ((c2 v).trans (h.out v hv).1)
  · by_cases q : v = u
    · subst q
      simp only [updV, addTo, if_pos]
      have hl : (ls v ++ [e]).length = (ls v).length + 1 := by simp
      rw [hl, show intV (ls v ++ [e]) = intV (ls v) ++ [.int .i64 (e : Nat)] by simp [intV]]
      refine owns_keep ho fun k e => Below.heap_setCell _ _ _ _ ?_
      obtain rfl : g = k := by simpa [Value.ownBlock] using e
      exact gne.2.1
    · simp only [updV, addTo, if_neg q]
      refine owns_keep (h.row v hv) fun k e => (Below.heap_setCell _ _ _ _ ?_).trans (hg.block k ((h.row v hv).lt k e).2 ?_)
      · exact (h.rfar v hv k e).2.1
      · exact fun c => h.sep v u hv hu q k e c.symm
  · by_cases q : v = u
    · subst q
      simp only [updV, if_pos] at e
      obtain rfl : g = b := by simpa [Value.ownBlock] using e
      exact gne
    · simp only [updV, if_neg q] at e
      exact h.rfar v hv b e
  · have key : ∀ x, x < n → x ≠ u → (rv x).ownBlock ≠ some g := by
      intro x hx hxu c
      rcases hat with e' | e'
      · exact h.sep u x hu hx (Ne.symm hxu) g e' c
      · have := ((h.row x hx).lt g c).2; omega
    by_cases q : v = u
    · subst q
      simp only [updV, if_pos] at e
      obtain rfl : g = b := by simpa [Value.ownBlock] using e
      simp only [updV, if_neg (Ne.symm hne)]
      exact key v' hv' (Ne.symm hne)
    · simp only [updV, if_neg q] at e
      by_cases q' : v' = u
      · subst q'
        simp only [updV, if_pos]
        intro c
        obtain rfl : g = b := by simpa [Value.ownBlock] using c
        exact key v hv q e
      · simp only [updV, if_neg q']
        exact h.sep v v' hv hv' hne b e
end
end Go.Proofs.Ytphebdmdbnpokaa.FL
