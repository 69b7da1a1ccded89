/- Joined of: FO1 FO2. -/
import Derived.Deep.AppendLies
import Derived.Test.YtphebdmdbnpokaaG08
/- The network while it is made: the edges' row, a row of edges from each node, each in a block of its own. -/
set_option linter.unusedSimpArgs false
set_option linter.unusedVariables false
namespace Go.Proofs.Ytphebdmdbnpokaa.FL
open Go.RowKit FM

theorem owns_keep {w w' : World} {base e size n : Nat} {v : Value} {xs : List Value} (h : w.ownsRow base e size v n xs) (hk : ∀ k, v.ownBlock = some k → w'.heap[k]? = w.heap[k]?) : w'.ownsRow base e size v n xs := by
  obtain ⟨h1, h2⟩ := h
  refine ⟨h1, h2.imp id ?_⟩
  rintro ⟨g, cap, cur, rfl, hb, hg, h⟩
  exact ⟨g, cap, cur, rfl, hb, (hk g rfl).trans hg, h⟩
def intV (l : List Nat) : List Value := l.map fun e => .int .i64 (e : Nat)
structure Opn (w : World) (B n X gO gD : Nat) (ve : Value) (m : Nat) (es : List Value) (rv : Nat → Value) (ls : Nat → List Nat) : Prop where
  lo : B ≤ X ∧ B ≤ gO ∧ B ≤ gD
  hi : X < w.heap.size ∧ gO < w.heap.size ∧ gD < w.heap.size
  ne : X ≠ gO ∧ X ≠ gD ∧ gO ≠ gD
  x0 : w.cell? ⟨X, 0, none⟩ = some ve ∧ w.frozen? ⟨X, 0, none⟩ = false
  x1 : w.cell? ⟨X, 1, none⟩ = some (.slice (some ⟨gO, 0, none⟩) n n)
  x2 : w.cell? ⟨X, 2, none⟩ = some (.slice (some ⟨gD, 0, none⟩) n n)
  own : w.ownsRow B 93 2 ve m es
  far : ∀ b, ve.ownBlock = some b → b ≠ X ∧ b ≠ gO ∧ b ≠ gD
  out : ∀ v, v < n → w.cell? ⟨gO, v, none⟩ = some (rv v) ∧ w.frozen? ⟨gO, v, none⟩ = false
  row : ∀ v, v < n → w.ownsRow B 3 1 (rv v) (ls v).length (intV (ls v))
  rfar : ∀ v, v < n → ∀ b, (rv v).ownBlock = some b → b ≠ X ∧ b ≠ gO ∧ b ≠ gD ∧ ve.ownBlock ≠ some b
  sep : ∀ u v, u < n → v < n → u ≠ v → ∀ b, (rv u).ownBlock = some b → (rv v).ownBlock ≠ some b
  dist : ∀ v, v < n → w.cell? ⟨gD, v, none⟩ = some (.int .i64 0) ∧ w.frozen? ⟨gD, v, none⟩ = false
section
variable {w w' w1 : World} {B n X gO gD m : Nat} {ve : Value} {es : List Value} {rv : Nat → Value} {ls : Nat → List Nat}
theorem Opn.later (h : Opn w B n X gO gD ve m es rv ls) (hs : w.heap.size ≤ w'.heap.size) (hk : ∀ k, k < w.heap.size → w'.heap[k]? = w.heap[k]?) : Opn w' B n X gO gD ve m es rv ls := by
  obtain ⟨a1, a2, a3⟩ := h.hi
  have hc : ∀ b o, b < w.heap.size → w'.cell? ⟨b, o, none⟩ = w.cell? ⟨b, o, none⟩ := fun b o hb => World.cell?_of_block (a := ⟨b, o, none⟩) (hk b hb)
  have hf : ∀ b o, b < w.heap.size → w'.frozen? ⟨b, o, none⟩ = w.frozen? ⟨b, o, none⟩ := fun b o hb => World.frozen?_of_block (a := ⟨b, o, none⟩) (hk b hb)
  exact ⟨h.lo, ⟨by omega, by omega, by omega⟩, h.ne, ⟨(hc _ _ a1).trans h.x0.1, (hf _ _ a1).trans h.x0.2⟩, (hc _ _ a1).trans h.x1, (hc _ _ a1).trans h.x2, owns_keep h.own fun k e => hk k (h.own.lt k e).2, h.far,
    fun v hv => ⟨(hc _ _ a2).trans (h.out v hv).1, (hf _ _ a2).trans (h.out v hv).2⟩, fun v hv => owns_keep (h.row v hv) fun k e => hk k ((h.row v hv).lt k e).2, h.rfar, h.sep, fun v hv => ⟨(hc _ _ a3).trans (h.dist v hv).1, (hf _ _ a3).trans (h.dist v hv).2⟩⟩
theorem Opn.alloc (h : Opn w B n X gO gD ve m es rv ls) (o : Obj) : Opn (w.alloc o) B n X gO gD ve m es rv ls := h.later (by simp) fun k hk => Below.heap_alloc w o k hk
theorem Opn.drewN (h : Opn w B n X gO gD ve m es rv ls) (k : Nat) : Opn (w.drewN k) B n X gO gD ve m es rv ls := h.later (Nat.le_refl _) fun _ _ => rfl
theorem Opn.drew (h : Opn w B n X gO gD ve m es rv ls) : Opn w.drew B n X gO gD ve m es rv ls := h.later (Nat.le_refl _) fun _ _ => rfl
/-- The edges are appended to. -/
theorem Opn.edges (h : Opn w B n X gO gD ve m es rv ls) {g cap m' : Nat} {es' : List Value} (hg : w.grownBy w1 ve.ownBlock) (ho : w1.ownsRow B 93 2 (.slice (some ⟨g, 0, none⟩) m' cap) m' es') (hat : ve.ownBlock = some g ∨ g = w.heap.size) :
    Opn (w1.setCell ⟨X, 0, none⟩ (.slice (some ⟨g, 0, none⟩) m' cap)) B n X gO gD (.slice (some ⟨g, 0, none⟩) m' cap) m' es' rv ls := by
  obtain ⟨a1, a2, a3⟩ := h.hi
  obtain ⟨n1, n2, n3⟩ := h.ne
  have hfar : ∀ b, ve.ownBlock = some b → b ≠ X ∧ b ≠ gO ∧ b ≠ gD := h.far
  have gne : g ≠ X ∧ g ≠ gO ∧ g ≠ gD := by
    rcases hat with e | e
    · exact hfar g e
    · exact ⟨by omega, by omega, by omega⟩
  have nX : some X ≠ ve.ownBlock := fun e => (hfar X e.symm).1 rfl
  have nO : some gO ≠ ve.ownBlock := fun e => (hfar gO e.symm).2.1 rfl
  have nD : some gD ≠ ve.ownBlock := fun e => (hfar gD e.symm).2.2 rfl
  have c1 : ∀ o, w1.cell? ⟨X, o, none⟩ = w.cell? ⟨X, o, none⟩ := fun o => World.cell?_of_block (a := ⟨X, o, none⟩) (hg.block X a1 nX)
  have f1 : ∀ o, w1.frozen? ⟨X, o, none⟩ = w.frozen? ⟨X, o, none⟩ := fun o => World.frozen?_of_block (a := ⟨X, o, none⟩) (hg.block X a1 nX)
  have c2 : ∀ o, w1.cell? ⟨gO, o, none⟩ = w.cell? ⟨gO, o, none⟩ := fun o => World.cell?_of_block (a := ⟨gO, o, none⟩) (hg.block gO a2 nO)
  have f2 : ∀ o, w1.frozen? ⟨gO, o, none⟩ = w.frozen? ⟨gO, o, none⟩ := fun o => World.frozen?_of_block (a := ⟨gO, o, none⟩) (hg.block gO a2 nO)
  have c3 : ∀ o, w1.cell? ⟨gD, o, none⟩ = w.cell? ⟨gD, o, none⟩ := fun o => World.cell?_of_block (a := ⟨gD, o, none⟩) (hg.block gD a3 nD)
  have f3 : ∀ o, w1.frozen? ⟨gD, o, none⟩ = w.frozen? ⟨gD, o, none⟩ := fun o => World.frozen?_of_block (a := ⟨gD, o, none⟩) (hg.block gD a3 nD)
  have so : ∀ b o, (b ≠ X ∨ o ≠ 0) → ∀ u, (w1.setCell ⟨X, 0, none⟩ u).cell? ⟨b, o, none⟩ = w1.cell? ⟨b, o, none⟩ := fun b o hb u => cset_other fun e => by injection e with e1 e2; omega
  have hs := hg.size
  refine ⟨h.lo, by simp; omega, h.ne, ⟨cset_same ((c1 0).trans h.x0.1), (World.frozen?_setCell _ _ _ _).trans ((f1 0).trans h.x0.2)⟩, (so _ _ (by omega) _).trans ((c1 1).trans h.x1), (so _ _ (by omega) _).trans ((c1 2).trans h.x2),
    owns_keep ho fun k e => Below.heap_setCell _ _ _ _ ?_, ?_, fun v hv => ⟨(so _ _ (by omega) _).trans ((c2 v).trans (h.out v hv).1), (World.frozen?_setCell _ _ _ _).trans ((f2 v).trans (h.out v hv).2)⟩, fun v hv => ?_, fun v hv b e => ?_, h.sep,
    fun v hv => ⟨(so _ _ (by omega) _).trans ((c3 v).trans (h.dist v hv).1), (World.frozen?_setCell _ _ _ _).trans ((f3 v).trans (h.dist v hv).2)⟩⟩
  · obtain rfl : g = k := by simpa [Value.ownBlock] using e
    exact gne.1
  · intro b e
    obtain rfl : g = b := by simpa [Value.ownBlock] using e
    exact gne
  · refine owns_keep (h.row v hv) fun k e => (Below.heap_setCell _ _ _ _ ?_).trans (hg.block k ((h.row v hv).lt k e).2 ?_)
    · exact (h.rfar v hv k e).1
    · exact fun c => (h.rfar v hv k e).2.2.2 c.symm
  · obtain ⟨r1, r2, r3, r4⟩ := h.rfar v hv b e
    refine ⟨r1, r2, r3, fun c => ?_⟩
    obtain rfl : g = b := by simpa [Value.ownBlock] using c
    rcases hat with e' | e'
    · exact r4 e'
    · have := ((h.row v hv).lt g e).2; omega
def updV (f : Nat → Value) (u : Nat) (x : Value) : Nat → Value := fun v => if v = u then x else f v
def addTo (ls : Nat → List Nat) (u e : Nat) : Nat → List Nat := fun v => if v = u then ls v ++ [e] else ls v
/-- A node's row is appended to. -/
theorem Opn.push (h : Opn w B n X gO gD ve m es rv ls) {u e g cap : Nat} (hu : u < n) (hg : w.grownBy w1 (rv u).ownBlock) (ho : w1.ownsRow B 3 1 (.slice (some ⟨g, 0, none⟩) ((ls u).length + 1) cap) ((ls u).length + 1) (intV (ls u) ++ [.int .i64 (e : Nat)])) (hat : (rv u).ownBlock = some g ∨ g = w.heap.size) :
    Opn (w1.setCell ⟨gO, u, none⟩ (.slice (some ⟨g, 0, none⟩) ((ls u).length + 1) cap)) B n X gO gD ve m es (updV rv u (.slice (some ⟨g, 0, none⟩) ((ls u).length + 1) cap)) (addTo ls u e) := by
  obtain ⟨a1, a2, a3⟩ := h.hi
  obtain ⟨n1, n2, n3⟩ := h.ne
  have hfar := h.rfar u hu
  have gne : g ≠ X ∧ g ≠ gO ∧ g ≠ gD ∧ ve.ownBlock ≠ some g := by
    rcases hat with e | e
    · exact hfar g e
    · exact ⟨by omega, by omega, by omega, fun c => by have := (h.own.lt g c).2; omega⟩
  have nX : some X ≠ (rv u).ownBlock := fun e => (hfar X e.symm).1 rfl
  have nO : some gO ≠ (rv u).ownBlock := fun e => (hfar gO e.symm).2.1 rfl
  have nD : some gD ≠ (rv u).ownBlock := fun e => (hfar gD e.symm).2.2.1 rfl
  have c1 : ∀ o, w1.cell? ⟨X, o, none⟩ = w.cell? ⟨X, o, none⟩ := fun o => World.cell?_of_block (a := ⟨X, o, none⟩) (hg.block X a1 nX)
  have f1 : ∀ o, w1.frozen? ⟨X, o, none⟩ = w.frozen? ⟨X, o, none⟩ := fun o => World.frozen?_of_block (a := ⟨X, o, none⟩) (hg.block X a1 nX)
  have c2 : ∀ o, w1.cell? ⟨gO, o, none⟩ = w.cell? ⟨gO, o, none⟩ := fun o => World.cell?_of_block (a := ⟨gO, o, none⟩) (hg.block gO a2 nO)
  have f2 : ∀ o, w1.frozen? ⟨gO, o, none⟩ = w.frozen? ⟨gO, o, none⟩ := fun o => World.frozen?_of_block (a := ⟨gO, o, none⟩) (hg.block gO a2 nO)
  have c3 : ∀ o, w1.cell? ⟨gD, o, none⟩ = w.cell? ⟨gD, o, none⟩ := fun o => World.cell?_of_block (a := ⟨gD, o, none⟩) (hg.block gD a3 nD)
  have f3 : ∀ o, w1.frozen? ⟨gD, o, none⟩ = w.frozen? ⟨gD, o, none⟩ := fun o => World.frozen?_of_block (a := ⟨gD, o, none⟩) (hg.block gD a3 nD)
  have so : ∀ b o, (b ≠ gO ∨ o ≠ u) → ∀ x, (w1.setCell ⟨gO, u, none⟩ x).cell? ⟨b, o, none⟩ = w1.cell? ⟨b, o, none⟩ := fun b o hb x => cset_other fun e => by injection e with e1 e2; omega
  have hs := hg.size
  refine ⟨h.lo, by simp; omega, h.ne, ⟨(so _ _ (by omega) _).trans ((c1 0).trans h.x0.1), (World.frozen?_setCell _ _ _ _).trans ((f1 0).trans h.x0.2)⟩, (so _ _ (by omega) _).trans ((c1 1).trans h.x1), (so _ _ (by omega) _).trans ((c1 2).trans h.x2),
    owns_keep h.own fun k e => (Below.heap_setCell _ _ _ _ (h.far k e).2.1).trans (hg.block k (h.own.lt k e).2 fun c => (hfar k c.symm).2.2.2 e), h.far, fun v hv => ⟨?_, (World.frozen?_setCell _ _ _ _).trans ((f2 v).trans (h.out v hv).2)⟩, fun v hv => ?_, fun v hv b e => ?_, fun v v' hv hv' hne b e => ?_,
    fun v hv => ⟨(so _ _ (by omega) _).trans ((c3 v).trans (h.dist v hv).1), (World.frozen?_setCell _ _ _ _).trans ((f3 v).trans (h.dist v hv).2)⟩⟩
  · by_cases q : v = u
    · subst q
      simp only [updV, if_pos]
      exact cset_same ((c2 v).trans (h.out v hv).1)
    · simp only [updV, if_neg q]
      exact (so _ _ (by omega) _).trans ((c2 v).trans (h.out v hv).1)
  · by_cases q : v = u
    · subst q
      simp only [updV, addTo, if_pos]
      have hl : (ls v ++ [e]).length = (ls v).length + 1 := by simp
      rw [hl, show intV (ls v ++ [e]) = intV (ls v) ++ [.int .i64 (e : Nat)] by simp [intV]]
      refine owns_keep ho fun k e => Below.heap_setCell _ _ _ _ ?_
      obtain rfl : g = k := by simpa [Value.ownBlock] using e
      exact gne.2.1
    · simp only [updV, addTo, if_neg q]
      refine owns_keep (h.row v hv) fun k e => (Below.heap_setCell _ _ _ _ ?_).trans (hg.block k ((h.row v hv).lt k e).2 ?_)
      · exact (h.rfar v hv k e).2.1
      · exact fun c => h.sep v u hv hu q k e c.symm
  · by_cases q : v = u
    · subst q
      simp only [updV, if_pos] at e
      obtain rfl : g = b := by simpa [Value.ownBlock] using e
      exact gne
    · simp only [updV, if_neg q] at e
      exact h.rfar v hv b e
  · have key : ∀ x, x < n → x ≠ u → (rv x).ownBlock ≠ some g := by
      intro x hx hxu c
      rcases hat with e' | e'
      · exact h.sep u x hu hx (Ne.symm hxu) g e' c
      · have := ((h.row x hx).lt g c).2; omega
    by_cases q : v = u
    · subst q
      simp only [updV, if_pos] at e
      obtain rfl : g = b := by simpa [Value.ownBlock] using e
      simp only [updV, if_neg (Ne.symm hne)]
      exact key v' hv' (Ne.symm hne)
    · simp only [updV, if_neg q] at e
      by_cases q' : v' = u
      · subst q'
        simp only [updV, if_pos]
        intro c
        obtain rfl : g = b := by simpa [Value.ownBlock] using c
        exact key v hv q e
      · simp only [updV, if_neg q']
        exact h.sep v v' hv hv' hne b e
end
end Go.Proofs.Ytphebdmdbnpokaa.FL

/- What is made when all arcs have been laid: the network beside the flow of zeros. -/
namespace Go.Proofs.Ytphebdmdbnpokaa.FL
open Go.RowKit FM

def esOf (A : List Arc) : List Value := A.flatMap fun a => [.int .i64 a.2.1, .int .i64 a.2.2, .int .i64 a.1, .int .i64 0]
def L0 (A : List Arc) : List Int := A.flatMap fun a => [a.2.2, 0]
theorem esOf_snoc (A : List Arc) (a : Arc) : esOf (A ++ [a]) = esOf A ++ [.int .i64 a.2.1, .int .i64 a.2.2, .int .i64 a.1, .int .i64 0] := by simp [esOf]
theorem es_get : ∀ (A : List Arc) (e : Nat), e < 2 * A.length → (esOf A)[e * 2]? = some (.int .i64 (to A e)) ∧ (esOf A)[e * 2 + 1]? = some (.int .i64 ((L0 A).getD e 0))
  | [], e, h => by simp at h
  | a :: A, e, h => by
    match e with
    | 0 => exact ⟨rfl, rfl⟩
    | 1 => exact ⟨rfl, rfl⟩
    | e + 2 =>
      obtain ⟨h1, h2⟩ := es_get A e (by simp at h; omega)
      rw [(fr_succ a A e).2]
      refine ⟨?_, ?_⟩
      · rw [show (e + 2) * 2 = e * 2 + 1 + 1 + 1 + 1 by omega]; exact h1
      · rw [show (e + 2) * 2 + 1 = e * 2 + 1 + 1 + 1 + 1 + 1 by omega]; exact h2
theorem L0_len (A : List Arc) : (L0 A).length = 2 * A.length := by
  induction A with
  | nil => rfl
  | cons a A ih => simp [L0] at *; omega
theorem L0_res : ∀ {A : List Arc}, (∀ a ∈ A, 0 ≤ a.2.2) → Res A (L0 A)
  | [], _ => trivial
  | a :: A, h => ⟨h a List.mem_cons_self, Int.le_refl _, by omega, L0_res fun b hb => h b (List.mem_cons_of_mem _ hb)⟩
theorem L0_exc : ∀ (A : List Arc) (v : Int), exc A (flowOf A (L0 A)) v = 0
  | [], v => rfl
  | a :: A, v => by
    show ind (a.1 == v) (a.2.2 - a.2.2) - ind (a.2.1 == v) (a.2.2 - a.2.2) + exc A (flowOf A (L0 A)) v = 0
    rw [L0_exc A v, Int.sub_self]; simp [ind]
theorem L0_fl {A : List Arc} {s t : Int} (h : ∀ a ∈ A, 0 ≤ a.2.2) : Fl A s t (L0 A) 0 := ⟨L0_res h, fun v _ _ => L0_exc A v, L0_exc A s⟩
theorem filter_congr' {l : List Nat} {p q : Nat → Bool} (h : ∀ x ∈ l, p x = q x) : l.filter p = l.filter q := List.filter_congr h
theorem fr_app (A : List Arc) (a : Arc) (e : Nat) (h : e < 2 * A.length) : fr (A ++ [a]) e = fr A e := by
  have : e / 2 < A.length := by omega
  simp [fr, List.getD_eq_getElem?_getD, List.getElem?_append_left this]
theorem fr_last (A : List Arc) (a : Arc) : fr (A ++ [a]) (2 * A.length) = a.1 ∧ fr (A ++ [a]) (2 * A.length + 1) = a.2.1 := by
  have e1 : 2 * A.length / 2 = A.length := by omega
  have e2 : (2 * A.length + 1) / 2 = A.length := by omega
  have e3 : (2 * A.length) % 2 = 0 := by omega
  have e4 : (2 * A.length + 1) % 2 = 1 := by omega
  simp [fr, e1, e2, e3, e4]
theorem outs_snoc (A : List Arc) (a : Arc) (v : Int) : outs (A ++ [a]) v = outs A v ++ (if a.1 = v then [2 * A.length] else []) ++ (if a.2.1 = v then [2 * A.length + 1] else []) := by
  have e : List.range (2 * (A ++ [a]).length) = List.range (2 * A.length) ++ [2 * A.length] ++ [2 * A.length + 1] := by
    rw [show 2 * (A ++ [a]).length = 2 * A.length + 1 + 1 by simp; omega, List.range_succ, List.range_succ]
  obtain ⟨f1, f2⟩ := fr_last A a
  unfold outs
  rw [e, List.filter_append, List.filter_append]
  congr 1
  · congr 1
    · exact List.filter_congr fun x hx => by rw [fr_app A a x (by simpa using hx)]
    · simp [List.filter_cons, f1]
  · simp [List.filter_cons, f2]
theorem outs_add (A : List Arc) (a : Arc) (p q : Nat) (hp : a.1 = p) (hq : a.2.1 = q) (ls : Nat → List Nat) (v : Nat) (h : ls v = outs A v) : addTo (addTo ls p (2 * A.length)) q (2 * A.length + 1) v = outs (A ++ [a]) v := by
  rw [outs_snoc, hp, hq]
  simp only [addTo, h]
  by_cases h1 : v = p <;> by_cases h2 : v = q
  · subst h1; subst h2; simp
  · subst h1; simp [h2]; omega
  · subst h2; simp [h1]; omega
  · simp [h1, h2]; omega
theorem net_of {w : World} {B n X gO gD : Nat} {A : List Arc} {ve : Value} {rv : Nat → Value} {ls : Nat → List Nat} (h : Opn w B n X gO gD ve (2 * A.length) (esOf A) rv ls) (hl : ∀ v, v < n → ls v = outs A v) (hB : B ≤ w.heap.size) :
    ∃ a : NA, a.X = X ∧ Net w B w.heap.size n A a (L0 A) (fun _ => 0) := by
  obtain ⟨l1, l2, l3⟩ := h.lo
  obtain ⟨a1, a2, a3⟩ := h.hi
  obtain ⟨n1, n2, n3⟩ := h.ne
  have mk : ∀ (gE : Nat) (pE : Option Addr) (cE : Nat), ve = .slice pE (2 * A.length) cE → B ≤ gE → (gE ≠ X ∧ gE ≠ gO ∧ gE ≠ gD) → (∀ v, v < n → ∀ b, (rv v).ownBlock = some b → b ≠ gE) →
      (∀ e, e < 2 * A.length → pE = some ⟨gE, 0, none⟩ ∧ gE < w.heap.size ∧ w.cell? ⟨gE, e * 2, none⟩ = some (.int .i64 (to A e)) ∧ w.cell? ⟨gE, e * 2 + 1, none⟩ = some (.int .i64 ((L0 A).getD e 0)) ∧ w.frozen? ⟨gE, e * 2 + 1, none⟩ = false) →
      ∃ a : NA, a.X = X ∧ Net w B w.heap.size n A a (L0 A) (fun _ => 0) := by
    intro gE pE cE hve hb hne hrne hedge
    refine ⟨⟨X, gO, gD, gE, pE, cE, rv⟩, rfl, ⟨l1, l2, l3, hb⟩, ⟨a1, a2, a3⟩, ⟨n2, Ne.symm hne.1, n3, Ne.symm hne.2.1, Ne.symm hne.2.2⟩, by rw [← hve]; exact h.x0.1, h.x1, h.x2, fun v hv => (h.out v hv).1, fun v hv => ?_, h.dist, hedge, L0_len A⟩
    show ∃ ao c, rv v = _ ∧ _
    have hr := h.row v hv
    have hf := h.rfar v hv
    have hg := hrne v hv
    rw [hl v hv] at hr
    obtain ⟨_, ⟨r1, r2⟩ | ⟨g, cap, cur, r1, r2, r3, r4, r5, r6, r7⟩⟩ := hr
    · have hnil : outs A v = [] := List.eq_nil_of_length_eq_zero r2
      exact ⟨none, 0, by rw [r1, hnil]; rfl, fun k e hk => by rw [hnil] at hk; simp at hk⟩
    · rw [r1] at hf hg
      obtain ⟨f1, f2, f3, f4⟩ := hf g rfl
      refine ⟨_, cap, r1, fun k e hk => ⟨g, 0, rfl, r2, ?_, f3, hg g rfl, ?_⟩⟩
      · rcases Nat.lt_or_ge g w.heap.size with q | q
        · exact q
        · rw [Array.getElem?_eq_none q] at r3; cases r3
      · rw [Nat.zero_add, cell_of_row w g k cur 3 (0, 0) r3]
        have hk1 := (List.getElem?_eq_some_iff.1 hk).1
        have : (cur.toList.take ((outs A v).length * 1))[k]? = (intV (outs A v))[k]? := by rw [r7]
        rw [List.getElem?_take_of_lt (by omega)] at this
        simpa [intV, hk] using this
  obtain ⟨_, ⟨r1, r2⟩ | ⟨g, cap, cur, r1, r2, r3, r4, r5, r6, r7⟩⟩ := h.own
  · refine mk w.heap.size none 0 (by rw [r1, r2]) hB ⟨by omega, by omega, by omega⟩ (fun v hv b e => by have := ((h.row v hv).lt b e).2; omega) fun e he => by omega
  · obtain ⟨f1, f2, f3⟩ := h.far g (by rw [r1]; rfl)
    refine mk g _ cap r1 r2 ⟨f1, f2, f3⟩ (fun v hv b e => fun c => (h.rfar v hv b e).2.2.2 (by rw [r1, c]; rfl)) fun e he => ?_
    have hlt : g < w.heap.size := by
      rcases Nat.lt_or_ge g w.heap.size with q | q
      · exact q
      · rw [Array.getElem?_eq_none q] at r3; cases r3
    obtain ⟨g1, g2⟩ := es_get A e he
    rw [← r7, List.getElem?_take_of_lt (by omega)] at g1 g2
    refine ⟨rfl, hlt, ?_, ?_, ?_⟩
    · rw [cell_of_row w g (e * 2) cur 93 (0, 0) r3]; simpa using g1
    · rw [cell_of_row w g (e * 2 + 1) cur 93 (0, 0) r3]; simpa using g2
    · simp [World.frozen?, r3]
end Go.Proofs.Ytphebdmdbnpokaa.FL

