/- The network in memory: its block of three cells, the edges, the edges from each node, the distances; and what writes to it do. -/
import Derived.Test.YtphebdmdbnpokaaFF1
import Derived.Test.YtphebdmdbnpokaaFRow
set_option linter.unusedSimpArgs false
set_option linter.unusedVariables false
namespace Go.Proofs.Ytphebdmdbnpokaa.FL
open Go.RowKit FM

/-- Below block number M the world is as it was, but for the blocks in S. -/
structure Keeps (M : Nat) (S : Nat → Prop) (w w' : World) : Prop where
  os : w'.os = w.os
  tape : w'.tape = w.tape
  output : w'.output = w.output
  size : w.heap.size ≤ w'.heap.size
  block : ∀ k, k < M → ¬ S k → w'.heap[k]? = w.heap[k]?
section
variable {M : Nat} {S : Nat → Prop} {a b c : World}
theorem Keeps.refl (M : Nat) (S : Nat → Prop) (w : World) : Keeps M S w w := ⟨rfl, rfl, rfl, Nat.le_refl _, fun _ _ _ => rfl⟩
theorem Keeps.trans (h : Keeps M S a b) (k : Keeps M S b c) : Keeps M S a c := ⟨k.os.trans h.os, k.tape.trans h.tape, k.output.trans h.output, Nat.le_trans h.size k.size, fun n h1 h2 => (k.block n h1 h2).trans (h.block n h1 h2)⟩
theorem Keeps.alloc (h : Keeps M S a b) (hM : M ≤ b.heap.size) (o : Obj) : Keeps M S a (b.alloc o) :=
  ⟨h.os, h.tape, h.output, by have := h.size; simp; omega, fun k h1 h2 => (Below.heap_alloc b o k (by omega)).trans (h.block k h1 h2)⟩
theorem Keeps.setCell (h : Keeps M S a b) {p : Addr} (hp : M ≤ p.block ∨ S p.block) (u : Value) : Keeps M S a (b.setCell p u) :=
  ⟨h.os, h.tape, h.output, by simpa using h.size, fun k h1 h2 => (Below.heap_setCell b p u k (by
    rintro rfl
    rcases hp with g | g
    · omega
    · exact h2 g)).trans (h.block k h1 h2)⟩
theorem Keeps.drew (h : Keeps M S a b) : Keeps M S a b.drew := ⟨h.os, h.tape, h.output, h.size, h.block⟩
theorem Keeps.drewN (h : Keeps M S a b) (n : Nat) : Keeps M S a (b.drewN n) := ⟨h.os, h.tape, h.output, h.size, h.block⟩
theorem Keeps.mono {M' : Nat} {S' : Nat → Prop} (h : Keeps M S a b) (hM : M' ≤ M) (hS : ∀ k, k < M' → S k → S' k) : Keeps M' S' a b :=
  ⟨h.os, h.tape, h.output, h.size, fun k h1 h2 => h.block k (by omega) (fun g => h2 (hS k h1 g))⟩
theorem Keeps.cell (h : Keeps M S a b) {p : Addr} (h1 : p.block < M) (h2 : ¬ S p.block) : b.cell? p = a.cell? p := World.cell?_of_block (h.block _ h1 h2)
theorem Keeps.below {B : Nat} (h : Keeps M S a b) (hB : B ≤ M) (hS : ∀ k, S k → B ≤ k) : Below B a b :=
  ⟨h.os, h.tape, h.output, h.size, fun k hk => h.block k (by omega) (fun g => by have := hS k g; omega)⟩
theorem Keeps.of_below {B : Nat} (h : Below B a b) : Keeps B S a b := ⟨h.os, h.tape, h.output, h.size, fun k hk _ => h.block k hk⟩
theorem Keeps.step (h : Keeps M S a b) (hM : M ≤ b.heap.size) (k : Grew M b c) : Keeps M S a c :=
  ⟨k.os.trans h.os, k.tape.trans h.tape, k.output.trans h.output, Nat.le_trans h.size k.size, fun n h1 h2 => (k.block n (by omega) h1).trans (h.block n h1 h2)⟩
end

theorem cset_other {w : World} {a b : Addr} {v : Value} (h : a ≠ b) : (w.setCell a v).cell? b = w.cell? b := World.cell?_setCell_other _ _ _ _ h
theorem cset_same {w : World} {a : Addr} {u v : Value} (h : w.cell? a = some u) : (w.setCell a v).cell? a = some v := World.cell?_setCell_same _ _ _ h
structure NA where
  X : Nat
  gO : Nat
  gD : Nat
  gE : Nat
  pE : Option Addr
  cE : Nat
  row : Nat → Value

structure Net (w : World) (B M n : Nat) (A : List Arc) (a : NA) (L : List Int) (D : Int → Int) : Prop where
  lo : B ≤ a.X ∧ B ≤ a.gO ∧ B ≤ a.gD ∧ B ≤ a.gE
  hi : a.X < M ∧ a.gO < M ∧ a.gD < M
  ne : a.X ≠ a.gD ∧ a.X ≠ a.gE ∧ a.gO ≠ a.gD ∧ a.gO ≠ a.gE ∧ a.gD ≠ a.gE
  x0 : w.cell? ⟨a.X, 0, none⟩ = some (.slice a.pE (2 * A.length) a.cE)
  x1 : w.cell? ⟨a.X, 1, none⟩ = some (.slice (some ⟨a.gO, 0, none⟩) n n)
  x2 : w.cell? ⟨a.X, 2, none⟩ = some (.slice (some ⟨a.gD, 0, none⟩) n n)
  out : ∀ v, v < n → w.cell? ⟨a.gO, v, none⟩ = some (a.row v)
  row : ∀ v, v < n → ∃ ao c, a.row v = .slice ao (outs A v).length c ∧ ∀ (k e : Nat), (outs A v)[k]? = some e → ∃ g o, ao = some ⟨g, o, none⟩ ∧ B ≤ g ∧ g < M ∧ g ≠ a.gD ∧ g ≠ a.gE ∧ w.cell? ⟨g, o + k, none⟩ = some (.int .i64 e)
  dist : ∀ v, v < n → w.cell? ⟨a.gD, v, none⟩ = some (.int .i64 (D v)) ∧ w.frozen? ⟨a.gD, v, none⟩ = false
  edge : ∀ e, e < 2 * A.length → a.pE = some ⟨a.gE, 0, none⟩ ∧ a.gE < M ∧ w.cell? ⟨a.gE, e * 2, none⟩ = some (.int .i64 (to A e)) ∧ w.cell? ⟨a.gE, e * 2 + 1, none⟩ = some (.int .i64 (L.getD e 0)) ∧ w.frozen? ⟨a.gE, e * 2 + 1, none⟩ = false
  len : L.length = 2 * A.length

section
variable {w w' : World} {B M n : Nat} {A : List Arc} {a : NA} {L : List Int} {D : Int → Int}
theorem Net.keep (h : Net w B M n A a L D) (hk : ∀ k, k < M → w'.heap[k]? = w.heap[k]?) : Net w' B M n A a L D := by
  have hc : ∀ b o, b < M → w'.cell? ⟨b, o, none⟩ = w.cell? ⟨b, o, none⟩ := fun b o hb => World.cell?_of_block (a := ⟨b, o, none⟩) (hk b hb)
  have hf : ∀ b o, b < M → w'.frozen? ⟨b, o, none⟩ = w.frozen? ⟨b, o, none⟩ := fun b o hb => World.frozen?_of_block (a := ⟨b, o, none⟩) (hk b hb)
  obtain ⟨h1, h2, h3⟩ := h.hi
  refine ⟨h.lo, h.hi, h.ne, (hc _ _ h1).trans h.x0, (hc _ _ h1).trans h.x1, (hc _ _ h1).trans h.x2, fun v hv => (hc _ _ h2).trans (h.out v hv), fun v hv => ?_, fun v hv => ⟨(hc _ _ h3).trans (h.dist v hv).1, (hf _ _ h3).trans (h.dist v hv).2⟩, fun e he => ?_, h.len⟩
  · obtain ⟨ao, c, e1, e2⟩ := h.row v hv
    refine ⟨ao, c, e1, fun k e hk => ?_⟩
    obtain ⟨g, o, f1, f2, f3, f4, f5, f6⟩ := e2 k e hk
    exact ⟨g, o, f1, f2, f3, f4, f5, (hc _ _ f3).trans f6⟩
  · obtain ⟨e1, e2, e3, e4, e5⟩ := h.edge e he
    exact ⟨e1, e2, (hc _ _ e2).trans e3, (hc _ _ e2).trans e4, (hf _ _ e2).trans e5⟩
theorem Net.alloc (h : Net w B M n A a L D) (hM : M ≤ w.heap.size) (o : Obj) : Net (w.alloc o) B M n A a L D := h.keep fun k hk => Below.heap_alloc w o k (by omega)
theorem Net.drewN (h : Net w B M n A a L D) (m : Nat) : Net (w.drewN m) B M n A a L D := h.keep fun _ _ => rfl
theorem Net.setFar (h : Net w B M n A a L D) {p : Addr} (hp : M ≤ p.block) (u : Value) : Net (w.setCell p u) B M n A a L D := h.keep fun k hk => Below.heap_setCell w p u k (by omega)
theorem Net.setD (h : Net w B M n A a L D) {v : Nat} (hv : v < n) (x : Int) : Net (w.setCell ⟨a.gD, v, none⟩ (.int .i64 x)) B M n A a L (updI D v x) := by
  obtain ⟨n1, n2, n3, n4, n5⟩ := h.ne
  have hc : ∀ b o, b ≠ a.gD → (w.setCell ⟨a.gD, v, none⟩ (.int .i64 x)).cell? ⟨b, o, none⟩ = w.cell? ⟨b, o, none⟩ := fun b o hb => cset_other (fun e => hb (by injection e with e1; exact e1.symm))
  have hf : ∀ b o, (w.setCell ⟨a.gD, v, none⟩ (.int .i64 x)).frozen? ⟨b, o, none⟩ = w.frozen? ⟨b, o, none⟩ := fun b o => World.frozen?_setCell _ _ _ _
  refine ⟨h.lo, h.hi, h.ne, (hc _ _ n1).trans h.x0, (hc _ _ n1).trans h.x1, (hc _ _ n1).trans h.x2, fun v hv => (hc _ _ n3).trans (h.out v hv), fun v hv => ?_, fun u hu => ⟨?_, (hf _ _).trans (h.dist u hu).2⟩, fun e he => ?_, h.len⟩
  · obtain ⟨ao, c, e1, e2⟩ := h.row v hv
    refine ⟨ao, c, e1, fun k e hk => ?_⟩
    obtain ⟨g, o, f1, f2, f3, f4, f5, f6⟩ := e2 k e hk
    exact ⟨g, o, f1, f2, f3, f4, f5, (hc _ _ f4).trans f6⟩
  · by_cases e : u = v
    · subst e
      rw [updI_same]
      exact cset_same (h.dist u hu).1
    · rw [updI_other _ _ _ (by omega : (u : Int) ≠ v)]
      exact (cset_other (fun g => e (by injection g with g1 g2; exact g2.symm))).trans (h.dist u hu).1
  · obtain ⟨e1, e2, e3, e4, e5⟩ := h.edge e he
    exact ⟨e1, e2, (hc _ _ (Ne.symm n5)).trans e3, (hc _ _ (Ne.symm n5)).trans e4, (hf _ _).trans e5⟩
theorem Net.setL (h : Net w B M n A a L D) {e : Nat} (he : e < 2 * A.length) (x : Int) : Net (w.setCell ⟨a.gE, e * 2 + 1, none⟩ (.int .i64 x)) B M n A a (L.set e x) D := by
  obtain ⟨n1, n2, n3, n4, n5⟩ := h.ne
  have hc : ∀ b o, b ≠ a.gE → (w.setCell ⟨a.gE, e * 2 + 1, none⟩ (.int .i64 x)).cell? ⟨b, o, none⟩ = w.cell? ⟨b, o, none⟩ := fun b o hb => cset_other (fun e => hb (by injection e with e1; exact e1.symm))
  have hf : ∀ b o, (w.setCell ⟨a.gE, e * 2 + 1, none⟩ (.int .i64 x)).frozen? ⟨b, o, none⟩ = w.frozen? ⟨b, o, none⟩ := fun b o => World.frozen?_setCell _ _ _ _
  refine ⟨h.lo, h.hi, h.ne, (hc _ _ n2).trans h.x0, (hc _ _ n2).trans h.x1, (hc _ _ n2).trans h.x2, fun v hv => (hc _ _ n4).trans (h.out v hv), fun v hv => ?_, fun u hu => ⟨(hc _ _ n5).trans (h.dist u hu).1, (hf _ _).trans (h.dist u hu).2⟩, fun k hk => ?_, by simpa using h.len⟩
  · obtain ⟨ao, c, e1, e2⟩ := h.row v hv
    refine ⟨ao, c, e1, fun k e hk => ?_⟩
    obtain ⟨g, o, f1, f2, f3, f4, f5, f6⟩ := e2 k e hk
    exact ⟨g, o, f1, f2, f3, f4, f5, (hc _ _ f5).trans f6⟩
  · obtain ⟨e1, e2, e3, e4, e5⟩ := h.edge k hk
    refine ⟨e1, e2, (cset_other (fun g => by injection g with g1 g2; omega)).trans e3, ?_, (hf _ _).trans e5⟩
    by_cases g : k = e
    · subst g
      rw [cset_same e4]
      have hlt : k < L.length := by rw [h.len]; exact hk
      simp [List.getD_eq_getElem?_getD, List.getElem?_set, hlt]
    · rw [cset_other (fun c => by injection c with g1 g2; omega), e4]
      simp [List.getD_eq_getElem?_getD, List.getElem?_set_ne (fun c => g c.symm)]
theorem Net.congrD {D' : Int → Int} (h : Net w B M n A a L D) (e : ∀ v : Nat, v < n → D v = D' v) : Net w B M n A a L D' :=
  ⟨h.lo, h.hi, h.ne, h.x0, h.x1, h.x2, h.out, h.row, fun v hv => by rw [← e v hv]; exact h.dist v hv, h.edge, h.len⟩
end
end Go.Proofs.Ytphebdmdbnpokaa.FL
