/- Rows of strings beside a disk. -/
import Derived.Test.YtfohojkclfofmaaW14
import Derived.Test.YtfohojkclfofmaaArr
set_option linter.unusedSimpArgs false
set_option linter.unusedVariables false
namespace Go.Proofs.Ytfohojkclfofmaa
open Go.RowKit DK
section
variable {w0 w w' : World} {b n n' g : Nat} {K : List (Nat × Obj)} {s s' : St} {o : Obj}
theorem Has.same (h : Has w0 b K n w s) (h' : Has w0 b K n' w' s') {g : Nat} {o : Obj} (hx : (g, o) ∈ K) : w'.heap[g]? = w.heap[g]? := (h'.kept _ hx).trans (h.kept _ hx).symm
theorem Has.same2 {K' : List (Nat × Obj)} (h : Has w0 b K n w s) (h' : Has w0 b K' n' w' s') {g : Nat} {o : Obj} (hx : (g, o) ∈ K) (hx' : (g, o) ∈ K') : w'.heap[g]? = w.heap[g]? := (h'.kept _ hx').trans (h.kept _ hx).symm
theorem Has.drop {x : Nat × Obj} (h : Has w0 b (x :: K) n w s) : Has w0 b K n w s := by
  obtain ⟨m, hD, hK⟩ := h.at_
  exact ⟨h.ok, h.lim, ⟨m, hD, fun y hy => hK y (List.mem_cons_of_mem _ hy)⟩, fun y hy => h.kept y (List.mem_cons_of_mem _ hy), h.below, h.base⟩
theorem Has.drew (h : Has w0 b K n w s) : Has w0 b K n w.drew s := h.below_ (Below.refl _ _).drew
theorem Has.drewN (h : Has w0 b K n w s) (k : Nat) : Has w0 b K n (w.drewN k) s := h.below_ (below_drewN (Below.refl _ _) _)
/-- A block that is kept is written. -/
theorem Has.wrote (h : Has w0 b ((g, o) :: K) n w s) (hg : w0.heap.size ≤ g) (hK : ∀ x ∈ K, x.1 ≠ g) (i : Nat) (v : Value) : ∃ o', Has w0 b ((g, o') :: K) n (w.setCell ⟨g, i, none⟩ v) s := by
  obtain ⟨m, hD, hf⟩ := h.at_
  have hgl : g < w.heap.size := (Array.getElem?_eq_some_iff.1 (h.kept (g, o) (by simp))).1
  have hz : (w.setCell ⟨g, i, none⟩ v).heap.size = w.heap.size := by simp
  have hne : ¬ foot b m g := hf (g, o) (by simp)
  have hbl : ∀ k, k ≠ g → (w.setCell ⟨g, i, none⟩ v).heap[k]? = w.heap[k]? := fun k hk => Below.heap_setCell _ _ _ _ hk
  refine ⟨(w.setCell ⟨g, i, none⟩ v).heap[g]'(by rw [hz]; exact hgl), h.ok, h.lim, ⟨m, hD.keep (by rw [hz]; exact Nat.le_refl _) (fun k _ hk => hbl k (fun e => by subst e; exact hne hk)), fun x hx => ?_⟩, fun x hx => ?_, ?_, h.base⟩
  · rcases List.mem_cons.1 hx with rfl | hx
    · exact hne
    · exact hf x (List.mem_cons_of_mem _ hx)
  · rcases List.mem_cons.1 hx with rfl | hx
    · exact Array.getElem?_eq_getElem _
    · rw [hbl x.1 (hK x hx)]; exact h.kept x (List.mem_cons_of_mem _ hx)
  · exact ⟨h.below.os, h.below.tape, h.below.output, by rw [hz]; exact h.below.size, fun k hk => by rw [hbl k (by omega)]; exact h.below.block k hk⟩
end
def strsF (sf : Nat → Bts) (j : Nat) : Value := .string (bs (sf j))
/-- The law's row of strings. -/
structure SafeAt (w0 : World) (b g n : Nat) (K : List (Nat × Obj)) (w : World) (s : St) (sf : Nat → Bts) : Prop where
  has : ∃ o, Has w0 b ((g, o) :: K) n w s
  arr : Arr w g 8 (strsF sf)
  base : w0.heap.size ≤ g
  apart : ∀ x ∈ K, x.1 ≠ g
section
variable {w0 w w' : World} {b n n' g : Nat} {K : List (Nat × Obj)} {s s' : St} {sf : Nat → Bts}
theorem SafeAt.set (h : SafeAt w0 b g n K w s sf) {f : Nat} (hf : f < 8) (x : Bts) : SafeAt w0 b g n K (w.setCell ⟨g, f, none⟩ (.string (bs x))) s (upd sf f x) := by
  obtain ⟨o, H⟩ := h.has
  refine ⟨H.wrote h.base h.apart f _, (h.arr.set hf _).congr fun j _ => ?_, h.base, h.apart⟩
  unfold updF strsF upd
  by_cases e : j = f
  · rw [if_pos e, if_pos e]
  · rw [if_neg e, if_neg e]
theorem SafeAt.go {o : Obj} (h : SafeAt w0 b g n K w s sf) (H : Has w0 b ((g, o) :: K) n w s) (H' : Has w0 b ((g, o) :: K) n' w' s') : SafeAt w0 b g n' K w' s' sf :=
  ⟨⟨o, H'⟩, h.arr.keep (H.same H' (o := o) (by simp)), h.base, h.apart⟩
theorem SafeAt.below_ (h : SafeAt w0 b g n K w s sf) (hb : Below w.heap.size w w') : SafeAt w0 b g n K w' s sf := by
  obtain ⟨o, H⟩ := h.has
  exact h.go H (H.below_ hb)
theorem SafeAt.drew (h : SafeAt w0 b g n K w s sf) : SafeAt w0 b g n K w.drew s sf := h.below_ (Below.refl _ _).drew
theorem SafeAt.lt (h : SafeAt w0 b g n K w s sf) : g < w.heap.size := by
  obtain ⟨o, H⟩ := h.has
  exact (Array.getElem?_eq_some_iff.1 (H.kept (g, o) (by simp))).1
theorem SafeAt.congr {sf2 : Nat → Bts} (h : SafeAt w0 b g n K w s sf) (e : ∀ f, f < 8 → sf f = sf2 f) : SafeAt w0 b g n K w s sf2 :=
  ⟨h.has, h.arr.congr fun j hj => by unfold strsF; rw [e j hj], h.base, h.apart⟩
/-- A row of eight empty strings, made just now. -/
theorem SafeAt.made (h : Has w0 b K n w s) (t : TypeId) (hK : ∀ x ∈ K, x.1 ≠ w.heap.size) : SafeAt w0 b w.heap.size n K (w.alloc (.cells (zeros (.string ⟨#[]⟩) 8) t)) s (fun _ => []) :=
  ⟨⟨_, h.keepNew _⟩, (Arr.made w (.string ⟨#[]⟩) 8 t).congr fun _ _ => rfl, h.below.size, hK⟩
end
end Go.Proofs.Ytfohojkclfofmaa
