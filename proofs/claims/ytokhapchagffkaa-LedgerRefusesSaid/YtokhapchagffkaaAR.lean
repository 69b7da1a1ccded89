/- Entries in an array of the call's own, that may be written. -/
import Derived.Test.YtokhapchagffkaaLB
import Derived.Test.YtokhapchagffkaaPR
set_option linter.unusedSimpArgs false
set_option linter.unusedVariables false
namespace Go.Proofs.Ytokhapchagffkaa
open Go.RowKit LG
def ArrE (w : World) (g : Nat) (A : List Et) : Prop := ∀ k r, A[k]? = some r → ∀ j u, r.cells[j]? = some u → w.cell? ⟨g, k * 7 + j, none⟩ = some u ∧ w.frozen? ⟨g, k * 7 + j, none⟩ = false
theorem ArrE.ents {w : World} {g B : Nat} {A : List Et} (h : ArrE w g A) (hg : g < B) : EntsAt w B (some ⟨g, 0, none⟩) A := fun _ => ⟨g, 0, rfl, hg, fun k r hk j v hj => by rw [Nat.zero_add]; exact (h k r hk j v hj).1⟩
theorem ArrE.set {w : World} {g : Nat} {A : List Et} (h : ArrE w g A) {m : Nat} {r r' : Et} (hm : A[m]? = some r) {j0 : Nat} {v : Value} (hv : r'.cells[j0]? = some v) (hs : ∀ j, j ≠ j0 → r'.cells[j]? = r.cells[j]?) :
    ArrE (w.setCell ⟨g, m * 7 + j0, none⟩ v) g (A.set m r') := fun k q hk j u hj => by
  have hj7 : j < 7 := (List.getElem?_eq_some_iff.1 hj).1
  have h07 : j0 < 7 := (List.getElem?_eq_some_iff.1 hv).1
  have hml := (List.getElem?_eq_some_iff.1 hm).1
  have hold : ∀ j1, j1 < 7 → ∃ u1, r.cells[j1]? = some u1 := fun j1 h1 => ⟨_, List.getElem?_eq_getElem h1⟩
  by_cases hkm : k = m
  · subst hkm
    rw [List.getElem?_set_self hml] at hk
    obtain rfl : r' = q := by simpa using hk
    by_cases hjj : j = j0
    · subst hjj
      obtain ⟨u1, hu1⟩ := hold j hj7
      have hc := h k r hm j u1 hu1
      obtain rfl : v = u := by rw [hv] at hj; exact Option.some.inj hj
      exact ⟨World.cell?_setCell_same _ _ _ hc.1, (World.frozen?_setCell _ _ _ _).trans hc.2⟩
    · rw [hs j hjj] at hj
      have hc := h k r hm j u hj
      exact ⟨(World.cell?_setCell_other _ _ _ _ (fun q => hjj (by injection q with q1 q2; omega))).trans hc.1, (World.frozen?_setCell _ _ _ _).trans hc.2⟩
  · rw [List.getElem?_set_ne (fun e => hkm e.symm)] at hk
    have hc := h k q hk j u hj
    exact ⟨(World.cell?_setCell_other _ _ _ _ (fun q => hkm (by injection q with q1 q2; omega))).trans hc.1, (World.frozen?_setCell _ _ _ _).trans hc.2⟩
end Go.Proofs.Ytokhapchagffkaa
