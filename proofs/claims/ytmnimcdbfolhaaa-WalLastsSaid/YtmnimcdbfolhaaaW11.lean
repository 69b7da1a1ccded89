/- The walk of Turn. -/
import Derived.Test.YtmnimcdbfolhaaaW9
set_option linter.unusedSimpArgs false
set_option linter.unusedVariables false
namespace Go.Proofs.Ytmnimcdbfolhaaa
open Go.RowKit DK
attribute [local go_sem] alloc_drewN setCell_drewN shape_drewN
section
variable {w w1 w2 w3 w4 : World} {b : Nat} {m : Dm} {s : St}
def turnM (m : Dm) (f g : Nat) : Dm := { m with dA := upd (upd m.dA f (m.dA g)) g none, dc := upd (upd m.dc f (m.dc g)) g 0 }
theorem DiskAt.turned (h : DiskAt w b m s) {f g : Nat} (hf : f < 8) (hg : g < 8) (hne : f ≠ g) (R1 : Rest w w1 b (f * 2) (.slice (ad (m.dA g)) (s.data g).length (m.dc g))) (R2 : Rest w1 w2 b (f * 2 + 1) (.int .i64 (s.dur g))) (R3 : Rest w2 w3 b (g * 2) (.slice none 0 0)) (R4 : Rest w3 w4 b (g * 2 + 1) (.int .i64 0)) :
    DiskAt w4 b (turnM m f g) (turnS s f g |> fun t => { t with q := s.q }) := by
  have oth : ∀ i, i ≠ f * 2 → i ≠ f * 2 + 1 → i ≠ g * 2 → i ≠ g * 2 + 1 → w4.cell? ⟨b, i, none⟩ = w.cell? ⟨b, i, none⟩ := fun i h1 h2 h3 h4 => (R4.other i h4).trans ((R3.other i h3).trans ((R2.other i h2).trans (R1.other i h1)))
  have hh : ∀ k, k ≠ b → w4.heap[k]? = w.heap[k]? := fun k hk => (R4.heap k hk).trans ((R3.heap k hk).trans ((R2.heap k hk).trans (R1.heap k hk)))
  have hz : w4.heap.size = w.heap.size := R4.size.trans (R3.size.trans (R2.size.trans R1.size))
  have none_row : ∀ (W : World), W.ownsRow (b + 1) 5 1 (.slice (ad none) ([] : Bts).length 0) ([] : Bts).length (bytesV []) := fun W => World.ownsRow_nil _ _ _ _
  have hAf : ∀ j, j < 8 → j ≠ g → j ≠ f → (turnM m f g).dA j = m.dA j := fun j _ e1 e2 => by show upd (upd m.dA f (m.dA g)) g none j = _; rw [upd_other _ _ e1, upd_other _ _ e2]
  have hAg : (turnM m f g).dA g = none := upd_same _ _ _
  have hAF : (turnM m f g).dA f = m.dA g := by show upd (upd m.dA f (m.dA g)) g none f = _; rw [upd_other _ _ hne, upd_same]
  have hAany : ∀ j, j < 8 → ∃ i, i < 8 ∧ ((turnM m f g).dA j = none ∨ (turnM m f g).dA j = m.dA i) := fun j hj => by
    by_cases e1 : j = g
    · subst e1; exact ⟨j, hj, .inl hAg⟩
    · by_cases e2 : j = f
      · subst e2; exact ⟨g, hg, .inr hAF⟩
      · exact ⟨j, hj, .inr (hAf j hj e1 e2)⟩
  refine ⟨fun j hj => ?_, fun j hj => ?_, (oth 16 (by omega) (by omega) (by omega) (by omega)).trans h.cl, (oth 17 (by omega) (by omega) (by omega) (by omega)).trans h.cn, (oth 18 (by omega) (by omega) (by omega) (by omega)).trans h.ct, (oth 19 (by omega) (by omega) (by omega) (by omega)).trans h.ca, (oth 20 (by omega) (by omega) (by omega) (by omega)).trans h.ck,
    fun i => (R4.fz i).trans ((R3.fz i).trans ((R2.fz i).trans ((R1.fz i).trans (h.fz i)))), fun j hj => ?_, row_heap h.rl fun k e => hh k (by have := h.rl.lt k e; omega), ints_heap h.rk (by rw [hz]; exact Nat.le_refl _) fun a e _ => hh _ (by have := (h.ak a e).1; omega), fun j k hj hk hjk => ?_, fun j hj => ?_, fun a e => ⟨(h.ak a e).1, fun j hj => ?_, (h.ak a e).2.2⟩, fun a e => by rw [hz]; exact h.kl a e⟩
  · show _ = some (Value.slice (ad (upd (upd m.dA f (m.dA g)) g none j)) (List.length (upd (upd s.data f (s.data g)) g [] j)) (upd (upd m.dc f (m.dc g)) g 0 j))
    by_cases e1 : j = g
    · subst e1; rw [upd_same, upd_same, upd_same]; exact (R4.other _ (by omega)).trans R3.cell
    · rw [upd_other _ _ e1, upd_other _ _ e1, upd_other _ _ e1]
      by_cases e2 : j = f
      · subst e2; rw [upd_same, upd_same, upd_same]; exact (R4.other _ (by omega)).trans ((R3.other _ (by omega)).trans ((R2.other _ (by omega)).trans R1.cell))
      · rw [upd_other _ _ e2, upd_other _ _ e2, upd_other _ _ e2]; exact (oth _ (by omega) (by omega) (by omega) (by omega)).trans (h.cd j hj)
  · show _ = some (Value.int .i64 ((upd (upd s.dur f (s.dur g)) g 0 j : Nat) : Int))
    by_cases e1 : j = g
    · subst e1; rw [upd_same]; exact R4.cell
    · rw [upd_other _ _ e1]
      by_cases e2 : j = f
      · subst e2; rw [upd_same]; exact (R4.other _ (by omega)).trans ((R3.other _ (by omega)).trans R2.cell)
      · rw [upd_other _ _ e2]; exact (oth _ (by omega) (by omega) (by omega) (by omega)).trans (h.cu j hj)
  · show World.ownsRow _ _ _ _ (Value.slice (ad (upd (upd m.dA f (m.dA g)) g none j)) (List.length (upd (upd s.data f (s.data g)) g [] j)) (upd (upd m.dc f (m.dc g)) g 0 j)) (List.length (upd (upd s.data f (s.data g)) g [] j)) (bytesV (upd (upd s.data f (s.data g)) g [] j))
    by_cases e1 : j = g
    · subst e1; rw [upd_same, upd_same, upd_same]; exact none_row _
    · rw [upd_other _ _ e1, upd_other _ _ e1, upd_other _ _ e1]
      by_cases e2 : j = f
      · subst e2; rw [upd_same, upd_same, upd_same]; exact row_heap (h.rd g hg) fun k e => hh k (by have := (h.rd g hg).lt k e; omega)
      · rw [upd_other _ _ e2, upd_other _ _ e2, upd_other _ _ e2]; exact row_heap (h.rd j hj) fun k e => hh k (by have := (h.rd j hj).lt k e; omega)
  · by_cases e1 : j = g
    · subst e1; exact .inl hAg
    · by_cases e2 : j = f
      · subst e2
        rw [hAF]
        by_cases e3 : k = g
        · subst e3; rw [hAg]; cases m.dA k <;> simp
        · rw [hAf k hk e3 (Ne.symm hjk)]
          exact h.ap g k hg hk (Ne.symm e3)
      · rw [hAf j hj e1 e2]
        by_cases e3 : k = g
        · subst e3; rw [hAg]; cases m.dA j <;> simp
        · by_cases e4 : k = f
          · subst e4; rw [hAF]; exact h.ap j g hj hg e1
          · rw [hAf k hk e3 e4]; exact h.ap j k hj hk hjk
  · obtain ⟨i, hi, e | e⟩ := hAany j hj
    · exact .inl e
    · rw [e]; exact h.al i hi
  · obtain ⟨i, hi, e2 | e2⟩ := hAany j hj
    · rw [e2]; simp
    · rw [e2]; exact (h.ak a e).2.1 i hi
theorem Stp.turned (h : DiskAt w b m s) {f g : Nat} (hf : f < 8) (hg : g < 8) {i1 i2 i3 i4 : Nat} {v1 v2 v3 v4 : Value} (R1 : Rest w w1 b i1 v1) (R2 : Rest w1 w2 b i2 v2) (R3 : Rest w2 w3 b i3 v3) (R4 : Rest w3 w4 b i4 v4) (ho : w4.os = w.os) (ht : w4.tape = w.tape) (hp : w4.output = w.output) : Stp b m w (turnM m f g) w4 := by
  refine ⟨ho, ht, hp, by rw [R4.size, R3.size, R2.size, R1.size]; exact Nat.le_refl _, fun k hk hn => ?_, fun k hk => ?_⟩
  · have hkb : k ≠ b := fun e => hn (.inl e)
    exact (R4.heap k hkb).trans ((R3.heap k hkb).trans ((R2.heap k hkb).trans (R1.heap k hkb)))
  · rcases hk with e | ⟨j, hj, e⟩ | e | e
    · exact .inl (.inl e)
    · have e : upd (upd m.dA f (m.dA g)) g none j = some k := e
      by_cases e1 : j = g
      · subst e1; rw [upd_same] at e; cases e
      · rw [upd_other _ _ e1] at e
        by_cases e2 : j = f
        · subst e2; rw [upd_same] at e; exact .inl (.inr (.inl ⟨g, hg, e⟩))
        · rw [upd_other _ _ e2] at e; exact .inl (.inr (.inl ⟨j, hj, e⟩))
    · exact .inl (.inr (.inr (.inl e)))
    · exact .inl (.inr (.inr (.inr e)))
theorem Rest.drew {w w' : World} {b i : Nat} {v : Value} (h : Rest w w' b i v) : Rest w w'.drew b i v := ⟨h.cell, h.other, h.fz, h.heap, h.size⟩
theorem Rest.drewL {w w' : World} {b i : Nat} {v : Value} (h : Rest w w' b i v) : Rest w.drew w' b i v := ⟨h.cell, h.other, h.fz, h.heap, h.size⟩
end
end Go.Proofs.Ytmnimcdbfolhaaa
