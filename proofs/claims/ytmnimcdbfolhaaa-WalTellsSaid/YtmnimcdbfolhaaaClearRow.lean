/- clear of a part of a row of the call's own. -/
import Derived.Test.YtmnimcdbfolhaaaAppSrc
import Derived.Lib.SliceRun
set_option linter.unusedSimpArgs false
set_option linter.unusedVariables false
namespace Go.Proofs.Ytmnimcdbfolhaaa
open Go Go.RowKit
section
variable {P : Program} (w : World)
theorem run_clear_own (t ty e : TypeId) (z : Value) (size : Nat) (ht : P.underlying t = some (.slice e)) (hz : ∀ w, (zeroValue e).run P w = .ok z w) (hzs : z.cells.size = size) (h1 : ∀ v ∈ z.cells.toList, v.oneCell' = true)
    (base : Nat) (A : Option Addr) (n c : Nat) (xs : List Value) (hown : w.ownsRow base e size (.slice A n c) n xs) (lo m cc : Nat) (X : Option Addr) (hX : 0 < m → ∃ g, A = some ⟨g, 0, none⟩ ∧ X = some ⟨g, lo * size, none⟩) (hm : lo + m ≤ n) :
    ∃ w', (Builtin.clear_ #[t] ty #[.slice X m cc]).run P w = .ok (.tuple #[]) w' ∧
      w'.ownsRow base e size (.slice A n c) n (xs.take (lo * size) ++ (Builtin.zeroCells z.cells m).toList ++ xs.drop ((lo + m) * size)) ∧ w.grownBy w' (Value.slice A n c).ownBlock := by
  subst hzs
  rcases Nat.eq_zero_or_pos m with rfl | hpos
  · refine ⟨w, ?_, ?_, World.grownBy.refl w _⟩
    · cases X <;> simp [Builtin.clear_, run_underlying ht]
    · have hz0 : (Builtin.zeroCells z.cells 0).toList = [] := by simp [Builtin.zeroCells]
      rw [hz0, List.append_nil, Nat.add_zero, List.take_append_drop]
      exact hown
  · obtain ⟨g, rfl, rfl⟩ := hX hpos
    rcases hown.2 with ⟨e1, _⟩ | ⟨g', cap, cur, e1, hb, hg, hnc, hcm, hcs, htake⟩
    · cases e1
    · simp only [Value.slice.injEq, Option.some.injEq, Addr.mk.injEq, and_true, true_and] at e1
      obtain ⟨rfl, rfl⟩ := e1
      have hzl : (Builtin.zeroCells z.cells m).toList.length = m * z.cells.size := by simp [Builtin.zeroCells]
      have hle : lo * z.cells.size + m * z.cells.size ≤ n * z.cells.size := by rw [← Nat.add_mul]; exact Nat.mul_le_mul_right _ hm
      have hle2 : n * z.cells.size ≤ c * z.cells.size := Nat.mul_le_mul_right _ hnc
      have hst := run_storeCells_at P g (lo * z.cells.size) e (Builtin.zeroCells z.cells m).toList 0 cur w hg (by rw [hzl, hcs]; omega) (fun v hv => by
        simp only [Builtin.zeroCells, Array.toList_map, List.mem_map] at hv
        obtain ⟨i, hi, rfl⟩ := hv
        have hsz : 0 < z.cells.size := by
          rcases Nat.eq_zero_or_pos z.cells.size with h | h
          · simp [h] at hi
          · exact h
        have hlt : i % z.cells.size < z.cells.size := Nat.mod_lt _ hsz
        have e2 : z.cells[i % z.cells.size]! = z.cells[i % z.cells.size]'hlt := getElem!_pos z.cells _ hlt
        rw [e2]
        exact h1 _ (by simp))
      simp only [Nat.add_zero] at hst
      obtain ⟨cur', hcur⟩ : ∃ x, x = (List.take (lo * z.cells.size) cur.toList ++ (Builtin.zeroCells z.cells m).toList ++ List.drop (lo * z.cells.size + (Builtin.zeroCells z.cells m).toList.length) cur.toList).toArray := ⟨_, rfl⟩
      rw [← hcur] at hst
      refine ⟨w.setRow g cur', ?_, ⟨?_, .inr ⟨g, c, cur', rfl, hb, setRow_heap w g cur _ e _ hg, hnc, hcm, ?_, ?_⟩⟩, ⟨rfl, rfl, rfl, by simp, fun k _ hk => setRow_other w g k _ (fun e => hk (by simp [Value.ownBlock, e]))⟩⟩
      · obtain ⟨k, rfl⟩ : ∃ k, m = k + 1 := ⟨m - 1, by omega⟩
        simp [Builtin.clear_, run_underlying ht, hz, hst]
      · simp only [List.length_append, List.length_take, List.length_drop, hzl, hown.1, Nat.add_mul]; omega
      · rw [hcur]; simp only [List.size_toArray, List.length_append, List.length_take, List.length_drop, Array.length_toList, hzl, hcs]; omega
      · rw [← htake]
        have e0 : lo * z.cells.size ≤ n * z.cells.size := by omega
        rw [List.take_take, Nat.min_eq_left e0]
        have el : (List.take (lo * z.cells.size) cur.toList ++ (Builtin.zeroCells z.cells m).toList).length = (lo + m) * z.cells.size := by
          rw [List.length_append, List.length_take, Array.length_toList, hzl, Nat.add_mul]; omega
        rw [hcur]
        show List.take _ (_ ++ _ ++ _) = _
        rw [List.take_append, el, List.take_of_length_le (by rw [el, Nat.add_mul]; omega), hzl, ← Nat.add_mul, List.drop_take]

theorem wp_clear_own {o : Oper} {a : Act} {K : Act → World → Prop} {Q : Exit → Act → World → Prop} (x : Operand) (t e : TypeId)
    (ho : o.op = .call { callee := .builtin .clear, args := #[x], argTypes := #[t] })
    (z : Value) (size : Nat) (ht : P.underlying t = some (.slice e)) (hz : ∀ w, (zeroValue e).run P w = .ok z w) (hzs : z.cells.size = size) (h1 : ∀ v ∈ z.cells.toList, v.oneCell' = true)
    (base : Nat) (A : Option Addr) (n c : Nat) (xs : List Value) (hown : w.ownsRow base e size (.slice A n c) n xs) (lo m cc : Nat) (X : Option Addr) (hx : a.eval x = .slice X m cc) (hX : 0 < m → ∃ g, A = some ⟨g, 0, none⟩ ∧ X = some ⟨g, lo * size, none⟩) (hm : lo + m ≤ n)
    (h : ∀ w', w'.ownsRow base e size (.slice A n c) n (xs.take (lo * size) ++ (Builtin.zeroCells z.cells m).toList ++ xs.drop ((lo + m) * size)) → w.grownBy w' (Value.slice A n c).ownBlock → K (a.put o.dst (.tuple #[])) w') : o.wp P a w K Q := by
  obtain ⟨w', hrun, h2, h3⟩ := run_clear_own (P := P) w t o.type e z size ht hz hzs h1 base A n c xs hown lo m cc X hX hm
  unfold Oper.wp execOp
  simp only [ho, resolve, invoke, builtin, Sem.run_bind, Sem.run_pure, Result.andThen_ok, List.map_toArray, List.map_cons, List.map_nil, hx, hrun]
  exact h w' h2 h3
theorem step_clear_own {ops : Array Oper} {o : Oper} {a : Act} {K : Act → World → Prop} {Q : Exit → Act → World → Prop} {E : Prop} (hgd : o.guard = none) (x : Operand) (t e : TypeId)
    (ho : o.op = .call { callee := .builtin .clear, args := #[x], argTypes := #[t] })
    (z : Value) (size : Nat) (ht : P.underlying t = some (.slice e)) (hz : ∀ w, (zeroValue e).run P w = .ok z w) (hzs : z.cells.size = size) (h1 : ∀ v ∈ z.cells.toList, v.oneCell' = true)
    (base : Nat) (A : Option Addr) (n c : Nat) (xs : List Value) (hown : w.ownsRow base e size (.slice A n c) n xs) (lo m cc : Nat) (X : Option Addr) (hx : a.eval x = .slice X m cc) (hX : 0 < m → ∃ g, A = some ⟨g, 0, none⟩ ∧ X = some ⟨g, lo * size, none⟩) (hm : lo + m ≤ n)
    (h : ∀ w', w'.ownsRow base e size (.slice A n c) n (xs.take (lo * size) ++ (Builtin.zeroCells z.cells m).toList ++ xs.drop ((lo + m) * size)) → w.grownBy w' (Value.slice A n c).ownBlock → K (a.put o.dst (.tuple #[])) w') :
    if Region.wanted o (yielded ops a.tmps) = true then Oper.wp P o a w K Q else E := by
  have hw : Region.wanted o (yielded ops a.tmps) = true := by simp [Region.wanted, hgd]
  rw [if_pos hw]
  exact wp_clear_own w x t e ho z size ht hz hzs h1 base A n c xs hown lo m cc X hx hX hm h
theorem wpList_clear_own {ops : Array Oper} {rest : List Oper} {o : Oper} {a : Act} {Q : Exit → Act → World → Prop} (hgd : o.guard = none) (x : Operand) (t e : TypeId)
    (ho : o.op = .call { callee := .builtin .clear, args := #[x], argTypes := #[t] })
    (z : Value) (size : Nat) (ht : P.underlying t = some (.slice e)) (hz : ∀ w, (zeroValue e).run P w = .ok z w) (hzs : z.cells.size = size) (h1 : ∀ v ∈ z.cells.toList, v.oneCell' = true)
    (base : Nat) (A : Option Addr) (n c : Nat) (xs : List Value) (hown : w.ownsRow base e size (.slice A n c) n xs) (lo m cc : Nat) (X : Option Addr) (hx : a.eval x = .slice X m cc) (hX : 0 < m → ∃ g, A = some ⟨g, 0, none⟩ ∧ X = some ⟨g, lo * size, none⟩) (hm : lo + m ≤ n)
    (h : ∀ w', w'.ownsRow base e size (.slice A n c) n (xs.take (lo * size) ++ (Builtin.zeroCells z.cells m).toList ++ xs.drop ((lo + m) * size)) → w.grownBy w' (Value.slice A n c).ownBlock → wpList P ops Q rest (a.put o.dst (.tuple #[])) w') : wpList P ops Q (o :: rest) a w :=
  wpList_plain hgd fun _ hK => wp_clear_own w x t e ho z size ht hz hzs h1 base A n c xs hown lo m cc X hx hX hm fun w' h2 h3 => hK _ _ (h w' h2 h3)
end
end Go.Proofs.Ytmnimcdbfolhaaa
