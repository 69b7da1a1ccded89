/- The walks of New, Clone, Arm, Flush. -/
import Derived.Test.YtmnimcdbfolhaaaW6
set_option linter.unusedSimpArgs false
set_option linter.unusedVariables false
namespace Go.Proofs.Ytmnimcdbfolhaaa
open Go.RowKit DK
attribute [local go_sem] alloc_drewN setCell_drewN shape_drewN
def zeroDisk : List Value := [.slice none 0 0, .int .i64 0, .slice none 0 0, .int .i64 0, .slice none 0 0, .int .i64 0, .slice none 0 0, .int .i64 0, .slice none 0 0, .int .i64 0, .slice none 0 0, .int .i64 0, .slice none 0 0, .int .i64 0, .slice none 0 0, .int .i64 0, .slice none 0 0, .bool false, .int .i64 0, .int .i64 0, .slice none 0 0]
theorem disk_new (w : World) : DiskAt (w.alloc (.cells zeroDisk.toArray 75)) w.heap.size Dm.zero St.zero := by
  have hc : ∀ i v, zeroDisk[i]? = some v → (w.alloc (.cells zeroDisk.toArray 75)).cell? ⟨w.heap.size, i, none⟩ = some v := fun i v h => by rw [World.cell?_alloc_new]; simpa using h
  refine ⟨fun f hf => hc _ _ ?_, fun f hf => hc _ _ ?_, hc 16 _ rfl, hc 17 _ rfl, hc 18 _ rfl, hc 19 _ rfl, hc 20 _ rfl, fun i => World.frozen?_alloc_new (w := w) _ _ i, fun f hf => World.ownsRow_nil _ _ _ _, World.ownsRow_nil _ _ _ _, fun h => absurd h (by simp [St.zero]), fun _ _ _ _ _ => .inl rfl, fun _ _ => .inl rfl, (fun a h => by cases h), (fun a h => by cases h)⟩
  · match f, hf with
    | 0, _ => rfl
    | 1, _ => rfl
    | 2, _ => rfl
    | 3, _ => rfl
    | 4, _ => rfl
    | 5, _ => rfl
    | 6, _ => rfl
    | 7, _ => rfl
  · match f, hf with
    | 0, _ => rfl
    | 1, _ => rfl
    | 2, _ => rfl
    | 3, _ => rfl
    | 4, _ => rfl
    | 5, _ => rfl
    | 6, _ => rfl
    | 7, _ => rfl
theorem new_any (w : World) : Calls Try.prog 15 #[] w fun e w' => e = .returned (dp w.heap.size) ∧ DiskAt w' w.heap.size Dm.zero St.zero ∧ Below w.heap.size w w' := by
  have h := Lib.hid (disk_new w)
  have hb := Lib.hid (below_new w (.cells zeroDisk.toArray 75))
  go_enter Try.func15, Try.ntmps15
  go_wp2_with fail
  go_ret
  exact ⟨rfl, h.out, hb.out⟩
set_option maxRecDepth 100000 in
theorem Try.infoInt : ∃ i, Try.prog.info? 3 = some i ∧ i.zero = some (.int .i64 0) ∧ i.size = 1 ∧ i.bytes = 8 := ⟨_, rfl, by kernel_rfl, by kernel_rfl, by kernel_rfl⟩
theorem reads_ints {w : World} {B : Nat} {A : Option Addr} {l : List Int} (h : IntsAt w B A l) : Reads w B 1 A l.length (l.map (Value.int .i64)) := by
  refine ⟨by simp, fun hl => ?_⟩
  obtain ⟨b, off, rfl, hb, hc⟩ := h hl
  refine ⟨_, rfl, hb, fun j u hj => ?_⟩
  rw [Addr.add_lit]
  have hlt : j < l.length := by have := (List.getElem?_eq_some_iff.1 hj).1; simpa using this
  rw [hc j hlt]
  rw [← hj]
  simp [intF, List.getD_eq_getElem?_getD, hlt]
theorem clone_any (A : Option Addr) (c : Nat) (l : List Int) (w : World) (h : IntsAt w w.heap.size A l) (hl : l.length ≤ 1000000000000) :
    Calls Try.prog 81 #[.slice A l.length c] w fun e w' => ∃ A' c', e = .returned (.slice A' l.length c') ∧ IntsAt w' w'.heap.size A' l ∧ (∀ a, A' = some a → w.heap.size ≤ a.block ∧ a.block < w'.heap.size) ∧ Below w.heap.size w w' := by
  obtain ⟨i0, hi, hy0, hy1, hy2⟩ := Try.infoInt
  have qT : ∀ (w : World) (a : Option Addr) (n c : Nat), (binOp .eql 43 (.slice a n c) (.slice none 0 0)).run Try.prog w = .ok (.bool a.isNone) w := fun w a n c => Lib.run_eql_slice_nil w _ _ a n c 0 0 Try.underlying43
  cases A with
  | none =>
    have hl0 : l = [] := by
      rcases l with _ | ⟨x, r⟩
      · rfl
      · obtain ⟨b, off, e, _⟩ := h (by simp)
        cases e
    subst hl0
    clear h
    go_enter Try.func81, Try.ntmps81
    go_wp2_with fail
    go_ret
    exact ⟨none, 0, rfl, (fun h => absurd h (by simp)), (fun a e => by cases e), Below.refl _ _⟩
  | some a =>
    have hr := Lib.hid (reads_ints h)
    obtain ⟨n, hn⟩ : ∃ n, Hid (n = l.length) := ⟨_, rfl⟩
    rw [← hn.out] at hr hl ⊢
    clear h
    have hO : (w.alloc (.cells #[] 3)).ownsRow w.heap.size 3 1 (.slice (some ⟨w.heap.size, 0, none⟩) 0 0) 0 [] := World.ownsRow_made w #[] 0 (Nat.le_refl _) (Nat.zero_le _) rfl
    replace hO := Lib.hid hO
    go_enter Try.func81, Try.ntmps81
    go_wp2_with (at_builtin; refine wpList_append_any _ (by rfl) _ _ 43 (by rfl) w.heap.size 3 i0 _ 1 8 Try.underlying43 hi hy0 hy1 hy2 rfl (by decide) _ 0 [] (by rfl) hO.out _ (some a) n c _ (by rfl) (hr.out.alloc (Nat.le_refl _) _) (fun u hu => by obtain ⟨x, _, rfl⟩ := List.mem_map.1 hu; rfl) (by unfold maxLen; omega) (by omega) (by simp) ?_; intro v' w2 hO2 hG2 hob2)
    go_ret
    rw [List.nil_append, Nat.zero_add, hn.out] at hO2
    obtain ⟨A', c', e1, hA'⟩ := ints_of_owns hO2
    refine ⟨A', c', ?_, hA', fun q hq => ?_, (below_new w _).trans (below_own hO.out (by simp) hG2)⟩
    · rw [hn.out, ← e1]; rfl
    · have hl := hO2.lt q.block (by rw [e1, hq]; rfl)
      exact hl
end Go.Proofs.Ytmnimcdbfolhaaa
