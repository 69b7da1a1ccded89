/- The walk of slices.Concat at two lists of entries. -/
import Derived.Test.YtminphldifncaaaDoorW5
set_option linter.unusedSimpArgs false
set_option linter.unusedVariables false
namespace Go.Proofs.YtminphldifncaaaDoor
open Go.RowKit LG
attribute [local go_sem] alloc_drewN setCell_drewN shape_drewN

def growRen : Go.Shelf.Ren := ⟨fun | 4 => 57 | n => n, fun | 22 => 32 | 25 => 34 | n => n, fun n => n⟩
theorem growLays : Lays8.n4 Tryd.prog growRen where
  mixed := by kernel_rfl
  f4 := ⟨"slices.Grow[[]bourne/api.Entry,bourne/api.Entry]", by kernel_rfl, Tryd.func57.trans (congrArg some (by kernel_rfl))⟩
  t0 := Tryd.underlying0
  a0 := Tryd.isAgg0
  z0 := Tryd.sizeOf0
  v0 := Tryd.zeroValue0
  t3 := Tryd.underlying3
  a3 := Tryd.isAgg3
  z3 := Tryd.sizeOf3
  v3 := Tryd.zeroValue3
  t4 := Tryd.underlying4
  a4 := Tryd.isAgg4
  z4 := Tryd.sizeOf4
  v4 := Tryd.zeroValue4
  t9 := Tryd.underlying9
  a9 := Tryd.isAgg9
  z9 := Tryd.sizeOf9
  v9 := Tryd.zeroValue9
  t20 := Tryd.underlying20
  a20 := Tryd.isAgg20
  z20 := Tryd.sizeOf20
  v20 := Tryd.zeroValue20
  t22 := Tryd.underlying32
  a22 := Tryd.isAgg32
  z22 := Tryd.sizeOf32
  v22 := Tryd.zeroValue32
/-- A new row with room for n entries. -/
theorem grow_any (n : Nat) (hn : 0 < n) (hb : n ≤ 10000000) (w : World) : Calls Tryd.prog 57 #[.slice none 0 0, .int .i64 n] w fun e w' => ∃ v, e = .returned v ∧ w'.ownsRow w.heap.size 34 7 v 0 [] ∧ Below w.heap.size w w' := by
  obtain ⟨i0, hi, hz0, hz1, hz2⟩ := info_parts Tryd.infoEntry
  have := Any8.slices_Grow_grow growLays i0 _ hi hz0 (by omega) none 0 0 n [] w (Nat.le_refl _) (by omega) (by rw [hz2]; omega) (by omega) (by simp) (fun _ => rfl) (fun a h => by cases h)
  refine this.mono ?_
  rintro e w' ⟨rfl, rfl⟩
  refine ⟨_, rfl, ?_, ((Below.refl _ _).drew).alloc (Nat.le_refl _) _⟩
  have hc : grownCap w (0 + n) 0 (growRen.t 25) ≤ maxLen := grownCap_le_maxLen w _ _ _ (by unfold maxLen; omega)
  have hg : 0 + n ≤ grownCap w (0 + n) 0 (growRen.t 25) := grownCap_ge w _ _ _
  generalize grownCap w (0 + n) 0 (growRen.t 25) = G at hc hg ⊢
  exact World.ownsRow_made w.drew _ _ (Nat.le_refl _) hc (by simp [size_zeroCells, Value.cells]; omega)
theorem below_own {W w1 : World} {n₀ e size k : Nat} {v : Value} {xs : List Value} (hrow : W.ownsRow n₀ e size v k xs) (hn₀ : n₀ ≤ W.heap.size) (hgrow : W.grownBy w1 v.ownBlock) : Below n₀ W w1 := by
  refine (Below.refl n₀ W).grown hgrow hn₀ fun j ej => ?_
  rcases hrow.2 with ⟨rfl, _⟩ | ⟨g, cap, cur, rfl, hb, _, _⟩
  · simp [Value.ownBlock] at ej
  · obtain rfl : g = j := by simpa [Value.ownBlock] using ej
    exact hb
set_option maxRecDepth 100000 in
set_option maxHeartbeats 8000000 in
theorem concat_any (l e : List Et) (C1 C2 : Option Addr) (c1 c2 g : Nat) (w : World) {B : Nat} (h1 : EntsAt w B C1 l) (h2 : EntsAt w B C2 e) (hB : B ≤ w.heap.size) (hl1 : l.length ≤ 1000000) (hl2 : e.length ≤ 1000000) (hpos : 0 < l.length + e.length)
    (hg : g < w.heap.size) (g0 : w.cell? ⟨g, 0, none⟩ = some (.slice C1 l.length c1)) (g1 : w.cell? ⟨g, 1, none⟩ = some (.slice C2 e.length c2)) :
    Calls Tryd.prog 33 #[.slice (some ⟨g, 0, none⟩) 2 2] w fun x w' => ∃ v, x = .returned v ∧ w'.ownsRow w.heap.size 34 7 v (l ++ e).length (rowE (l ++ e)) ∧ Below w.heap.size w w' := by
  obtain ⟨i0, hi, hz0, hz1, hz2⟩ := info_parts Tryd.infoEntry
  have KG : Hid (Calls Tryd.prog 57 #[.slice none 0 0, .int .i64 ((l.length : Int) + (e.length : Int))] w fun e w' => ∃ v, e = .returned v ∧ w'.ownsRow w.heap.size 34 7 v 0 [] ∧ Below w.heap.size w w') := by
    have := grow_any (l.length + e.length) hpos (by omega) w
    rwa [Int.natCast_add] at this
  have H1 := Lib.hid h1
  have H2 := Lib.hid h2
  clear h1 h2
  go_enter Tryd.func33, Tryd.ntmps33
  go_wp2_with fail
  refine wp_loop_rounds 3 ?_
  rw [rounds_succ]
  go_wp2_with fail
  rw [rounds_succ]
  go_wp2_with fail
  rw [rounds_succ]
  go_wp2_with (first | (go_at_call 57; (with_reducible refine KG.out.mono ?_); rintro x1 w1 ⟨v1, rfl, hr1, hb1⟩) | fail)
  have HR1 := Lib.hid hr1
  have HB1 := Lib.hid hb1
  have k0 : w1.cell? ⟨g, 0, none⟩ = some (.slice C1 l.length c1) := (hb1.cell (p := ⟨g, 0, none⟩) hg).trans g0
  have k1 : w1.cell? ⟨g, 1, none⟩ = some (.slice C2 e.length c2) := (hb1.cell (p := ⟨g, 1, none⟩) hg).trans g1
  have hz1' := hb1.size
  have hgw1 : g < w1.heap.size := by omega
  have R1 := Lib.hid (reads_ents (H1.out.below (hb1.mono hB)))
  clear hr1 hb1
  refine wp_loop_rounds 3 ?_
  rw [rounds_succ]
  go_wp2_with (first | (at_builtin; refine wpList_append_any _ rfl _ _ 32 rfl w.heap.size 34 i0 _ 7 56 Tryd.underlying32 hi hz0 hz1 hz2 rfl (by decide) v1 0 [] rfl HR1.out B C1 l.length c1 (rowE l) rfl R1.out (rowE_one l) (by unfold maxLen; omega) (by omega) (by omega) ?_; intro v2 w2 hown2 hgrow2 _) | fail)
  have hbA := below_own HR1.out hz1' hgrow2
  have HBA := Lib.hid (HB1.out.trans hbA)
  have hzA := hbA.size
  have p1 : w2.cell? ⟨g, 1, none⟩ = some (.slice C2 e.length c2) := (hbA.cell (p := ⟨g, 1, none⟩) hg).trans k1
  have hgw2 : g < w2.heap.size := by omega
  have HO2 := Lib.hid hown2
  have R2 := Lib.hid (reads_ents (H2.out.below (HBA.out.mono hB)))
  clear hown2 hgrow2 hbA
  rw [rounds_succ]
  go_wp2_with (first | (at_builtin; refine wpList_append_any _ rfl _ _ 32 rfl w.heap.size 34 i0 _ 7 56 Tryd.underlying32 hi hz0 hz1 hz2 rfl (by decide) v2 (0 + l.length) ([] ++ rowE l) rfl HO2.out B C2 e.length c2 (rowE e) rfl R2.out (rowE_one e) (by unfold maxLen; omega) (by omega) (by omega) ?_; intro v3 w3 hown3 hgrow3 _) | fail)
  have hbB := below_own HO2.out (by omega) hgrow3
  have HBB := Lib.hid (HBA.out.trans hbB)
  have HO3 := Lib.hid hown3
  clear hown3 hgrow3 hbB
  rw [rounds_succ]
  go_wp2_with fail
  go_ret
  refine ⟨v3, rfl, ?_, HBB.out⟩
  have := HO3.out
  rw [List.nil_append, ← rowE_append, Nat.zero_add, ← List.length_append] at this
  exact this
end Go.Proofs.YtminphldifncaaaDoor
