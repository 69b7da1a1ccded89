/- The examples of the statements' head. -/
import Derived.Test.YtanhhdfffggdmaaX5
namespace Go.Proofs.Ytanhhdfffggdmaa
open Go.RowKit FM
attribute [local go_sem] alloc_drewN setCell_drewN shape_drewN

def exA : List Arc := [(0, 1, 2), (0, 2, 2), (1, 3, 1), (2, 3, 4)]
def exR : Int → Bool := fun u => decide (u = 0 ∨ u = 1)
theorem exMax : MaxOf 4 exA 0 3 [1, 2, 1, 2] 3 exR := by
  refine ⟨by simp [feas, exA], fun v h1 h2 => ?_, by simp [exc, exA, ind], by simp [exR], by simp [exR], by simp [closed, exA, exR], fun S h1 h2 u hu => ?_⟩
  · have a1 : ((0 : Int) == v) = false := by simp; omega
    have a2 : ((3 : Int) == v) = false := by simp; omega
    by_cases b1 : v = 1
    · subst b1; simp [exc, exA, ind]
    · by_cases b2 : v = 2
      · subst b2; simp [exc, exA, ind]
      · have c1 : ((1 : Int) == v) = false := by simp; omega
        have c2 : ((2 : Int) == v) = false := by simp; omega
        simp [exc, exA, ind, a1, a2, c1, c2]
  · have h3 := (h2.1 h1 (by decide) : S 1 = true)
    have : u = 0 ∨ u = 1 := of_decide_eq_true hu
    rcases this with rfl | rfl
    · exact h1
    · exact h3
theorem exMax0 : MaxOf 2 [] 0 1 [] 0 (fun u => decide (u = 0)) := by
  refine ⟨trivial, fun v _ _ => rfl, rfl, by simp, by simp, trivial, fun S h1 _ u hu => ?_⟩
  have : u = 0 := of_decide_eq_true hu
  rw [this]; exact h1
theorem exValid : Valid 4 exA 0 3 := by
  refine ⟨by omega, by omega, by simp [exA], fun k a hk => ?_, by omega, by omega, by omega, by omega, by omega⟩
  have hl := (List.getElem?_eq_some_iff.1 hk).1
  have : k = 0 ∨ k = 1 ∨ k = 2 ∨ k = 3 := by simp [exA] at hl; omega
  rcases this with rfl | rfl | rfl | rfl <;> (simp [exA] at hk; subst hk; simp [good])
theorem exIn : inN 4 exA := (valid_facts (n := 4) exValid).1
theorem exSide : sideL 4 exR = [0, 1] := by decide
theorem exMem : memB [0, 1] = exR := by
  funext u; unfold memB exR; simp
theorem exOk {f : List Int} {v : Int} {R : Int → Bool} (h : MaxOf 4 exA 0 3 f v R) : CheckOk 4 exA 0 3 f [0, 1] := by
  obtain ⟨rfl, rfl⟩ := h.same exIn (by omega) (by omega) exMax
  refine ⟨exValid, feas_len h.feas, ⟨fun k hk => ?_, by simp, by simp⟩, h.feas, fun v _ h1 h2 => h.keeps v h1 h2, ?_⟩
  · have : k = 0 ∨ k = 1 := by simp at hk; omega
    rcases this with rfl | rfl <;> simp [okAt]
  · rw [exMem, h.value]; decide
theorem exNo1 {f : List Int} {v : Int} {R : Int → Bool} (h : MaxOf 4 exA 0 3 f v R) : ¬ CheckOk 4 exA 0 3 f [0] := fun g => by
  obtain ⟨rfl, rfl⟩ := h.same exIn (by omega) (by omega) exMax
  have h1 := g.2.2.2.2.2
  rw [h.value, show cut exA (memB [0]) = 4 by decide] at h1
  omega
theorem exNo2 : ¬ CheckOk 4 exA 0 3 [0, 0, 0, 0] [0, 1] := fun g => by
  have h1 := g.2.2.2.2.2
  rw [exMem, show cut exA exR = 3 by decide, show exc exA [0, 0, 0, 0] 0 = 0 by decide] at h1
  omega
theorem ArcsAt.step {w w' : World} {C : Option Addr} {A : List Arc} (h : ArcsAt w w.heap.size C A) (hb : Below w.heap.size w w') : ArcsAt w' w'.heap.size C A := (h.below hb).more hb.size
theorem ints_step {w w' : World} {S : Option Addr} {l : List Int} (h : IntsAt w w.heap.size S l) (hb : Below w.heap.size w w') : IntsAt w' w'.heap.size S l := (CellsAt.below h hb).more hb.size
theorem below_new (w : World) (o : Obj) : Below w.heap.size w (w.alloc o) := (Below.refl _ _).alloc (Nat.le_refl _) o
theorem check_any (n s t : Int) (C : Option Addr) (cc : Nat) (A : List Arc) (FA : Option Addr) (fc : Nat) (fl : List Int) (SA : Option Addr) (sc : Nat) (side : List Int) (w : World) (hC : ArcsAt w w.heap.size C A) (hFl : IntsAt w w.heap.size FA fl) (hSd : IntsAt w w.heap.size SA side)
    (hA : A.length ≤ 9223372036854775807) (hl1 : fl.length ≤ 9223372036854775807) (hl2 : side.length ≤ 9223372036854775807) :
    Calls Try.prog 14 #[.int .i64 n, .slice C A.length cc, .int .i64 s, .int .i64 t, .slice FA fl.length fc, .slice SA side.length sc] w (CheckSaid n A s t fl side w) := by
  by_cases hV : Valid n A s t
  · by_cases hl : fl.length = A.length
    · obtain ⟨n, rfl⟩ := Int.eq_ofNat_of_zero_le (show 0 ≤ n by have := hV.1; omega)
      obtain ⟨s, rfl⟩ := Int.eq_ofNat_of_zero_le hV.2.2.2.2.1
      obtain ⟨t, rfl⟩ := Int.eq_ofNat_of_zero_le hV.2.2.2.2.2.2.1
      exact check_yes n s t C cc A FA fc fl SA sc side w hC hFl hSd hl2 hV hl
    · exact check_len n s t C cc A FA fc fl SA sc side w hC hA hl1 hV hl
  · exact check_inv n s t C cc A FA fc fl SA sc side w hC hA hV
theorem arcs_ex (w : World) : ArcsAt (w.alloc (.cells #[.int .i64 0, .int .i64 1, .int .i64 2, .int .i64 0, .int .i64 2, .int .i64 2, .int .i64 1, .int .i64 3, .int .i64 1, .int .i64 2, .int .i64 3, .int .i64 4] 37)) (w.heap.size + 1) (some ⟨w.heap.size, 0, none⟩) exA := by
  intro _
  refine ⟨_, 0, rfl, by omega, fun j hj => ?_⟩
  have hj : j < 12 := hj
  rw [new_cell rfl, Nat.zero_add]
  have : j = 0 ∨ j = 1 ∨ j = 2 ∨ j = 3 ∨ j = 4 ∨ j = 5 ∨ j = 6 ∨ j = 7 ∨ j = 8 ∨ j = 9 ∨ j = 10 ∨ j = 11 := by omega
  rcases this with rfl | rfl | rfl | rfl | rfl | rfl | rfl | rfl | rfl | rfl | rfl | rfl <;> rfl
def SmallSaid (w : World) (e : Ending) (w' : World) : Prop := e = .returned (.bool true) ∧ Below w.heap.size w w'
theorem ints_lit (w : World) (l : List Int) (t : TypeId) (cs : Array Value) (h : cs = (l.map (Value.int .i64)).toArray) : IntsAt (w.alloc (.cells cs t)) (w.alloc (.cells cs t)).heap.size (some ⟨w.heap.size, 0, none⟩) l := by
  subst h
  intro _
  refine ⟨_, 0, rfl, by simp, fun j hj => ?_⟩
  rw [new_cell rfl, Nat.zero_add]
  simp [intF, List.getD_eq_getElem?_getD, hj]

set_option maxHeartbeats 1000000 in
set_option maxRecDepth 10000 in
theorem small_any (w : World) : Calls Try.prog 8 #[] w (SmallSaid w) := by
  have hA0 := arcs_ex w
  have hb0 := (Below.refl w.heap.size w).alloc (Nat.le_refl _) (.cells #[.int .i64 0, .int .i64 1, .int .i64 2, .int .i64 0, .int .i64 2, .int .i64 2, .int .i64 1, .int .i64 3, .int .i64 1, .int .i64 2, .int .i64 3, .int .i64 4] 37)
  obtain ⟨w0, hw0⟩ : ∃ w0, w0 = w.alloc (.cells #[.int .i64 0, .int .i64 1, .int .i64 2, .int .i64 0, .int .i64 2, .int .i64 2, .int .i64 1, .int .i64 3, .int .i64 1, .int .i64 2, .int .i64 3, .int .i64 4] 37) := ⟨_, rfl⟩
  rw [← hw0] at hA0 hb0
  have hs0 : w0.heap.size = w.heap.size + 1 := by rw [hw0]; simp
  have H0 := Lib.hid (And.intro hw0 hs0)
  have k1 : Calls Try.prog 10 #[.int .i64 4, .slice (some ⟨w.heap.size, 0, none⟩) 4 4, .int .i64 0, .int .i64 3] w0 (MaxYes w0 4 exA 0 3) := max_yes 4 0 3 _ 4 exA w0 (hA0.more (by omega)) exValid
  have K1 := Lib.hid k1
  clear k1 hs0
  go_enter Try.func8, Try.ntmps8
  go_wp2_with fail
  rw [← H0.out.1]
  clear hw0
  have hA0' := hA0.more (B' := w0.heap.size) (by have := H0.out.2; omega)
  go_wp2_with (go_at_call 10; refine K1.out.mono ?_; rintro e1 w1 ⟨f1, v1, R1, vs1, rfl, hm1, _, _, hs1, hb1⟩; obtain ⟨rfl, rfl⟩ := hm1.same exIn (by omega) (by omega) exMax; rw [exSide] at hs1; obtain ⟨ao1, c1, rfl, hi1⟩ := hs1)
  have hA1 := hA0'.step hb1
  have K2 : Hid (Calls Try.prog 12 #[.int .i64 4, .slice (some ⟨w.heap.size, 0, none⟩) 4 4, .int .i64 0, .int .i64 3] w1 (RouteYes w1 4 exA 0 3)) := route_yes 4 0 3 _ 4 exA w1 hA1 exValid
  go_wp2_with (go_at_call 12; refine K2.out.mono ?_; rintro e2 w2 ⟨f2, v2, R2, vs2, rfl, hm2, _, _, hs2, hb2⟩; obtain ⟨ao2, c2, rfl, hi2⟩ := hs2)
  have hA2 := hA1.step hb2
  have hl2 : f2.length = 4 := feas_len hm2.feas
  have H2 := Lib.hid hl2
  rw [hl2]
  clear hl2
  have K3 : Hid (Calls Try.prog 10 #[.int .i64 4, .slice (some ⟨w.heap.size, 0, none⟩) 4 4, .int .i64 3, .int .i64 3] w2 (MaxNo w2)) := max_no 4 3 3 _ 4 exA w2 hA2 (by decide) (validB_false fun h => h.2.2.2.2.2.2.2.2 rfl)
  go_wp2_with (go_at_call 10; refine K3.out.mono ?_; rintro e3 w3 ⟨rfl, hb3⟩)
  have hA3 := hA2.step hb3
  have K4 : Hid (Calls Try.prog 12 #[.int .i64 3, .slice (some ⟨w.heap.size, 0, none⟩) 4 4, .int .i64 0, .int .i64 2] w3 (RouteNo w3)) := route_no 3 0 2 _ 4 exA w3 hA3 (by decide) (validB_false fun h => by have := (h.2.2.2.1 2 (1, 3, 1) rfl).2.2.2.1; simp at this)
  go_wp2_with (go_at_call 12; refine K4.out.mono ?_; rintro e4 w4 ⟨rfl, hb4⟩)
  have hA4 := hA3.step hb4
  have K5 : Hid (Calls Try.prog 10 #[.int .i64 2, .slice none 0 0, .int .i64 0, .int .i64 1] w4 (MaxYes w4 2 [] 0 1)) := max_yes 2 0 1 none 0 [] w4 (fun h => absurd h (by decide)) ⟨by omega, by omega, by simp, fun k a hk => by simp at hk, by omega, by omega, by omega, by omega, by omega⟩
  go_wp2_with (go_at_call 10; refine K5.out.mono ?_; rintro e5 w5 ⟨f5, v5, R5, vs5, rfl, hm5, _, _, hs5, hb5⟩; obtain ⟨rfl, rfl⟩ := hm5.same (fun a h => by cases h) (by omega) (by omega) exMax0; rw [show sideL 2 (fun u => decide (u = 0)) = [0] by decide] at hs5; obtain ⟨ao5, c5, rfl, hi5⟩ := hs5)
  have b15 := hb2.trans ((hb3.mono hb2.size).trans ((hb4.mono (Nat.le_trans hb2.size hb3.size)).trans (hb5.mono (Nat.le_trans hb2.size (Nat.le_trans hb3.size hb4.size)))))
  have b25 := hb3.trans ((hb4.mono hb3.size).trans (hb5.mono (Nat.le_trans hb3.size hb4.size)))
  have i15 := ints_step hi1 b15
  have i25 := ints_step hi2 b25
  have hA5 := hA4.step hb5
  have b0 : Below w.heap.size w w5 := (hb0.trans (hb1.mono hb0.size)).trans (b15.mono (Nat.le_trans hb0.size hb1.size))
  clear hA0 hA0' hA1 hA2 hA3 hA4 hi1 hi2 b15 b25 K1 K2 K3 K4 K5 hb2 hb3 hb4 hb5 hb1 hb0
  have hnA := below_new w5 (.cells #[.int .i64 0, .int .i64 1] 3)
  have K6 : Hid (Calls Try.prog 13 #[.slice ao1 2 c1, .slice (some ⟨w5.heap.size, 0, none⟩) 2 2] (w5.alloc (.cells #[.int .i64 0, .int .i64 1] 3)) (SameSaid [0, 1] [0, 1] (w5.alloc (.cells #[.int .i64 0, .int .i64 1] 3)))) :=
    same_any ao1 (some ⟨w5.heap.size, 0, none⟩) c1 2 [0, 1] [0, 1] _ (ints_step i15 hnA) (ints_lit w5 [0, 1] 3 _ rfl) (by decide) (by decide)
  go_wp2_with (go_at_call 13; refine K6.out.mono ?_; rintro e6 w6 ⟨rfl, hb6⟩; rw [show sameB [0, 1] [0, 1] = true by decide])
  have b56 : Below w5.heap.size w5 w6 := hnA.trans (hb6.mono hnA.size)
  have i16 := ints_step i15 b56
  have i26 := ints_step i25 b56
  have i56 := ints_step hi5 b56
  have hA6 := hA5.step b56
  have K7 : Hid (Calls Try.prog 14 #[.int .i64 4, .slice (some ⟨w.heap.size, 0, none⟩) 4 4, .int .i64 0, .int .i64 3, .slice ao2 4 c2, .slice ao1 2 c1] w6 (CheckSaid 4 exA 0 3 f2 [0, 1] w6)) := by
    have := check_any 4 0 3 _ 4 exA ao2 c2 f2 ao1 c1 [0, 1] w6 hA6 i26 i16 (by decide) (by have := H2.out; omega) (by decide)
    rw [H2.out] at this
    exact this
  have Hok := Lib.hid (checkB_true (exOk hm2))
  clear hnA hb6 i15 i25 hi5 hA5 K6
  go_wp2_with (go_at_call 14; (with_reducible refine K7.out.mono ?_); rintro e7 w7 ⟨rfl, hb7⟩; rw [Hok.out])
  have i17 := ints_step i16 hb7
  have i27 := ints_step i26 hb7
  have i57 := ints_step i56 hb7
  have hA7 := hA6.step hb7
  have b7 := b0.trans ((b56.trans (hb7.mono b56.size)).mono b0.size)
  clear i16 i26 i56 hA6 K7 b56 hb7
  have hnB := below_new w7 (.cells #[.int .i64 0] 3)
  have K8 : Hid (Calls Try.prog 14 #[.int .i64 4, .slice (some ⟨w.heap.size, 0, none⟩) 4 4, .int .i64 0, .int .i64 3, .slice ao2 4 c2, .slice (some ⟨w7.heap.size, 0, none⟩) 1 1] (w7.alloc (.cells #[.int .i64 0] 3)) (CheckSaid 4 exA 0 3 f2 [0] (w7.alloc (.cells #[.int .i64 0] 3)))) := by
    have := check_any 4 0 3 _ 4 exA ao2 c2 f2 (some ⟨w7.heap.size, 0, none⟩) 1 [0] (w7.alloc (.cells #[.int .i64 0] 3)) (hA7.step hnB) (ints_step i27 hnB) (ints_lit w7 [0] 3 _ rfl) (by decide) (by have := H2.out; omega) (by decide)
    rw [H2.out] at this
    exact this
  have Hno := Lib.hid (checkB_false (exNo1 hm2))
  go_wp2_with (go_at_call 14; (with_reducible refine K8.out.mono ?_); rintro e8 w8 ⟨rfl, hb8⟩; rw [Hno.out])
  have b78 : Below w7.heap.size w7 w8 := hnB.trans (hb8.mono hnB.size)
  have i18 := ints_step i17 b78
  have i58 := ints_step i57 b78
  have hA8 := hA7.step b78
  have b8 := b7.trans (b78.mono b7.size)
  clear i17 i27 i57 hA7 K8 b78 hb8 hnB
  have hnC := below_new w8 (.cells #[.int .i64 0, .int .i64 0, .int .i64 0, .int .i64 0] 3)
  have K9 : Hid (Calls Try.prog 14 #[.int .i64 4, .slice (some ⟨w.heap.size, 0, none⟩) 4 4, .int .i64 0, .int .i64 3, .slice (some ⟨w8.heap.size, 0, none⟩) 4 4, .slice ao1 2 c1] (w8.alloc (.cells #[.int .i64 0, .int .i64 0, .int .i64 0, .int .i64 0] 3)) (CheckSaid 4 exA 0 3 [0, 0, 0, 0] [0, 1] (w8.alloc (.cells #[.int .i64 0, .int .i64 0, .int .i64 0, .int .i64 0] 3)))) :=
    check_any 4 0 3 _ 4 exA (some ⟨w8.heap.size, 0, none⟩) 4 [0, 0, 0, 0] ao1 c1 [0, 1] _ (hA8.step hnC) (ints_lit w8 [0, 0, 0, 0] 3 _ rfl) (ints_step i18 hnC) (by decide) (by decide) (by decide)
  have Hn2 := Lib.hid (checkB_false exNo2)
  go_wp2_with (go_at_call 14; (with_reducible refine K9.out.mono ?_); rintro e9 w9 ⟨rfl, hb9⟩; rw [Hn2.out])
  have b89 : Below w8.heap.size w8 w9 := hnC.trans (hb9.mono hnC.size)
  have i59 := ints_step i58 b89
  have b9 := b8.trans (b89.mono b8.size)
  clear i18 i58 hA8 K9 b89 hb9 hnC
  have hnD := below_new w9 (.cells #[.int .i64 0] 3)
  have K10 : Hid (Calls Try.prog 13 #[.slice ao5 1 c5, .slice (some ⟨w9.heap.size, 0, none⟩) 1 1] (w9.alloc (.cells #[.int .i64 0] 3)) (SameSaid [0] [0] (w9.alloc (.cells #[.int .i64 0] 3)))) :=
    same_any ao5 (some ⟨w9.heap.size, 0, none⟩) c5 1 [0] [0] _ (ints_step i59 hnD) (ints_lit w9 [0] 3 _ rfl) (by decide) (by decide)
  go_wp2_with (go_at_call 13; refine K10.out.mono ?_; rintro e10 w10 ⟨rfl, hb10⟩; rw [show sameB [0] [0] = true by decide])
  go_ret
  exact ⟨rfl, b9.trans ((hnD.trans (hb10.mono hnD.size)).mono b9.size)⟩
end Go.Proofs.Ytanhhdfffggdmaa
