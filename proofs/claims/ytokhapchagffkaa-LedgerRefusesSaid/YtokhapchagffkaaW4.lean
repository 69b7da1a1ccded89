/- Walks of the reference's Zero, posting and room. -/
import Derived.Test.YtokhapchagffkaaW3
set_option linter.unusedSimpArgs false
set_option linter.unusedVariables false
namespace Go.Proofs.Ytokhapchagffkaa
open Go.RowKit LG
attribute [local go_sem] alloc_drewN setCell_drewN shape_drewN

set_option maxHeartbeats 4000000 in
theorem zero_any (e : List Et) (C : Option Addr) (cc : Nat) (w : World) {B : Nat} (hC : EntsAt w B C e) (hB : B ≤ w.heap.size) (hl : e.length ≤ 1000000) (hI : LitsIn e) :
    Calls Try.prog 28 #[.slice C e.length cc] w (BoolIs (zeroX e) w) := by
  obtain ⟨i0, hi, hz0, hz1, hz2⟩ := info_parts Try.infoInt
  have hR : Hid (zeroX e = ((sumX (lits e)).2 && decide ((sumX (lits e)).1 = 0))) := rfl
  go_enter Try.func28, Try.ntmps28
  go_wp2_with fail
  go_loopw [3, 4] (fun out i wr => ∃ k : Nat, k ≤ e.length ∧ i = .int .i64 k ∧ wr.ownsRow w.heap.size 3 1 out k (intsV (lits (e.take k))) ∧ Below w.heap.size w wr ∧ w.heap.size ≤ wr.heap.size) (fun _ i _ => e.length - (intOf i).toNat)
  case atStart => exact ⟨0, Nat.zero_le _, rfl, World.ownsRow_nil _ _ _ _, Below.refl _ _, Nat.le_refl _⟩
  case round =>
    obtain ⟨k, hk, rfl, hrow, hBw, hz⟩ := hrel
    by_cases hlt : k < e.length
    · obtain ⟨x, hx⟩ : ∃ x, e[k]? = some x := ⟨_, List.getElem?_eq_getElem hlt⟩
      obtain ⟨b, off, rfl, hb, r0, r1, r2, r3, r4, r5, r6⟩ := (hC.below (hBw.mono hB)).at_ hx
      have hbw : b < wr.heap.size := by omega
      have hlt2 : lits (e.take (k + 1)) = lits (e.take k) ++ [x.litres] := lits_take hx
      have HL := Lib.hid hlt2
      clear hx hlt2
      go_wp2_with (first | (at_builtin; refine wpList_append_own _ rfl _ _ 44 rfl w.heap.size 3 i0 (.int .i64 0) 1 8 Try.underlying44 hi hz0 hz1 hz2 rfl (by decide) _ k _ rfl (hrow.alloc _) ⟨wr.heap.size, 0, none⟩ 1 1 [.int .i64 x.litres] rfl rfl (cell_one_at (by simp) _ _) (by simp [Value.oneCell']) (by unfold maxLen; omega) (by omega) (by simp; omega) ?_; intro v' w2 hown' hgrow _; obtain ⟨g', cap', rfl, hgq1, hgq2⟩ := hown'.form (by omega); have hb2 := below_app hrow (by omega) hgrow) | fail)
      go_roundw
      case rel => exact ⟨k + 1, by omega, by go_num, by rw [HL.out]; unfold intsV at hown' ⊢; rw [List.map_append]; exact hown', hBw.trans hb2, by have := hb2.size; omega⟩
      case measure => simp [intOf]; omega
    · have hke : k = e.length := by omega
      subst hke
      have hrow2 : wr.ownsRow w.heap.size 3 1 u3 (lits e).length (intsV (lits e)) := by
        have := hrow
        rw [List.take_length] at this
        rw [show (lits e).length = e.length by simp [lits]]
        exact this
      obtain ⟨D, cd, he, hD⟩ := ints_of_owns hrow2
      subst he
      have K := Lib.hid (rsum_any (lits e) D cd wr hD (by simp [lits]; omega) (fun y hy => by obtain ⟨a, ha, rfl⟩ := List.mem_map.1 hy; exact hI a ha))
      clear hrow hrow2
      generalize lits e = L at *
      cases hok : (sumX L).2 with
      | false =>
        go_wp2_with (first | (go_at_call 27; (with_reducible refine K.out.mono ?_); rintro e1 w1 ⟨rfl, rfl⟩) | fail)
        go_ret
        exact ⟨ret_bool (by rw [hR.out, hok]; simp), hBw⟩
      | true =>
        obtain ⟨z, hzz⟩ : ∃ z, ((sumX L).1 == 0) = z := ⟨_, rfl⟩
        go_wp2_with (first | (go_at_call 27; (with_reducible refine K.out.mono ?_); rintro e1 w1 ⟨rfl, rfl⟩) | fail)
        go_ret
        exact ⟨ret_bool (by rw [hR.out, hok, ← hzz]; rfl), hBw⟩

theorem postB_zero {e : List Et} (h : zeroX e = false) : postB e = false := by unfold postB; rw [h]; simp
set_option maxHeartbeats 8000000 in
theorem rposting_any (e : List Et) (C : Option Addr) (cc : Nat) (w : World) {B : Nat} (hC : EntsAt w B C e) (hB : B ≤ w.heap.size) (hl : e.length ≤ 1000000) (hI : LitsIn e) :
    Calls Try.prog 24 #[.slice C e.length cc] w (BoolIs (postB e) w) := by
  have K0 := zero_any e C cc w hC hB hl hI
  unfold BoolIs at K0
  by_cases hne : e = []
  · subst hne
    have hz : zeroX [] = true := by decide
    rw [hz] at K0
    rw [List.length_nil] at K0
    have K0 := Lib.hid K0
    go_enter Try.func24, Try.ntmps24
    go_wp2_with (first | (go_at_call 28; (with_reducible refine K0.out.mono ?_); rintro e1 w1 ⟨rfl, hb1⟩) | fail)
    go_ret
    exact ⟨rfl, hb1⟩
  have hpos : 0 < e.length := List.length_pos_iff.2 hne
  have hne1 : (e.length == 0) = false := by simp; omega
  have hne2 : ((e.length : Int) == 0) = false := by simp; omega
  have hne3 : ¬ (e.length : Int) = 0 := by omega
  cases hzx : zeroX e with
  | false =>
    have HF : Hid (postB e = false) := postB_zero hzx
    rw [hzx] at K0
    have K0 := Lib.hid K0
    clear hzx
    go_enter Try.func24, Try.ntmps24
    go_wp2_with (first | (go_at_call 28; (with_reducible refine K0.out.mono ?_); rintro e1 w1 ⟨rfl, hb1⟩) | fail)
    go_ret
    exact ⟨ret_bool HF.out.symm, hb1⟩
  | true =>
  rw [hzx] at K0
  have K0 := Lib.hid K0
  have HZ := Lib.hid hzx
  clear hzx
  obtain ⟨h, hh⟩ : ∃ h, e[0]? = some h := ⟨_, List.getElem?_eq_getElem hpos⟩
  obtain ⟨b0, o0, rfl, hb0, z0, z1, z2, z3, z4, z5, z6⟩ := hC.at_ hh
  rw [Nat.zero_mul, Nat.add_zero] at z0 z1 z2 z3 z4 z5 z6
  have hhd := Lib.hid (headD_of hh)
  have HNE := Lib.hid hne
  have KR := Lib.hid (fun x w => rright_any x w)
  clear hh hne
  go_enter Try.func24, Try.ntmps24
  go_wp2_with (first | (go_at_call 28; (with_reducible refine K0.out.mono ?_); rintro e1 w1 ⟨rfl, hb1⟩) | fail)
  have HB1 := Lib.hid hb1
  clear hb1
  go_loopw [4] (fun i wr => ∃ k : Nat, k ≤ e.length ∧ i = .int .i64 k ∧ Hid ((e.take k).all (fitB h) = true) ∧ Below w.heap.size w wr ∧ w.heap.size ≤ wr.heap.size) (fun i _ => e.length - (intOf i).toNat)
  case atStart => exact ⟨0, Nat.zero_le _, rfl, rfl, HB1.out, HB1.out.size⟩
  case round =>
    obtain ⟨k, hk, rfl, hAll, hBw, hz⟩ := hrel
    by_cases hlt : k < e.length
    · obtain ⟨x, hx⟩ : ∃ x, e[k]? = some x := ⟨_, List.getElem?_eq_getElem hlt⟩
      obtain ⟨b, off, heq, hb, r0, r1, r2, r3, r4, r5, r6⟩ := (hC.below (hBw.mono hB)).at_ hx
      obtain ⟨rfl, rfl⟩ : b0 = b ∧ o0 = off := by injection heq with h1; injection h1 with h2 h3; exact ⟨h2, h3⟩
      clear heq
      have q := fun o => hBw.cell (p := ⟨b0, o, none⟩) (by show b0 < _; omega)
      have y0 := (q _).trans z0
      have y1 := (q _).trans z1
      clear q
      have hbw : b0 < wr.heap.size := by omega
      have hbw2 : b0 ≤ wr.heap.size := by omega
      have HX := Lib.hid hx
      clear hx
      have K1 := fun w => KR.out x w
      unfold BoolIs at K1
      cases hok : okE x with
      | false =>
        rw [hok] at K1
        have K1 := Lib.hid K1
        have HF : Hid (postB e = false) := postB_no hhd.out HX.out (fitB_ok hok)
        clear hok
        go_wp2_with fail
        refine Plan.wp_region_tree (.rd 0 (.rd 1 (.rd 2 (.rd 3 (.wr 4 (.rd 5 (.rd 6 (.rd 7 (.rd 8 (.rd 9 (.rd 10 (.rd 11 (.rd 12 (.rd 13 (.rd 14 (.rd 15 (.rd 16 (.rd 17 (.rd 18 (.rd 19 (.rd 20 (.rd 21 (.rd 22 (.rd 23 (.rd 24 (.rd 25 (.rd 26 (.rd 27 (.rd 28 (.rd 29 .done)))))))))))))))))))))))))))))) (by kernel_rfl) (by kernel_rfl) ?_
        (repeat (first | (refine Plan.tree_read (v := ?_) rfl rfl ?_ ?_; rotate_left; (focus ((intro wS hSw; have hkS := (bcell hSw).1; try (have hkT := fun (b o : Nat) (h : b < w.heap.size) => hkS b o (by first | omega | (simp; omega) | (simp; done))); go_simp); try with_reducible rfl)); simp only [Act.put, List.setIfInBounds_toArray, List.set_cons_zero, List.set_cons_succ]) | (refine Plan.tree_skip rfl rfl ?_; simp only [Act.put, List.setIfInBounds_toArray, List.set_cons_zero, List.set_cons_succ])))
        refine Plan.tree_write rfl (fun K hK => ?_)
        go_simp
        go_at_call 35
        (with_reducible refine (K1.out _).mono ?_)
        rintro e2 w2 ⟨rfl, hb2⟩
        have kB := Plan.below_drew_go hb2
        go_simp
        (refine hK.out _ _ (kB) ?_; clear hK K; try simp only [Act.put, List.setIfInBounds_toArray, List.set_cons_zero, List.set_cons_succ])
        (repeat (first | (refine Plan.tree_read (v := ?_) rfl rfl ?_ ?_; rotate_left; (focus ((intro wS hSw; have hkS := (bcell hSw).1; try (have hkT := fun (b o : Nat) (h : b < w.heap.size) => hkS b o (by first | omega | (simp; omega) | (simp; done))); go_simp); try with_reducible rfl)); simp only [Act.put, List.setIfInBounds_toArray, List.set_cons_zero, List.set_cons_succ]) | (refine Plan.tree_skip rfl rfl ?_; simp only [Act.put, List.setIfInBounds_toArray, List.set_cons_zero, List.set_cons_succ])))
        refine Plan.tree_done ?_
        go_wp2_with fail
        go_ret
        exact ⟨ret_bool HF.out.symm, hBw.trans (kB.mono hz)⟩
      | true =>
        rw [hok] at K1
        have K1 := Lib.hid K1
        by_cases hd : x.day = h.day
        case neg =>
          have HF : Hid (postB e = false) := postB_no hhd.out HX.out (fitB_day hd)
          have n1 : (x.day != h.day) = true := by simpa using hd
          clear hok
          go_wp2_with fail
          refine Plan.wp_region_tree (.rd 0 (.rd 1 (.rd 2 (.rd 3 (.wr 4 (.rd 5 (.rd 6 (.rd 7 (.rd 8 (.rd 9 (.rd 10 (.rd 11 (.rd 12 (.rd 13 (.rd 14 (.rd 15 (.rd 16 (.rd 17 (.rd 18 (.rd 19 (.rd 20 (.rd 21 (.rd 22 (.rd 23 (.rd 24 (.rd 25 (.rd 26 (.rd 27 (.rd 28 (.rd 29 .done)))))))))))))))))))))))))))))) (by kernel_rfl) (by kernel_rfl) ?_
          (repeat (first | (refine Plan.tree_read (v := ?_) rfl rfl ?_ ?_; rotate_left; (focus ((intro wS hSw; have hkS := (bcell hSw).1; try (have hkT := fun (b o : Nat) (h : b < w.heap.size) => hkS b o (by first | omega | (simp; omega) | (simp; done))); go_simp); try with_reducible rfl)); simp only [Act.put, List.setIfInBounds_toArray, List.set_cons_zero, List.set_cons_succ]) | (refine Plan.tree_skip rfl rfl ?_; simp only [Act.put, List.setIfInBounds_toArray, List.set_cons_zero, List.set_cons_succ])))
          refine Plan.tree_write rfl (fun K hK => ?_)
          go_simp
          go_at_call 35
          (with_reducible refine (K1.out _).mono ?_)
          rintro e2 w2 ⟨rfl, hb2⟩
          have kB := Plan.below_drew_go hb2
          go_simp
          (refine hK.out _ _ (kB) ?_; clear hK K; try simp only [Act.put, List.setIfInBounds_toArray, List.set_cons_zero, List.set_cons_succ])
          (repeat (first | (refine Plan.tree_read (v := ?_) rfl rfl ?_ ?_; rotate_left; (focus ((intro wS hSw; have hkS := (bcell hSw).1; try (have hkT := fun (b o : Nat) (h : b < w.heap.size) => hkS b o (by first | omega | (simp; omega) | (simp; done))); go_simp); try with_reducible rfl)); simp only [Act.put, List.setIfInBounds_toArray, List.set_cons_zero, List.set_cons_succ]) | (refine Plan.tree_skip rfl rfl ?_; simp only [Act.put, List.setIfInBounds_toArray, List.set_cons_zero, List.set_cons_succ])))
          refine Plan.tree_done ?_
          go_wp2_with fail
          go_ret
          exact ⟨ret_bool HF.out.symm, hBw.trans (kB.mono hz)⟩
        by_cases hn : x.known = h.known
        case neg =>
          have HF : Hid (postB e = false) := postB_no hhd.out HX.out (fitB_known hn)
          have n1 : (x.day != h.day) = false := by simpa using hd
          have n2 : (x.known != h.known) = true := by simpa using hn
          clear hok hd
          go_wp2_with fail
          refine Plan.wp_region_tree (.rd 0 (.rd 1 (.rd 2 (.rd 3 (.wr 4 (.rd 5 (.rd 6 (.rd 7 (.rd 8 (.rd 9 (.rd 10 (.rd 11 (.rd 12 (.rd 13 (.rd 14 (.rd 15 (.rd 16 (.rd 17 (.rd 18 (.rd 19 (.rd 20 (.rd 21 (.rd 22 (.rd 23 (.rd 24 (.rd 25 (.rd 26 (.rd 27 (.rd 28 (.rd 29 .done)))))))))))))))))))))))))))))) (by kernel_rfl) (by kernel_rfl) ?_
          (repeat (first | (refine Plan.tree_read (v := ?_) rfl rfl ?_ ?_; rotate_left; (focus ((intro wS hSw; have hkS := (bcell hSw).1; try (have hkT := fun (b o : Nat) (h : b < w.heap.size) => hkS b o (by first | omega | (simp; omega) | (simp; done))); go_simp); try with_reducible rfl)); simp only [Act.put, List.setIfInBounds_toArray, List.set_cons_zero, List.set_cons_succ]) | (refine Plan.tree_skip rfl rfl ?_; simp only [Act.put, List.setIfInBounds_toArray, List.set_cons_zero, List.set_cons_succ])))
          refine Plan.tree_write rfl (fun K hK => ?_)
          go_simp
          go_at_call 35
          (with_reducible refine (K1.out _).mono ?_)
          rintro e2 w2 ⟨rfl, hb2⟩
          have kB := Plan.below_drew_go hb2
          go_simp
          (refine hK.out _ _ (kB) ?_; clear hK K; try simp only [Act.put, List.setIfInBounds_toArray, List.set_cons_zero, List.set_cons_succ])
          (repeat (first | (refine Plan.tree_read (v := ?_) rfl rfl ?_ ?_; rotate_left; (focus ((intro wS hSw; have hkS := (bcell hSw).1; try (have hkT := fun (b o : Nat) (h : b < w.heap.size) => hkS b o (by first | omega | (simp; omega) | (simp; done))); go_simp); try with_reducible rfl)); simp only [Act.put, List.setIfInBounds_toArray, List.set_cons_zero, List.set_cons_succ]) | (refine Plan.tree_skip rfl rfl ?_; simp only [Act.put, List.setIfInBounds_toArray, List.set_cons_zero, List.set_cons_succ])))
          refine Plan.tree_done ?_
          go_wp2_with fail
          go_ret
          exact ⟨ret_bool HF.out.symm, hBw.trans (kB.mono hz)⟩
        have HF : Hid (fitB h x = true) := fitB_all hok hd hn
        have n1 : (x.day != h.day) = false := by simpa using hd
        have n2 : (x.known != h.known) = false := by simpa using hn
        clear hok hd hn
        go_wp2_with fail
        refine Plan.wp_region_tree (.rd 0 (.rd 1 (.rd 2 (.rd 3 (.wr 4 (.rd 5 (.rd 6 (.rd 7 (.rd 8 (.rd 9 (.rd 10 (.rd 11 (.rd 12 (.rd 13 (.rd 14 (.rd 15 (.rd 16 (.rd 17 (.rd 18 (.rd 19 (.rd 20 (.rd 21 (.rd 22 (.rd 23 (.rd 24 (.rd 25 (.rd 26 (.rd 27 (.rd 28 (.rd 29 .done)))))))))))))))))))))))))))))) (by kernel_rfl) (by kernel_rfl) ?_
        (repeat (first | (refine Plan.tree_read (v := ?_) rfl rfl ?_ ?_; rotate_left; (focus ((intro wS hSw; have hkS := (bcell hSw).1; try (have hkT := fun (b o : Nat) (h : b < w.heap.size) => hkS b o (by first | omega | (simp; omega) | (simp; done))); go_simp); try with_reducible rfl)); simp only [Act.put, List.setIfInBounds_toArray, List.set_cons_zero, List.set_cons_succ]) | (refine Plan.tree_skip rfl rfl ?_; simp only [Act.put, List.setIfInBounds_toArray, List.set_cons_zero, List.set_cons_succ])))
        refine Plan.tree_write rfl (fun K hK => ?_)
        go_simp
        go_at_call 35
        (with_reducible refine (K1.out _).mono ?_)
        rintro e2 w2 ⟨rfl, hb2⟩
        have kB := Plan.below_drew_go hb2
        go_simp
        (refine hK.out _ _ (kB) ?_; clear hK K; try simp only [Act.put, List.setIfInBounds_toArray, List.set_cons_zero, List.set_cons_succ])
        (repeat (first | (refine Plan.tree_read (v := ?_) rfl rfl ?_ ?_; rotate_left; (focus ((intro wS hSw; have hkS := (bcell hSw).1; try (have hkT := fun (b o : Nat) (h : b < w.heap.size) => hkS b o (by first | omega | (simp; omega) | (simp; done))); go_simp); try with_reducible rfl)); simp only [Act.put, List.setIfInBounds_toArray, List.set_cons_zero, List.set_cons_succ]) | (refine Plan.tree_skip rfl rfl ?_; simp only [Act.put, List.setIfInBounds_toArray, List.set_cons_zero, List.set_cons_succ])))
        refine Plan.tree_done ?_
        have hBz : Below w.heap.size w w2 := hBw.trans (kB.mono hz)
        have hzz := kB.size
        clear kB hb2 hBw
        go_wp2_with fail
        go_roundw
        case rel => exact ⟨k + 1, by omega, by go_num, take_all HX.out hAll.out HF.out, hBz, by omega⟩
        case measure => simp [intOf]; omega
    · have hke : k = e.length := by omega
      subst hke
      have hR : Hid (postB e = true) := by show _ = _; rw [postB_yes hhd.out HNE.out hAll.out, HZ.out]
      go_wp2_with fail
      go_ret
      exact ⟨ret_bool hR.out.symm, hBw⟩

theorem absI_nn (n : Int) : 0 ≤ absI n := by unfold absI; split <;> omega
theorem absI_cases (n : Int) : (0 ≤ n ∧ absI n = n) ∨ (n < 0 ∧ absI n = -n) := by unfold absI; split <;> omega
theorem absS_nil : absS [] = 0 := rfl
theorem absS_cons (x : Et) (l : List Et) : absS (x :: l) = absI x.litres + absS l := by unfold absS; simp
theorem absS_append (a b : List Et) : absS (a ++ b) = absS a + absS b := by
  induction a with
  | nil => simp [absS_nil]
  | cons x a ih => rw [List.cons_append, absS_cons, absS_cons, ih]; omega
theorem absS_nn (l : List Et) : 0 ≤ absS l := by
  induction l with
  | nil => simp [absS_nil]
  | cons x a ih => rw [absS_cons]; have := absI_nn x.litres; omega
theorem absS_take {l : List Et} {k : Nat} {x : Et} (h : l[k]? = some x) : absS (l.take (k + 1)) = absS (l.take k) + absI x.litres := by
  rw [List.take_add_one, h, absS_append]; simp [absS_cons, absS_nil]
theorem absS_le (l : List Et) (k : Nat) : absS (l.take k) ≤ absS l := by
  have := absS_append (l.take k) (l.drop k)
  rw [List.take_append_drop] at this
  have := absS_nn (l.drop k)
  omega
def roomR (lim : Int) (l : List Et) : Int := if absS l ≤ lim then lim - absS l else -1
set_option maxHeartbeats 4000000 in
theorem room_any (lim : Int) (l : List Et) (C : Option Addr) (cc : Nat) (w : World) {B : Nat} (hC : EntsAt w B C l) (hl : l.length ≤ 1000000) (hI : LitsIn l) (h0 : 0 ≤ lim) (h1 : lim ≤ 4611686018427387904) :
    Calls Try.prog 25 #[.int .i64 lim, .slice C l.length cc] w fun e w' => e = .returned (.int .i64 (roomR lim l)) ∧ w = w' := by
  go_enter Try.func25, Try.ntmps25
  go_wp2_with fail
  go_loopw [0, 5] (fun lm i wr => ∃ (k : Nat) (m : Int), k ≤ l.length ∧ i = .int .i64 k ∧ lm = .int .i64 m ∧ 0 ≤ m ∧ m ≤ 4611686018427387904 ∧ Hid (m = lim - absS (l.take k)) ∧ wr = w) (fun _ i _ => l.length - (intOf i).toNat)
  case atStart => exact ⟨0, lim, Nat.zero_le _, rfl, rfl, h0, h1, by show _ = _; simp [absS_nil], rfl⟩
  case round =>
    obtain ⟨k, m, hk, rfl, rfl, hm0, hm1, hm, rfl⟩ := hrel
    by_cases hlt : k < l.length
    · obtain ⟨x, hx⟩ : ∃ x, l[k]? = some x := ⟨_, List.getElem?_eq_getElem hlt⟩
      obtain ⟨b, off, rfl, hb, r0, r1, r2, r3, r4, r5, r6⟩ := hC.at_ hx
      have ht := absS_take hx
      have hle := absS_le l (k + 1)
      have hin := hI x (List.mem_of_getElem? hx)
      obtain ⟨in1, in2⟩ := hin
      have HT : Hid (absS (l.take (k + 1)) = absS (l.take k) + absI x.litres ∧ absS (l.take (k + 1)) ≤ absS l) := ⟨ht, hle⟩
      clear hx ht hle
      by_cases c1 : m < x.litres
      · have d1 : decide (m < x.litres) = true := decide_eq_true c1
        have HR : Hid (roomR lim l = -1) := by
          show _ = _
          unfold roomR
          have a1 := HT.out; have a2 := hm.out
          rw [if_neg]
          rcases absI_cases x.litres with ⟨p1, p2⟩ | ⟨p1, p2⟩ <;> omega
        go_wp2_with fail
        go_ret
        exact ⟨ret_int HR.out.symm, rfl⟩
      · by_cases c2 : x.litres < -m
        · have d1 : decide (m < x.litres) = false := decide_eq_false c1
          have d2 : decide (x.litres < -m) = true := decide_eq_true c2
          have HR : Hid (roomR lim l = -1) := by
            show _ = _
            unfold roomR
            have a1 := HT.out; have a2 := hm.out
            rw [if_neg]
            rcases absI_cases x.litres with ⟨p1, p2⟩ | ⟨p1, p2⟩ <;> omega
          go_wp2_with fail
          go_ret
          exact ⟨ret_int HR.out.symm, rfl⟩
        · have d1 : decide (m < x.litres) = false := decide_eq_false c1
          have d2 : decide (x.litres < -m) = false := decide_eq_false c2
          by_cases c3 : x.litres < 0
          · have hn : Hid (m - -x.litres = lim - absS (l.take (k + 1))) := by
              have a1 := HT.out; have a2 := hm.out
              show _ = _
              rcases absI_cases x.litres with ⟨p1, p2⟩ | ⟨p1, p2⟩ <;> omega
            go_wp2_with fail
            go_roundw
            case rel => exact ⟨k + 1, _, by omega, by go_num, rfl, by omega, by omega, (by have a := hn.out; show _ = _; omega), trivial⟩
            case measure => simp [intOf]; omega
          · have hn : Hid (m - x.litres = lim - absS (l.take (k + 1))) := by
              have a1 := HT.out; have a2 := hm.out
              show _ = _
              rcases absI_cases x.litres with ⟨p1, p2⟩ | ⟨p1, p2⟩ <;> omega
            go_wp2_with fail
            go_roundw
            case rel => exact ⟨k + 1, _, by omega, by go_num, rfl, by omega, by omega, (by have a := hn.out; show _ = _; omega), trivial⟩
            case measure => simp [intOf]; omega
    · have hke : k = l.length := by omega
      subst hke
      have HR : Hid (m = roomR lim l) := by
        have := hm.out
        rw [List.take_length] at this
        show _ = _
        unfold roomR
        rw [if_pos (by omega)]
        exact this
      go_wp2_with fail
      go_ret
      exact ⟨ret_int HR.out, rfl⟩
end Go.Proofs.Ytokhapchagffkaa
