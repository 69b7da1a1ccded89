/- Joined of: W3 W4. -/
import Derived.Test.YtminphldifncaaaDoorW2
import Derived.Test.YtminphldifncaaaDoorMakeRow
import Derived.Test.YtminphldifncaaaDoorPlanB
/- The walk of posting. -/
set_option linter.unusedSimpArgs false
set_option linter.unusedVariables false
namespace Go.Proofs.YtminphldifncaaaDoor
open Go.RowKit LG
attribute [local go_sem] alloc_drewN setCell_drewN shape_drewN

/-- An entry that may stand in a posting that begins with h. -/
def fitB (h x : Et) : Bool := okE x && sameG h x
theorem fitB_ok {h x : Et} (a : okE x = false) : fitB h x = false := by unfold fitB; rw [a]; rfl
theorem fitB_day {h x : Et} (a : x.day ≠ h.day) : fitB h x = false := by unfold fitB sameG; rw [decide_eq_false a]; simp
theorem fitB_known {h x : Et} (a : x.known ≠ h.known) : fitB h x = false := by unfold fitB sameG; rw [decide_eq_false a]; simp
theorem fitB_all {h x : Et} (a : okE x = true) (b : x.day = h.day) (c : x.known = h.known) : fitB h x = true := by unfold fitB sameG; rw [a, decide_eq_true b, decide_eq_true c]; rfl
theorem postB_no {e : List Et} {h x : Et} {k : Nat} (h0 : e.headD default = h) (hx : e[k]? = some x) (hf : fitB h x = false) : postB e = false := by
  unfold postB
  have : e.all (fun x => okE x && sameG (e.headD default) x) = false := by
    rw [List.all_eq_false]
    exact ⟨x, List.mem_of_getElem? hx, by rw [h0]; simpa [fitB] using hf⟩
  rw [this]; simp
theorem postB_yes {e : List Et} {h : Et} (h0 : e.headD default = h) (hne : e ≠ []) (hf : (e.take e.length).all (fitB h) = true) : postB e = zeroX e := by
  rw [List.take_length] at hf
  have : e.all (fun x => okE x && sameG (e.headD default) x) = true := by rw [h0]; exact hf
  unfold postB
  rw [this]
  cases e with
  | nil => exact absurd rfl hne
  | cons x e => simp
theorem take_all {e : List Et} {h x : Et} {k : Nat} (hx : e[k]? = some x) (a : (e.take k).all (fitB h) = true) (b : fitB h x = true) : (e.take (k + 1)).all (fitB h) = true := by
  rw [List.take_add_one, hx, List.all_append, a]; simpa using b
theorem lits_take {e : List Et} {x : Et} {k : Nat} (hx : e[k]? = some x) : lits (e.take (k + 1)) = lits (e.take k) ++ [x.litres] := by
  unfold lits; rw [List.take_add_one, hx]; simp
theorem lits_take_len {e : List Et} {k : Nat} (h : k ≤ e.length) : (lits (e.take k)).length = k := by unfold lits; simp; omega
theorem headD_of {e : List Et} {h : Et} (h0 : e[0]? = some h) : e.headD default = h := by cases e <;> simp_all
set_option maxHeartbeats 8000000 in
theorem posting_any (e : List Et) (C : Option Addr) (cc : Nat) (w : World) {B : Nat} (hC : EntsAt w B C e) (hB : B ≤ w.heap.size) (hl : e.length ≤ 1000000) (hI : LitsIn e) :
    Calls Tryd.prog 31 #[.slice C e.length cc] w (BoolIs (postB e) w) := by
  obtain ⟨i0, hi, hz0, hz1, hz2⟩ := info_parts Tryd.infoInt
  obtain ⟨M, hMs, hmk⟩ := make_row0 (P := Tryd.prog) 29 3 i0 _ 1 Tryd.underlying29 hi hz0 hz1 e.length (by rw [hz2]; omega) (by unfold maxLen; omega)
  have HMs := Lib.hid hMs
  clear hMs
  by_cases hne : e = []
  · subst hne
    go_enter Tryd.func31, Tryd.ntmps31
    go_wp2_with fail
    go_ret
    exact ⟨rfl, Below.refl _ _⟩
  have hpos : 0 < e.length := List.length_pos_iff.2 hne
  have hne1 : (e.length == 0) = false := by simp; omega
  have hne2 : ((e.length : Int) == 0) = false := by simp; omega
  have hne3 : ¬ (e.length : Int) = 0 := by omega
  obtain ⟨h, hh⟩ : ∃ h, e[0]? = some h := ⟨_, List.getElem?_eq_getElem hpos⟩
  obtain ⟨b0, o0, rfl, hb0, z0, z1, z2, z3, z4, z5, z6⟩ := hC.at_ hh
  rw [Nat.zero_mul, Nat.add_zero] at z0 z1 z2 z3 z4 z5 z6
  have hhd := Lib.hid (headD_of hh)
  have HNE := Lib.hid hne
  have KR := Lib.hid (fun x w => right_any x w)
  clear hh hne
  go_enter Tryd.func31, Tryd.ntmps31
  go_wp2_with fail
  clear hmk
  go_loopw [3, 16] (fun out i wr => ∃ k : Nat, k ≤ e.length ∧ i = .int .i64 k ∧ wr.ownsRow w.heap.size 3 1 out k (intsV (lits (e.take k))) ∧ Hid ((e.take k).all (fitB h) = true) ∧ Below w.heap.size w wr ∧ w.heap.size ≤ wr.heap.size) (fun _ i _ => e.length - (intOf i).toNat)
  case atStart =>
    exact ⟨0, Nat.zero_le _, rfl, World.ownsRow_made w M e.length (by omega) (by unfold maxLen; omega) HMs.out, rfl, (Below.refl _ _).alloc (Nat.le_refl _) _, by simp⟩
  case round =>
    obtain ⟨k, hk, rfl, hrow, hAll, hBw, hz⟩ := hrel
    by_cases hlt : k < e.length
    · obtain ⟨x, hx⟩ : ∃ x, e[k]? = some x := ⟨_, List.getElem?_eq_getElem hlt⟩
      obtain ⟨b, off, heq, hb, r0, r1, r2, r3, r4, r5, r6⟩ := (hC.below (hBw.mono hB)).at_ hx
      obtain ⟨rfl, rfl⟩ : b0 = b ∧ o0 = off := by injection heq with h1; injection h1 with h2 h3; exact ⟨h2, h3⟩
      clear heq
      have q := fun o => hBw.cell (p := ⟨b0, o, none⟩) (by show b0 < _; omega)
      have y0 := (q _).trans z0
      have y1 := (q _).trans z1
      clear q
      have hbw : b0 < wr.heap.size := by omega
      have hbw2 : b0 ≤ wr.heap.size := by omega
      have hlt2 : lits (e.take (k + 1)) = lits (e.take k) ++ [x.litres] := lits_take hx
      have HL := Lib.hid hlt2
      have HX := Lib.hid hx
      clear hx hlt2
      have hW0 : Below wr.heap.size wr wr := Below.refl _ _
      cases hok : okE x with
      | false =>
        have K1 := fun w => KR.out x w
        unfold BoolIs at K1
        rw [hok] at K1
        have K1 := Lib.hid K1
        have HF : Hid (postB e = false) := postB_no hhd.out HX.out (fitB_ok hok)
        clear hok
        go_wp2_with fail
        refine Plan.wp_region_tree (.rd 0 (.wr 1 (.rd 2 (.rd 3 (.rd 4 (.rd 5 (.rd 6 (.rd 7 (.rd 8 (.rd 9 (.rd 10 (.rd 11 (.rd 12 (.rd 13 (.rd 14 (.rd 15 (.rd 16 (.rd 17 (.rd 18 (.rd 19 (.rd 20 .done))))))))))))))))))))) (by kernel_rfl) (by kernel_rfl) ?_
        (repeat (first | (refine Plan.tree_read (v := ?_) rfl rfl ?_ ?_; rotate_left; (focus ((intro wS hSw; have hkS := (bcell hSw).1; try (have hkT := fun (b o : Nat) (h : b < w.heap.size) => hkS b o (by first | omega | (simp; omega) | (simp; done))); go_simp); try with_reducible rfl)); simp only [Act.put, List.setIfInBounds_toArray, List.set_cons_zero, List.set_cons_succ]) | (refine Plan.tree_skip rfl rfl ?_; simp only [Act.put, List.setIfInBounds_toArray, List.set_cons_zero, List.set_cons_succ])))
        refine Plan.tree_write rfl (fun K hK => ?_)
        go_simp
        go_at_call 55
        (with_reducible refine (K1.out _).mono ?_)
        rintro e1 w1 ⟨rfl, hb1⟩
        have kB := Plan.below_drew_go hb1
        go_simp
        (refine hK.out _ _ (kB) ?_; clear hK K; try simp only [Act.put, List.setIfInBounds_toArray, List.set_cons_zero, List.set_cons_succ])
        (repeat (first | (refine Plan.tree_read (v := ?_) rfl rfl ?_ ?_; rotate_left; (focus ((intro wS hSw; have hkS := (bcell hSw).1; try (have hkT := fun (b o : Nat) (h : b < w.heap.size) => hkS b o (by first | omega | (simp; omega) | (simp; done))); go_simp); try with_reducible rfl)); simp only [Act.put, List.setIfInBounds_toArray, List.set_cons_zero, List.set_cons_succ]) | (refine Plan.tree_skip rfl rfl ?_; simp only [Act.put, List.setIfInBounds_toArray, List.set_cons_zero, List.set_cons_succ])))
        refine Plan.tree_done ?_
        go_wp2_with fail
        go_ret
        exact ⟨ret_bool HF.out.symm, (hBw.alloc hz _).trans (kB.mono (by simp; omega))⟩
      | true =>
        have K1 := fun w => KR.out x w
        unfold BoolIs at K1
        rw [hok] at K1
        have K1 := Lib.hid K1
        by_cases hd : x.day = h.day
        case neg =>
          have HF : Hid (postB e = false) := postB_no hhd.out HX.out (fitB_day hd)
          have n1 : (x.day != h.day) = true := by simpa using hd
          clear hok
          go_wp2_with fail
          refine Plan.wp_region_tree (.rd 0 (.wr 1 (.rd 2 (.rd 3 (.rd 4 (.rd 5 (.rd 6 (.rd 7 (.rd 8 (.rd 9 (.rd 10 (.rd 11 (.rd 12 (.rd 13 (.rd 14 (.rd 15 (.rd 16 (.rd 17 (.rd 18 (.rd 19 (.rd 20 .done))))))))))))))))))))) (by kernel_rfl) (by kernel_rfl) ?_
          (repeat (first | (refine Plan.tree_read (v := ?_) rfl rfl ?_ ?_; rotate_left; (focus ((intro wS hSw; have hkS := (bcell hSw).1; try (have hkT := fun (b o : Nat) (h : b < w.heap.size) => hkS b o (by first | omega | (simp; omega) | (simp; done))); go_simp); try with_reducible rfl)); simp only [Act.put, List.setIfInBounds_toArray, List.set_cons_zero, List.set_cons_succ]) | (refine Plan.tree_skip rfl rfl ?_; simp only [Act.put, List.setIfInBounds_toArray, List.set_cons_zero, List.set_cons_succ])))
          refine Plan.tree_write rfl (fun K hK => ?_)
          go_simp
          go_at_call 55
          (with_reducible refine (K1.out _).mono ?_)
          rintro e1 w1 ⟨rfl, hb1⟩
          have kB := Plan.below_drew_go hb1
          go_simp
          (refine hK.out _ _ (kB) ?_; clear hK K; try simp only [Act.put, List.setIfInBounds_toArray, List.set_cons_zero, List.set_cons_succ])
          (repeat (first | (refine Plan.tree_read (v := ?_) rfl rfl ?_ ?_; rotate_left; (focus ((intro wS hSw; have hkS := (bcell hSw).1; try (have hkT := fun (b o : Nat) (h : b < w.heap.size) => hkS b o (by first | omega | (simp; omega) | (simp; done))); go_simp); try with_reducible rfl)); simp only [Act.put, List.setIfInBounds_toArray, List.set_cons_zero, List.set_cons_succ]) | (refine Plan.tree_skip rfl rfl ?_; simp only [Act.put, List.setIfInBounds_toArray, List.set_cons_zero, List.set_cons_succ])))
          refine Plan.tree_done ?_
          go_wp2_with fail
          go_ret
          exact ⟨ret_bool HF.out.symm, (hBw.alloc hz _).trans (kB.mono (by simp; omega))⟩
        by_cases hn : x.known = h.known
        case neg =>
          have HF : Hid (postB e = false) := postB_no hhd.out HX.out (fitB_known hn)
          have n1 : (x.day != h.day) = false := by simpa using hd
          have n2 : (x.known != h.known) = true := by simpa using hn
          clear hok hd
          go_wp2_with fail
          refine Plan.wp_region_tree (.rd 0 (.wr 1 (.rd 2 (.rd 3 (.rd 4 (.rd 5 (.rd 6 (.rd 7 (.rd 8 (.rd 9 (.rd 10 (.rd 11 (.rd 12 (.rd 13 (.rd 14 (.rd 15 (.rd 16 (.rd 17 (.rd 18 (.rd 19 (.rd 20 .done))))))))))))))))))))) (by kernel_rfl) (by kernel_rfl) ?_
          (repeat (first | (refine Plan.tree_read (v := ?_) rfl rfl ?_ ?_; rotate_left; (focus ((intro wS hSw; have hkS := (bcell hSw).1; try (have hkT := fun (b o : Nat) (h : b < w.heap.size) => hkS b o (by first | omega | (simp; omega) | (simp; done))); go_simp); try with_reducible rfl)); simp only [Act.put, List.setIfInBounds_toArray, List.set_cons_zero, List.set_cons_succ]) | (refine Plan.tree_skip rfl rfl ?_; simp only [Act.put, List.setIfInBounds_toArray, List.set_cons_zero, List.set_cons_succ])))
          refine Plan.tree_write rfl (fun K hK => ?_)
          go_simp
          go_at_call 55
          (with_reducible refine (K1.out _).mono ?_)
          rintro e1 w1 ⟨rfl, hb1⟩
          have kB := Plan.below_drew_go hb1
          go_simp
          (refine hK.out _ _ (kB) ?_; clear hK K; try simp only [Act.put, List.setIfInBounds_toArray, List.set_cons_zero, List.set_cons_succ])
          (repeat (first | (refine Plan.tree_read (v := ?_) rfl rfl ?_ ?_; rotate_left; (focus ((intro wS hSw; have hkS := (bcell hSw).1; try (have hkT := fun (b o : Nat) (h : b < w.heap.size) => hkS b o (by first | omega | (simp; omega) | (simp; done))); go_simp); try with_reducible rfl)); simp only [Act.put, List.setIfInBounds_toArray, List.set_cons_zero, List.set_cons_succ]) | (refine Plan.tree_skip rfl rfl ?_; simp only [Act.put, List.setIfInBounds_toArray, List.set_cons_zero, List.set_cons_succ])))
          refine Plan.tree_done ?_
          go_wp2_with fail
          go_ret
          exact ⟨ret_bool HF.out.symm, (hBw.alloc hz _).trans (kB.mono (by simp; omega))⟩
        have HF : Hid (fitB h x = true) := fitB_all hok hd hn
        have n1 : (x.day != h.day) = false := by simpa using hd
        have n2 : (x.known != h.known) = false := by simpa using hn
        clear hok hd hn
        go_wp2_with fail
        refine Plan.wp_region_tree (.rd 0 (.wr 1 (.rd 2 (.rd 3 (.rd 4 (.rd 5 (.rd 6 (.rd 7 (.rd 8 (.rd 9 (.rd 10 (.rd 11 (.rd 12 (.rd 13 (.rd 14 (.rd 15 (.rd 16 (.rd 17 (.rd 18 (.rd 19 (.rd 20 .done))))))))))))))))))))) (by kernel_rfl) (by kernel_rfl) ?_
        (repeat (first | (refine Plan.tree_read (v := ?_) rfl rfl ?_ ?_; rotate_left; (focus ((intro wS hSw; have hkS := (bcell hSw).1; try (have hkT := fun (b o : Nat) (h : b < w.heap.size) => hkS b o (by first | omega | (simp; omega) | (simp; done))); go_simp); try with_reducible rfl)); simp only [Act.put, List.setIfInBounds_toArray, List.set_cons_zero, List.set_cons_succ]) | (refine Plan.tree_skip rfl rfl ?_; simp only [Act.put, List.setIfInBounds_toArray, List.set_cons_zero, List.set_cons_succ])))
        refine Plan.tree_write rfl (fun K hK => ?_)
        go_simp
        go_at_call 55
        (with_reducible refine (K1.out _).mono ?_)
        rintro e1 w1 ⟨rfl, hb1⟩
        have kB := Plan.below_drew_go hb1
        go_simp
        (refine hK.out _ _ (kB) ?_; clear hK K; try simp only [Act.put, List.setIfInBounds_toArray, List.set_cons_zero, List.set_cons_succ])
        (repeat (first | (refine Plan.tree_read (v := ?_) rfl rfl ?_ ?_; rotate_left; (focus ((intro wS hSw; have hkS := (bcell hSw).1; try (have hkT := fun (b o : Nat) (h : b < w.heap.size) => hkS b o (by first | omega | (simp; omega) | (simp; done))); go_simp); try with_reducible rfl)); simp only [Act.put, List.setIfInBounds_toArray, List.set_cons_zero, List.set_cons_succ]) | (refine Plan.tree_skip rfl rfl ?_; simp only [Act.put, List.setIfInBounds_toArray, List.set_cons_zero, List.set_cons_succ])))
        refine Plan.tree_done ?_
        have hrow1 := row_below (hrow.alloc _) kB
        have c4 : w1.cell? ⟨wr.heap.size, 4, none⟩ = some (.int .i64 x.litres) := by rw [(bcell kB).1 _ _ (by simp)]; simp
        have hzw1 := kB.size
        simp only [World.size_alloc] at hzw1
        have hBz : Below w.heap.size w w1 := (hBw.alloc hz _).trans (kB.mono (by simp; omega))
        clear kB hb1 hrow hBw
        go_wp2_with (first | (at_builtin; go_loud (refine wpList_append_own _ rfl _ _ 29 rfl w.heap.size 3 i0 (.int .i64 0) 1 8 Tryd.underlying29 hi hz0 hz1 hz2 rfl (by decide) _ k _ rfl (hrow1.alloc _) ⟨w1.heap.size, 0, none⟩ 1 1 [.int .i64 x.litres] rfl rfl (cell_one_at (by simp) _ _) (by simp [Value.oneCell']) (by unfold maxLen; omega) (by omega) (by simp; omega) ?_); intro v' w2 hown' hgrow _; obtain ⟨g', cap', rfl, hgq1, hgq2⟩ := hown'.form (by omega); have hb2 := below_app hrow1 (by omega) hgrow) | fail)
        go_roundw
        case rel => exact ⟨k + 1, by omega, by go_num, by rw [HL.out]; unfold intsV at hown' ⊢; rw [List.map_append]; exact hown', take_all HX.out hAll.out HF.out, hBz.trans hb2, by have := hb2.size; omega⟩
        case measure => simp [intOf]; omega
    · have hke : k = e.length := by omega
      subst hke
      have hrow2 : wr.ownsRow w.heap.size 3 1 u3 (lits e).length (intsV (lits e)) := by
        have := hrow
        rw [List.take_length] at this
        rw [show (lits e).length = e.length by simp [lits]]
        exact this
      obtain ⟨D, cd, he, hD⟩ := ints_of_owns hrow2
      subst he
      have K := Lib.hid (sum_any (lits e) D cd wr hD (by simp [lits]; omega) (fun y hy => by obtain ⟨a, ha, rfl⟩ := List.mem_map.1 hy; exact hI a ha))
      have hR : Hid (postB e = ((sumX (lits e)).2 && decide ((sumX (lits e)).1 = 0))) := postB_yes hhd.out HNE.out hAll.out
      clear hrow hrow2 hAll
      generalize lits e = L at *
      cases hok : (sumX L).2 with
      | false =>
        go_wp2_with (first | (go_at_call 56; (with_reducible refine K.out.mono ?_); rintro e1 w1 ⟨rfl, rfl⟩) | fail)
        go_ret
        exact ⟨ret_bool (by rw [hR.out, hok]; simp), hBw⟩
      | true =>
        obtain ⟨z, hzz⟩ : ∃ z, ((sumX L).1 == 0) = z := ⟨_, rfl⟩
        go_wp2_with (first | (go_at_call 56; (with_reducible refine K.out.mono ?_); rintro e1 w1 ⟨rfl, rfl⟩) | fail)
        go_ret
        exact ⟨ret_bool (by rw [hR.out, hok, ← hzz]; rfl), hBw⟩
end Go.Proofs.YtminphldifncaaaDoor

/- Walks of the reference's Zero, posting and room. -/
namespace Go.Proofs.YtminphldifncaaaDoor
open Go.RowKit LG
attribute [local go_sem] alloc_drewN setCell_drewN shape_drewN

theorem postB_zero {e : List Et} (h : zeroX e = false) : postB e = false := by unfold postB; rw [h]; simp
theorem absI_nn (n : Int) : 0 ≤ absI n := by unfold absI; split <;> omega
theorem absI_cases (n : Int) : (0 ≤ n ∧ absI n = n) ∨ (n < 0 ∧ absI n = -n) := by unfold absI; split <;> omega
theorem absS_nil : absS [] = 0 := rfl
theorem absS_cons (x : Et) (l : List Et) : absS (x :: l) = absI x.litres + absS l := by unfold absS; simp
theorem absS_append (a b : List Et) : absS (a ++ b) = absS a + absS b := by
  induction a with
  | nil => simp [absS_nil]
  | cons x a ih => rw [List.cons_append, absS_cons, absS_cons, ih]; omega
theorem absS_nn (l : List Et) : 0 ≤ absS l := by
  induction l with
  | nil => simp [absS_nil]
  | cons x a ih => rw [absS_cons]; have := absI_nn x.litres; omega
theorem absS_take {l : List Et} {k : Nat} {x : Et} (h : l[k]? = some x) : absS (l.take (k + 1)) = absS (l.take k) + absI x.litres := by
  rw [List.take_add_one, h, absS_append]; simp [absS_cons, absS_nil]
theorem absS_le (l : List Et) (k : Nat) : absS (l.take k) ≤ absS l := by
  have := absS_append (l.take k) (l.drop k)
  rw [List.take_append_drop] at this
  have := absS_nn (l.drop k)
  omega
def roomR (lim : Int) (l : List Et) : Int := if absS l ≤ lim then lim - absS l else -1
end Go.Proofs.YtminphldifncaaaDoor

