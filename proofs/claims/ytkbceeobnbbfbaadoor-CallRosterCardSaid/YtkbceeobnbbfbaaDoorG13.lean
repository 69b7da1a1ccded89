/- Joined of: RW3 RW4 RW5 MapR RW6. -/
import Derived.Test.YtkbceeobnbbfbaaDoorG12
import Derived.Test.YtkbceeobnbbfbaaDoorG04
import Derived.Test.YtkbceeobnbbfbaaDoorG09
/- Walks of the comparison of rights, of Clone, and of Order. -/
set_option linter.unusedSimpArgs false
set_option linter.unusedVariables false
namespace Go.Proofs.YtkbceeobnbbfbaaDoor.RR
open Go.RowKit CM RG Go.Sort
attribute [local go_sem] alloc_drewN setCell_drewN shape_drewN

/-- What cmp.Compare says of two integers. -/
def cmpI (x y : Int) : Int := if x < y then -1 else if y < x then 1 else 0
theorem isnan_any (x : Int) (w : World) : Calls Tryd.prog 49 #[.int .i64 x] w fun e w' => e = .returned (.bool false) ∧ w = w' := by
  go_enter Tryd.func49, Tryd.ntmps49
  go_wp2_with fail
  go_ret
  exact ⟨by simp, rfl⟩
theorem compare_any (x y : Int) (w : World) : Calls Tryd.prog 39 #[.int .i64 x, .int .i64 y] w fun e w' => e = .returned (.int .i64 (cmpI x y)) ∧ w = w' := by
  have K := fun n w => isnan_any n w
  have hR : Hid (cmpI x y = if x < y then -1 else if y < x then 1 else 0) := rfl
  go_enter Tryd.func39, Tryd.ntmps39
  by_cases h1 : x < y
  · go_wp2_with (first | (go_at_call 49; (with_reducible refine (K _ _).mono ?_); rintro e1 w1 ⟨rfl, rfl⟩) | fail)
    go_ret
    exact ⟨ret_int (by rw [hR.out, if_pos (by omega)]), rfl⟩
  · by_cases h2 : y < x
    · go_wp2_with (first | (go_at_call 49; (with_reducible refine (K _ _).mono ?_); rintro e1 w1 ⟨rfl, rfl⟩) | fail)
      go_ret
      exact ⟨ret_int (by rw [hR.out, if_neg (by omega), if_pos (by omega)]), rfl⟩
    · go_wp2_with (first | (go_at_call 49; (with_reducible refine (K _ _).mono ?_); rintro e1 w1 ⟨rfl, rfl⟩) | fail)
      go_ret
      exact ⟨ret_int (by rw [hR.out, if_neg (by omega), if_neg (by omega)]), rfl⟩
def orI (a b : Int) : Int := if a = 0 then b else a
theorem or_any (a b : Int) (g : Nat) (w : World) (h0 : w.cell? ⟨g, 0, none⟩ = some (.int .i64 a)) (h1 : w.cell? ⟨g, 1, none⟩ = some (.int .i64 b)) : Calls Tryd.prog 38 #[.slice (some ⟨g, 0, none⟩) 2 2] w fun e w' => e = .returned (.int .i64 (orI a b)) ∧ w = w' := by
  by_cases ha : a = 0
  · subst ha
    by_cases hb : b = 0
    · subst hb
      go_enter Tryd.func38, Tryd.ntmps38
      go_wp2_with fail
      refine wp_loop_rounds 3 ?_
      rw [rounds_succ]
      go_wp2_with fail
      rw [rounds_succ]
      go_wp2_with fail
      rw [rounds_succ]
      go_wp2_with fail
      go_ret
      exact ⟨rfl, rfl⟩
    · have hb' : (b != 0) = true := by simpa using hb
      have hR : Hid (orI 0 b = b) := rfl
      go_enter Tryd.func38, Tryd.ntmps38
      go_wp2_with fail
      refine wp_loop_rounds 3 ?_
      rw [rounds_succ]
      go_wp2_with fail
      rw [rounds_succ]
      go_wp2_with fail
      go_ret
      exact ⟨ret_int hR.out.symm, rfl⟩
  · have ha' : (a != 0) = true := by simpa using ha
    have hR : Hid (orI a b = a) := if_neg ha
    go_enter Tryd.func38, Tryd.ntmps38
    go_wp2_with fail
    refine wp_loop_rounds 3 ?_
    rw [rounds_succ]
    go_wp2_with fail
    go_ret
    exact ⟨ret_int hR.out.symm, rfl⟩
def cfR (x y : Rt) : Int := orI (cmpI x.date y.date) (cmpI x.id y.id)
theorem ltOf_r : ltOf cfR = ltR := by
  funext x y
  show decide (cfR x y < 0) = ltR x y
  unfold cfR orI cmpI ltR
  rw [Bool.eq_iff_iff, decide_eq_true_iff]
  simp only [Bool.or_eq_true, Bool.and_eq_true, decide_eq_true_eq]
  repeat' split
  all_goals omega
theorem below_grow (w : World) (n : Nat) (os : Array Obj) : Below w.heap.size w (Go.Sort.grow (w.drewN n) os) :=
  ⟨rfl, rfl, rfl, by simp [Go.Sort.grow], fun k hk => by
    have := Go.Sort.heap_grow_old (w.drewN n) os (k := k) hk
    exact this⟩
def GrownD (W w' : World) : Prop := ∃ q os, w' = Go.Sort.grow (W.drewN q) os
theorem GrownD.below {W w' : World} (h : GrownD W w') : Below W.heap.size W w' := by obtain ⟨q, os, rfl⟩ := h; exact below_grow W q os
theorem GrownD.drew {W w' : World} (h : GrownD W w') : GrownD W w'.drew := by
  obtain ⟨q, os, rfl⟩ := h
  exact ⟨q + 1, os, rfl⟩
theorem GrownD.alloc {W w' : World} (h : GrownD W w') (o : Obj) : GrownD W (w'.alloc o) := by
  obtain ⟨q, os, rfl⟩ := h
  exact ⟨q, os ++ #[o], by rw [alloc_eq_grow, grow_grow]⟩
theorem GrownD.trans {w W w' : World} (h : GrownD w W) (g : GrownD W w') : GrownD w w' := by
  obtain ⟨q, os, rfl⟩ := h
  obtain ⟨q2, os2, rfl⟩ := g
  refine ⟨q + q2, os ++ os2, ?_⟩
  rw [show (Go.Sort.grow (w.drewN q) os).drewN q2 = Go.Sort.grow ((w.drewN q).drewN q2) os from rfl, grow_grow, World.drewN_drewN]
theorem GrownD.refl (W : World) : GrownD W W := ⟨0, #[], by simp [Go.Sort.grow, World.drewN]⟩
set_option maxHeartbeats 4000000 in
theorem closure_any (x y : Rt) (w : World) : Calls Tryd.prog 37 #[.agg (Rt.cells x).toArray, .agg (Rt.cells y).toArray] w fun e w' => e = .returned (.int .i64 (cfR x y)) ∧ ∃ q os', w' = grow (w.drewN q) os' := by
  show Calls Tryd.prog 37 #[.agg #[.int .i64 x.id, .int .i64 x.owner, .int .i64 x.date, .int .i64 x.place, .int .i64 x.rate, .int .i64 x.from1, .int .i64 x.until1, .int .i64 x.back, .int .i64 x.backTo], .agg #[.int .i64 y.id, .int .i64 y.owner, .int .i64 y.date, .int .i64 y.place, .int .i64 y.rate, .int .i64 y.from1, .int .i64 y.until1, .int .i64 y.back, .int .i64 y.backTo]] w fun e w' => e = .returned (.int .i64 (cfR x y)) ∧ GrownD w w'
  have K1 : Hid (∀ w, Calls Tryd.prog 39 #[.int .i64 x.date, .int .i64 y.date] w fun e w' => e = .returned (.int .i64 (cmpI x.date y.date)) ∧ w = w') := fun w => compare_any _ _ w
  have K2 : Hid (∀ w, Calls Tryd.prog 39 #[.int .i64 x.id, .int .i64 y.id] w fun e w' => e = .returned (.int .i64 (cmpI x.id y.id)) ∧ w = w') := fun w => compare_any _ _ w
  have HR : Hid (cfR x y = orI (cmpI x.date y.date) (cmpI x.id y.id)) := rfl
  generalize cfR x y = r at HR ⊢
  generalize cmpI x.date y.date = a at *
  generalize cmpI x.id y.id = b at *
  have hG : GrownD w ((w.alloc (.cells (Value.cells (.agg #[.int .i64 x.id, .int .i64 x.owner, .int .i64 x.date, .int .i64 x.place, .int .i64 x.rate, .int .i64 x.from1, .int .i64 x.until1, .int .i64 x.back, .int .i64 x.backTo])) 36)).alloc (.cells (Value.cells (.agg #[.int .i64 y.id, .int .i64 y.owner, .int .i64 y.date, .int .i64 y.place, .int .i64 y.rate, .int .i64 y.from1, .int .i64 y.until1, .int .i64 y.back, .int .i64 y.backTo])) 36)) := ((GrownD.refl w).alloc _).alloc _
  simp only [Value.cells] at hG
  go_enter Tryd.func37, Tryd.ntmps37
  go_wp2_with fail
  obtain ⟨W, hW⟩ : ∃ W, W = ((w.alloc (.cells (Value.cells (.agg #[.int .i64 x.id, .int .i64 x.owner, .int .i64 x.date, .int .i64 x.place, .int .i64 x.rate, .int .i64 x.from1, .int .i64 x.until1, .int .i64 x.back, .int .i64 x.backTo])) 36)).alloc (.cells (Value.cells (.agg #[.int .i64 y.id, .int .i64 y.owner, .int .i64 y.date, .int .i64 y.place, .int .i64 y.rate, .int .i64 y.from1, .int .i64 y.until1, .int .i64 y.back, .int .i64 y.backTo])) 36)) := ⟨_, rfl⟩
  have z0 : W.heap.size = w.heap.size + 1 + 1 := by rw [hW]; simp
  have qa : W.cell? ⟨w.heap.size, 0, none⟩ = some (.int .i64 x.id) := by rw [hW, World.cell?_alloc_past _ _ _ (by simp), World.cell?_alloc_at _ _ _ _ rfl]; rfl
  have qb : W.cell? ⟨w.heap.size, 2, none⟩ = some (.int .i64 x.date) := by rw [hW, World.cell?_alloc_past _ _ _ (by simp), World.cell?_alloc_at _ _ _ _ rfl]; rfl
  have qc : W.cell? ⟨w.heap.size + 1, 0, none⟩ = some (.int .i64 y.id) := by rw [hW, World.cell?_alloc_at _ _ _ _ (by simp)]; rfl
  have qd : W.cell? ⟨w.heap.size + 1, 2, none⟩ = some (.int .i64 y.date) := by rw [hW, World.cell?_alloc_at _ _ _ _ (by simp)]; rfl
  simp only [Value.cells] at hW
  rw [← hW] at hG ⊢
  clear hW
  have hl0 : w.heap.size < W.heap.size := by omega
  have hl1 : w.heap.size + 1 < W.heap.size := by omega
  refine Plan.wp_region_plan (GrownD W) 12 [(0, true), (1, true), (2, true), (3, true), (5, true), (6, true), (7, true), (8, true), (4, false), (9, false), (10, false), (11, false), (12, false)] (by kernel_rfl) (by kernel_rfl) (GrownD.refl W).drew ?_
  (repeat (first | (refine Plan.plan_read (v := ?_) rfl rfl ?_ ?_; rotate_left; (focus ((intro wS hSw; have hkS := (bcell (GrownD.below hSw)).1; go_simp); try with_reducible rfl)); try simp only [Act.put, List.setIfInBounds_toArray, List.set_cons_zero, List.set_cons_succ]) | (refine Plan.plan_skip rfl rfl ?_; try simp only [Act.put, List.setIfInBounds_toArray, List.set_cons_zero, List.set_cons_succ])))
  (refine Plan.plan_write rfl (fun K hK => ?_); try go_simp)
  go_at_call 39
  (with_reducible refine (K1.out _).mono ?_)
  rintro e1 w1 ⟨rfl, rfl⟩
  refine hK.out _ _ (GrownD.refl W).drew ?_
  clear hK K
  try simp only [Act.put, List.setIfInBounds_toArray, List.set_cons_zero, List.set_cons_succ]
  (refine Plan.plan_write rfl (fun K hK => ?_); try go_simp)
  go_at_call 39
  (with_reducible refine (K2.out _).mono ?_)
  rintro e1 w1 ⟨rfl, rfl⟩
  refine hK.out _ _ (GrownD.refl W).drew ?_
  clear hK K
  try simp only [Act.put, List.setIfInBounds_toArray, List.set_cons_zero, List.set_cons_succ]
  (refine Plan.plan_write rfl (fun K hK => ?_); try go_simp)
  refine hK.out _ _ ((GrownD.refl W).alloc _).drew ?_
  clear hK K
  try simp only [Act.put, List.setIfInBounds_toArray, List.set_cons_zero, List.set_cons_succ]
  (refine Plan.plan_write rfl (fun K hK => ?_); try go_simp)
  have u0 : (W.alloc (Obj.cells #[.int .i64 a, .int .i64 b] 3)).drew.cell? ⟨w.heap.size + 1 + 1, 0, none⟩ = some (.int .i64 a) := by rw [← z0]; simp
  have u1 : (W.alloc (Obj.cells #[.int .i64 a, .int .i64 b] 3)).drew.cell? ⟨w.heap.size + 1 + 1, 1, none⟩ = some (.int .i64 b) := by rw [← z0]; simp
  have K3 := Lib.hid (or_any a b _ _ u0 u1)
  go_at_call 38
  (with_reducible refine K3.out.mono ?_)
  rintro e1 w1 ⟨rfl, rfl⟩
  refine hK.out _ _ ((GrownD.refl W).alloc _).drew ?_
  clear hK K
  try simp only [Act.put, List.setIfInBounds_toArray, List.set_cons_zero, List.set_cons_succ]
  (refine Plan.plan_last rfl (fun K hK => ?_); go_simp; refine hK.out _ _ ?_; clear hK K; try simp only [Act.put, List.setIfInBounds_toArray, List.set_cons_zero, List.set_cons_succ])
  go_wp2_with fail
  go_ret
  exact ⟨ret_int HR.out.symm, hG.trans (((GrownD.refl W).alloc _).drew)⟩
/-- The row of rights, as the sort reads it. -/
theorem holds_rights {w : World} {g : Nat} {A : List Rt} (h : ∀ k r, A[k]? = some r → ∀ j u, r.cells[j]? = some u → w.cell? ⟨g, k * 9 + j, none⟩ = some u ∧ w.frozen? ⟨g, k * 9 + j, none⟩ = false) : HoldsK Rt.cells 9 w g 0 A.toArray := by
  intro t ht
  rw [size_flatK] at ht
  rw [get_flatK _ _ _ _ ht, Nat.zero_add]
  have hk : t / 9 < A.length := by simp at ht; omega
  obtain ⟨r, hr⟩ : ∃ r, A[t / 9]? = some r := ⟨_, List.getElem?_eq_getElem hk⟩
  have e1 : A.toArray[t / 9]! = r := by
    rw [getElem!_pos A.toArray (t / 9) (by simpa using hk)]
    simpa using (List.getElem?_eq_some_iff.1 hr).2
  rw [e1]
  have hj : t % 9 < r.cells.length := by rw [rt_len]; omega
  have := h (t / 9) r hr (t % 9) _ (List.getElem?_eq_getElem hj)
  rw [show t / 9 * 9 + t % 9 = t by omega] at this
  show w.cell? _ = some r.cells[t % 9]! ∧ _
  rw [getElem!_pos r.cells (t % 9) hj]
  exact this
theorem rights_of_holds {w : World} {g : Nat} {d : Array Rt} (h : HoldsK Rt.cells 9 w g 0 d) (hg : g < w.heap.size) : RightsAt w w.heap.size (some ⟨g, 0, none⟩) d.toList := fun hl => by
  refine ⟨g, 0, rfl, hg, fun k r hk j v hj => ?_⟩
  have hkl : k < d.size := by simpa using (List.getElem?_eq_some_iff.1 hk).1
  have hj7 : j < 9 := (List.getElem?_eq_some_iff.1 hj).1
  have := (h.cell (i := k) (c := j) hkl hj7).1
  have e1 : d[k]! = r := by
    rw [getElem!_pos d k hkl]
    have := (List.getElem?_eq_some_iff.1 hk).2
    simpa using this
  rw [e1, getElem!_pos r.cells j (by rw [rt_len]; exact hj7), (List.getElem?_eq_some_iff.1 hj).2] at this
  rw [show 0 + (k * 9 + j) = 0 + k * 9 + j by omega]
  exact this
theorem below_swk {α : Type} [Inhabited α] {enc : α → List Value} {k : Nat} {w0 w : World} {blk off B : Nat} {d : Array α} (h : SWK enc k w0 blk off d w) (hB : B ≤ blk) (hb : blk ≤ w0.heap.size) : Below B w0 w := by
  obtain ⟨n, os, rfl⟩ := h
  refine ⟨rfl, rfl, rfl, size_sortWorldK_c enc k w0 blk off n d os, fun j hj => ?_⟩
  unfold sortWorldK
  have h1 : (grow (putRowK enc k (Sort.ahead w0 n) blk off d) os).heap[j]? = (putRowK enc k (Sort.ahead w0 n) blk off d).heap[j]? := by
    show ((putRowK enc k (Sort.ahead w0 n) blk off d).heap ++ os)[j]? = _
    rw [Array.getElem?_append_left (by rw [size_putRowK]; show j < w0.heap.size; omega)]
  rw [h1]
  show (Sort.mapBlock (Sort.ahead w0 n) blk _).heap[j]? = _
  unfold Sort.mapBlock
  show ((Sort.ahead w0 n).heap.modify blk _)[j]? = w0.heap[j]?
  rw [Array.getElem?_modify, if_neg (by omega)]
  rfl
theorem ins_nil (p : Option Addr) (cc : Nat) (fv : Value) (w : World) : Calls Tryd.prog 51 #[.slice p 0 cc, .int .i64 0, .int .i64 0, fv] w fun x w' => x = .returned (.tuple #[]) ∧ w = w' := by
  go_enter Tryd.func51, Tryd.ntmps51
  go_wp2_with fail
  refine wp_loop_rounds 1 ?_
  rw [rounds_succ]
  go_wp2_with fail
  go_end0
  exact ⟨rfl, rfl⟩
theorem stable_nil (p : Option Addr) (cc : Nat) (fv : Value) (w : World) : Calls Tryd.prog 48 #[.slice p 0 cc, .int .i64 0, fv] w fun x w' => x = .returned (.tuple #[]) ∧ w = w' := by
  have K := fun w => ins_nil p cc fv w
  go_enter Tryd.func48, Tryd.ntmps48
  go_wp2_with fail
  refine wp_loop_rounds 1 ?_
  rw [rounds_succ]
  go_wp2_with (first | (go_at_call 51; (with_reducible refine (K _).mono ?_); rintro e1 w1 ⟨rfl, rfl⟩) | fail)
  refine wp_loop_rounds 1 ?_
  rw [rounds_succ]
  go_wp2_with fail
  go_end0
  exact ⟨rfl, rfl⟩
theorem sort_nil (p : Option Addr) (cc : Nat) (fv : Value) (w : World) : Calls Tryd.prog 36 #[.slice p 0 cc, fv] w fun x w' => x = .returned (.tuple #[]) ∧ w = w' := by
  have K := fun w => stable_nil p cc fv w
  go_enter Tryd.func36, Tryd.ntmps36
  go_wp2_with (first | (go_at_call 48; (with_reducible refine (K _).mono ?_); rintro e1 w1 ⟨rfl, rfl⟩) | fail)
  go_end0
  exact ⟨rfl, rfl⟩
set_option maxHeartbeats 1000000 in
/-- The sort of a row of rights of the call's own, nil or not. -/
theorem sort_any (A : List Rt) (v : Value) (w : World) {base : Nat} (hv : w.ownsRow base 36 9 v A.length (rowR A)) (hb : base ≤ w.heap.size) (hA : A.length ≤ 1000000) :
    Calls Tryd.prog 36 #[v, .func (.func 37) #[] #[]] w fun x w' => x = .returned (.tuple #[]) ∧ ∃ C cc, v = .slice C A.length cc ∧ RightsAt w' w'.heap.size C (orderR A) ∧ (∀ a, C = some a → base ≤ a.block) ∧ Below base w w' := by
  by_cases hn : A.length = 0
  · obtain ⟨C, cc, rfl, _, hF⟩ := rowk_of_owns rt_len hv
    obtain rfl : A = [] := List.eq_nil_of_length_eq_zero hn
    refine (sort_nil C cc _ w).mono ?_
    rintro x w' ⟨rfl, rfl⟩
    exact ⟨rfl, C, cc, rfl, RightsAt.nil _ _ _, hF, Below.refl _ _⟩
  · obtain ⟨g, cc, rfl, hbg, hgw, hcells⟩ := rowkArr_of_owns rt_len hn hv
    have hH := holds_rights hcells
    have := st_sort (α := Rt) Rt.cells cfR 37 #[] g 0 cc A.toArray w (by rw [ltOf_r]; exact swoR) Tryd.call37 (fun m os dk _ x y => closure_any x y _) ⟨rt_len, rt_one, hH, hgw⟩ (by simp; omega)
    rw [show A.toArray.size = A.length by simp] at this
    refine this.mono ?_
    rintro x w' ⟨rfl, d, hst, hsw⟩
    rw [ltOf_r] at hst
    have hd : d.toList = orderR A := ST.Stab.eq ltR swoR (by simpa using hst) (ST.insSort_stab ltR swoR A)
    have hbw := below_swk hsw hbg (by omega)
    refine ⟨rfl, _, cc, rfl, ?_, fun a ha => by cases ha; exact hbg, hbw⟩
    rw [← hd]
    have hds : d.size = A.toArray.size := by have := hst.length; simpa using this
    exact rights_of_holds (hsw.holds hgw hH hds) (by have := hbw.size; omega)
theorem reads_rights {w : World} {B : Nat} {C : Option Addr} {A : List Rt} (h : RightsAt w B C A) : Reads w B 9 C A.length (rowR A) := reads_rowk rt_len (rights_row.1 h) (by decide)
theorem rowR_one (A : List Rt) : ∀ u ∈ rowR A, u.oneCell' = true := fun u hu => by
  obtain ⟨e, _, h⟩ := List.mem_flatMap.1 hu
  exact rt_one e u h
theorem rowR_snoc (A : List Rt) (x : Rt) : rowR (A ++ [x]) = rowR A ++ x.cells := by simp [rowR]
theorem rowR_append (A B : List Rt) : rowR (A ++ B) = rowR A ++ rowR B := by simp [rowR]
set_option maxRecDepth 100000 in
set_option maxHeartbeats 1000000 in
theorem clone_any (l : List Rt) (C : Option Addr) (cc : Nat) (w : World) {B : Nat} (hC : RightsAt w B C l) (hB : B ≤ w.heap.size) (hl : l.length ≤ 1000000) :
    Calls Tryd.prog 21 #[.slice C l.length cc] w fun x w' => ∃ v, x = .returned v ∧ w'.ownsRow w.heap.size 36 9 v l.length (rowR l) ∧ Below w.heap.size w w' := by
  obtain ⟨i0, hi, hz0, hz1, hz2⟩ := info_parts Tryd.infoRight
  have qT : ∀ (w : World) (a : Option Addr) (n c : Nat), (binOp .eql 39 (.slice a n c) (.slice none 0 0)).run Tryd.prog w = .ok (.bool a.isNone) w := fun w a n c => Lib.run_eql_slice_nil w _ _ a n c 0 0 Tryd.underlying39
  rcases C with _ | ad
  · have h0 : l = [] := by
      rcases l with _ | ⟨x, l⟩
      · rfl
      · obtain ⟨b, off, e, _⟩ := hC (by simp); cases e
    subst h0
    go_enter Tryd.func21, Tryd.ntmps21
    go_wp2_with fail
    go_ret
    exact ⟨_, rfl, World.ownsRow_nil _ _ _ _, Below.refl _ _⟩
  · have hR := reads_rights (hC.below ((Below.refl w.heap.size w).alloc (Nat.le_refl _) (.cells #[] 36) |>.mono hB))
    have kO : (w.alloc (.cells #[] 36)).ownsRow w.heap.size 36 9 (.slice (some ⟨w.heap.size, 0, none⟩) 0 0) 0 [] := World.ownsRow_made w #[] 0 (Nat.le_refl _) (by unfold maxLen; omega) (by simp)
    go_enter Tryd.func21, Tryd.ntmps21
    go_wp2_with (first | (at_builtin; go_loud (refine wpList_append_any _ rfl _ _ 39 rfl w.heap.size 36 i0 _ 9 72 Tryd.underlying39 hi hz0 hz1 hz2 rfl (by decide) _ 0 [] rfl kO B (some ad) l.length cc (rowR l) rfl hR (rowR_one l) (by unfold maxLen; omega) (by omega) (by simp) ?_); intro v' w2 hown' hgrow hat) | fail)
    go_ret
    exact ⟨v', rfl, by have h := hown'; rw [Nat.zero_add, List.nil_append] at h; exact h, (below_new _ _).trans (below_own kO (by simp) hgrow)⟩
/-- Rights in the order of seniority. -/
def RightsRes (L : List Rt) (w : World) (x : Ending) (w' : World) : Prop := ∃ C cc, x = .returned (.slice C L.length cc) ∧ L.length ≤ cc ∧ RightsAt w' w'.heap.size C L ∧ Below w.heap.size w w'
set_option maxHeartbeats 1000000 in
theorem order_any (l : List Rt) (C : Option Addr) (cc : Nat) (w : World) {B : Nat} (hC : RightsAt w B C l) (hB : B ≤ w.heap.size) (hl : l.length ≤ 1000000) :
    Calls Tryd.prog 20 #[.slice C l.length cc] w (RightsRes (orderR l) w) := by
  have K := Lib.hid (clone_any l C cc w hC hB hl)
  go_enter Tryd.func20, Tryd.ntmps20
  go_wp2_with (first | (go_at_call 21; (with_reducible refine K.out.mono ?_); rintro x1 w1 ⟨v, rfl, hv, hb1⟩; obtain ⟨D, cd, he, _, _⟩ := rowk_of_owns rt_len hv; have hcap := owns_cap hv he; have K2 := Lib.hid (sort_any l v w1 hv hb1.size hl); subst he; clear hv) | (go_at_call 36; (with_reducible refine K2.out.mono ?_); rintro x2 w2 ⟨rfl, C2, c2, he2, hE, hF, hb2⟩; have HE2 := Lib.hid he2; clear he2) | fail)
  have he2 := HE2.out
  injection he2 with q1 q2 q3
  subst q1
  subst q3
  go_ret
  exact ⟨D, cd, by rw [order_len]; rfl, by rw [order_len]; exact hcap, hE, hb1.trans hb2⟩
end Go.Proofs.YtkbceeobnbbfbaaDoor.RR

/- Walks of applies and change. -/
namespace Go.Proofs.YtkbceeobnbbfbaaDoor.RR
open Go.RowKit CM RG
attribute [local go_sem] alloc_drewN setCell_drewN shape_drewN

set_option maxHeartbeats 8000000 in
theorem applies_any (X : Bas) (pl : Pl) (d : Dl) (day : Int) (w : World) (hM : Months w) (hr : RtIn d.right) : Calls Tryd.prog 17 #[.agg #[.string X.nm, .slice X.a1 X.l1 X.c1, .int .i64 X.cl, .slice X.P pl.length X.cP, .slice X.a4 X.l4 X.c4, .slice X.a5 X.l5 X.c5, .slice X.a6 X.l6 X.c6, .slice X.a7 X.l7 X.c7, .slice X.a8 X.l8 X.c8, .slice X.a9 X.l9 X.c9, .int .i64 X.er], .agg #[.int .i64 d.kind, .int .i64 d.known, .int .i64 d.right.id, .int .i64 d.right.owner, .int .i64 d.right.date, .int .i64 d.right.place, .int .i64 d.right.rate, .int .i64 d.right.from1, .int .i64 d.right.until1, .int .i64 d.right.back, .int .i64 d.right.backTo, .int .i64 d.from1, .int .i64 d.until1], .int .i64 day] w (BoolIs (appB X.l1 pl.length day d) w) := by
  have hB0 : Below w.heap.size w ((w.alloc (.cells (Value.cells (.agg #[.string X.nm, .slice X.a1 X.l1 X.c1, .int .i64 X.cl, .slice X.P pl.length X.cP, .slice X.a4 X.l4 X.c4, .slice X.a5 X.l5 X.c5, .slice X.a6 X.l6 X.c6, .slice X.a7 X.l7 X.c7, .slice X.a8 X.l8 X.c8, .slice X.a9 X.l9 X.c9, .int .i64 X.er])) 31)).alloc (.cells (Value.cells (.agg #[.int .i64 d.kind, .int .i64 d.known, .int .i64 d.right.id, .int .i64 d.right.owner, .int .i64 d.right.date, .int .i64 d.right.place, .int .i64 d.right.rate, .int .i64 d.right.from1, .int .i64 d.right.until1, .int .i64 d.right.back, .int .i64 d.right.backTo, .int .i64 d.from1, .int .i64 d.until1])) 38)) := ((Below.refl _ _).alloc (Nat.le_refl _) _).alloc (by simp) _
  simp only [Value.cells] at hB0
  have HR : Hid (appB X.l1 pl.length day d = if d.kind = 0 then rightB X.l1 pl.length d.right
    else if d.kind = 1 then wit d.right.owner 0 (X.l1 - 1) && (decide (d.from1 ≤ day) && decide (day ≤ d.until1))
    else if d.kind = 2 then wit d.right.place 0 (pl.length - 1) && (decide (d.from1 ≤ day) && decide (day ≤ d.until1))
    else if d.kind = 3 then decide (d.from1 ≤ day)
    else false) := rfl
  obtain ⟨e1, he1⟩ : ∃ c, decide (d.from1 ≤ day) = c := ⟨_, rfl⟩
  obtain ⟨e2, he2⟩ : ∃ c, decide (day ≤ d.until1) = c := ⟨_, rfl⟩
  rw [he1, he2] at HR
  by_cases k0 : d.kind = 0
  · have HX : Hid (appB X.l1 pl.length day d = rightB X.l1 pl.length d.right) := by show _ = _; rw [HR.out, if_pos k0]
    have b0 : (d.kind == 0) = true := by simpa using k0
    have K : Hid (∀ wx, Below w.heap.size w wx → Calls Tryd.prog 32 #[.agg #[.string X.nm, .slice X.a1 X.l1 X.c1, .int .i64 X.cl, .slice X.P pl.length X.cP, .slice X.a4 X.l4 X.c4, .slice X.a5 X.l5 X.c5, .slice X.a6 X.l6 X.c6, .slice X.a7 X.l7 X.c7, .slice X.a8 X.l8 X.c8, .slice X.a9 X.l9 X.c9, .int .i64 X.er], .agg #[.int .i64 d.right.id, .int .i64 d.right.owner, .int .i64 d.right.date, .int .i64 d.right.place, .int .i64 d.right.rate, .int .i64 d.right.from1, .int .i64 d.right.until1, .int .i64 d.right.back, .int .i64 d.right.backTo]] wx (BoolIs (rightB X.l1 pl.length d.right) wx)) := fun wx h => right_any X pl d.right wx (hM.below hM.pos h) hr
    generalize rightB X.l1 pl.length d.right = R at K HX
    generalize appB X.l1 pl.length day d = R2 at HX ⊢
    clear HR k0
    go_enter Tryd.func17, Tryd.ntmps17
    go_wp2_with (first | (go_at_call 32; (with_reducible refine (K.out _ hB0).mono ?_); rintro e1 w1 ⟨rfl, hb1⟩) | fail)
    go_ret
    exact ⟨ret_bool HX.out.symm, hB0.trans (hb1.mono (by simp; omega))⟩
  have b0 : (d.kind == 0) = false := by simpa using k0
  by_cases k1 : d.kind = 1
  · obtain ⟨bo, ho⟩ : ∃ c, wit d.right.owner 0 (X.l1 - 1) = c := ⟨_, rfl⟩
    have HX : Hid (appB X.l1 pl.length day d = (bo && (e1 && e2))) := by show _ = _; rw [HR.out, if_neg k0, if_pos k1, ho]
    have b1 : (d.kind == 1) = true := by simpa using k1
    have K : Hid (∀ wx, Calls Tryd.prog 33 #[.int .i64 d.right.owner, .int .i64 X.l1] wx fun e w' => e = .returned (.bool bo) ∧ wx = w') := fun wx => by rw [← ho]; exact index_any _ _ wx
    generalize appB X.l1 pl.length day d = R2 at HX ⊢
    clear HR k0 k1 ho
    cases bo <;> cases e1 <;> cases e2
    all_goals
      go_enter Tryd.func17, Tryd.ntmps17
      go_wp2_with (first | (go_at_call 33; (with_reducible refine (K.out _).mono ?_); rintro e1 w1 ⟨rfl, rfl⟩) | fail)
      go_ret
      exact ⟨ret_bool (by rw [HX.out]; rfl), hB0⟩
  have b1 : (d.kind == 1) = false := by simpa using k1
  by_cases k2 : d.kind = 2
  · obtain ⟨bo, ho⟩ : ∃ c, wit d.right.place 0 (pl.length - 1) = c := ⟨_, rfl⟩
    have HX : Hid (appB X.l1 pl.length day d = (bo && (e1 && e2))) := by show _ = _; rw [HR.out, if_neg k0, if_neg k1, if_pos k2, ho]
    have b2 : (d.kind == 2) = true := by simpa using k2
    have K : Hid (∀ wx, Calls Tryd.prog 33 #[.int .i64 d.right.place, .int .i64 pl.length] wx fun e w' => e = .returned (.bool bo) ∧ wx = w') := fun wx => by rw [← ho]; exact index_any _ _ wx
    generalize appB X.l1 pl.length day d = R2 at HX ⊢
    clear HR k0 k1 k2 ho
    cases bo <;> cases e1 <;> cases e2
    all_goals
      go_enter Tryd.func17, Tryd.ntmps17
      go_wp2_with (first | (go_at_call 33; (with_reducible refine (K.out _).mono ?_); rintro e1 w1 ⟨rfl, rfl⟩) | fail)
      go_ret
      exact ⟨ret_bool (by rw [HX.out]; rfl), hB0⟩
  have b2 : (d.kind == 2) = false := by simpa using k2
  by_cases k3 : d.kind = 3
  · have HX : Hid (appB X.l1 pl.length day d = e1) := by show _ = _; rw [HR.out, if_neg k0, if_neg k1, if_neg k2, if_pos k3]
    have b3 : (d.kind == 3) = true := by simpa using k3
    generalize appB X.l1 pl.length day d = R2 at HX ⊢
    clear HR k0 k1 k2 k3
    go_enter Tryd.func17, Tryd.ntmps17
    go_wp2_with fail
    go_ret
    exact ⟨ret_bool HX.out.symm, hB0⟩
  have b3 : (d.kind == 3) = false := by simpa using k3
  have HX : Hid (appB X.l1 pl.length day d = false) := by show _ = _; rw [HR.out, if_neg k0, if_neg k1, if_neg k2, if_neg k3]
  generalize appB X.l1 pl.length day d = R2 at HX ⊢
  clear HR k0 k1 k2 k3
  go_enter Tryd.func17, Tryd.ntmps17
  go_wp2_with fail
  go_ret
  exact ⟨ret_bool HX.out.symm, hB0⟩
end Go.Proofs.YtkbceeobnbbfbaaDoor.RR

/- The walk of change. (Printed by gen_rw5.py.) -/
namespace Go.Proofs.YtkbceeobnbbfbaaDoor.RR
open Go.RowKit CM RG
attribute [local go_sem] alloc_drewN setCell_drewN shape_drewN

def lastK (k : Int) (L : List Dl) : Option Dl := (L.filter (fun d => decide (d.kind = k))).foldl pick none
theorem lastK_snoc (k : Int) (L : List Dl) (d : Dl) : lastK k (L ++ [d]) = if d.kind = k then pick (lastK k L) d else lastK k L := by
  unfold lastK
  rw [List.filter_append, List.foldl_append]
  by_cases h : d.kind = k
  · rw [if_pos h]; simp [List.filter, h]
  · rw [if_neg h]; simp [List.filter, h]
def endT (L : List Dl) : Bool := L.any (fun d => decide (d.kind = 3))
/-- What change says: ended, or sold and moved. -/
def changeL (r : Rt) (L : List Dl) : Option Rt := if endT L then none
  else some { r with owner := match lastK 1 L with | none => r.owner | some d => d.right.owner, place := match lastK 2 L with | none => r.place | some d => d.right.place }
theorem arr_setCells {w : World} {g n : Nat} {F : Nat → Value} (h : Arr w g n F) (vs : List Value) (hv : vs.length = n) : Arr (w.setCells g 0 vs) g n (fun j => vs.getD j undef) := fun j hj => by
  refine ⟨?_, (World.frozen?_setCells g vs 0 w _).trans (h j hj).2⟩
  have := World.cell?_setCells_in g vs 0 w (fun j hj => by rw [Nat.zero_add, (h j (by omega)).1]; rfl) j (by omega)
  rw [Nat.zero_add] at this
  rw [this]
  simp [List.getD_eq_getElem?_getD, hv, hj]
theorem far_setCells {w : World} {g n b : Nat} {F : Nat → Value} (h : Arr w g n F) (hg : g ≠ b) (vs : List Value) : Arr (w.setCells b 0 vs) g n F := fun j hj =>
  ⟨(World.cell?_setCells_out b vs 0 w ⟨g, j, none⟩ (fun e => absurd e hg)).trans (h j hj).1, (World.frozen?_setCells b vs 0 w _).trans (h j hj).2⟩
theorem below_setCells {B b : Nat} {w0 w : World} (h : Below B w0 w) (hb : B ≤ b) : ∀ (vs : List Value) (o : Nat), Below B w0 (w.setCells b o vs)
  | [], o => h
  | v :: vs, o => below_setCells (h.setCell (p := ⟨b, o, none⟩) hb v) hb vs (o + 1)
theorem size_setCells' (b : Nat) : ∀ (vs : List Value) (o : Nat) (w : World), (w.setCells b o vs).heap.size = w.heap.size
  | [], _, _ => rfl
  | v :: vs, o, w => (size_setCells' b vs (o + 1) _).trans (by simp)
/-- A variable that holds a deal: of what was picked, two cells are looked at. -/
def HeldD (w : World) (b o : Nat) (x : Option Dl) (f : Dl → Int) (s : Bool) : Prop :=
  s = x.isSome ∧ ∃ (F : Nat → Value) (n v : Int), Arr w b 13 F ∧ F 1 = .int .i64 n ∧ F o = .int .i64 v ∧ ∀ d, x = some d → n = d.known ∧ v = f d
theorem HeldD.put {w : World} {b o : Nat} {x : Option Dl} {f : Dl → Int} {s : Bool} (h : HeldD w b o x f s) (d : Dl) (ho : d.cells.getD o undef = .int .i64 (f d)) : HeldD (w.setCells b 0 d.cells) b o (some d) f true := by
  obtain ⟨_, F, n, v, hA, _⟩ := h
  exact ⟨rfl, _, d.known, f d, arr_setCells hA _ (dl_len d), rfl, ho, fun e he => by cases he; exact ⟨rfl, rfl⟩⟩
theorem HeldD.far {w : World} {b o c : Nat} {x : Option Dl} {f : Dl → Int} {s : Bool} (h : HeldD w b o x f s) (hb : b ≠ c) (vs : List Value) : HeldD (w.setCells c 0 vs) b o x f s := by
  obtain ⟨h0, F, n, v, hA, hr⟩ := h
  exact ⟨h0, F, n, v, far_setCells hA hb vs, hr⟩
theorem HeldD.alloc {w : World} {b o : Nat} {x : Option Dl} {f : Dl → Int} {s : Bool} (h : HeldD w b o x f s) (hb : b < w.heap.size) (ob : Obj) : HeldD (w.alloc ob) b o x f s := by
  obtain ⟨h0, F, n, v, hA, hr⟩ := h
  exact ⟨h0, F, n, v, hA.alloc hb ob, hr⟩
theorem arr_new (w : World) (A : Array Value) (t : TypeId) {b n : Nat} (hb : b = w.heap.size) (hn : A.size = n) : Arr (w.alloc (.cells A t)) b n (fun j => A.getD j undef) := fun j hj => by
  subst hb
  refine ⟨?_, by unfold World.frozen?; rw [show (⟨w.heap.size, j, none⟩ : Addr).block = w.heap.size from rfl, heap_alloc_new]; simp⟩
  rw [World.cell?_alloc_new]
  simp [hn, hj]
theorem endT_snoc (L : List Dl) (d : Dl) : endT (L ++ [d]) = (endT L || decide (d.kind = 3)) := by simp [endT]
theorem endT_take {L : List Dl} {k : Nat} {d : Dl} (h : L[k]? = some d) (hd : d.kind = 3) : endT L = true := List.any_eq_true.2 ⟨d, List.mem_of_getElem? h, by simpa using hd⟩
theorem take_snoc_d {L : List Dl} {k : Nat} {d : Dl} (h : L[k]? = some d) : L.take (k + 1) = L.take k ++ [d] := by rw [List.take_add_one, h]; rfl
set_option maxRecDepth 100000 in
set_option maxHeartbeats 8000000 in
theorem change_any (r : Rt) (L : List Dl) (C : Option Addr) (cc : Nat) (w : World) {B : Nat} (hC : DealsAt w B C L) (hB : B ≤ w.heap.size) (hl : L.length ≤ 1000000) :
    Calls Tryd.prog 19 #[.agg #[.int .i64 r.id, .int .i64 r.owner, .int .i64 r.date, .int .i64 r.place, .int .i64 r.rate, .int .i64 r.from1, .int .i64 r.until1, .int .i64 r.back, .int .i64 r.backTo], .slice C L.length cc] w (fun e w' => Below w.heap.size w w' ∧ ((changeL r L = none ∧ e = .returned (.tuple #[.agg #[.int .i64 0, .int .i64 0, .int .i64 0, .int .i64 0, .int .i64 0, .int .i64 0, .int .i64 0, .int .i64 0, .int .i64 0], .bool false])) ∨
      ∃ q, changeL r L = some q ∧ e = .returned (.tuple #[.agg #[.int .i64 q.id, .int .i64 q.owner, .int .i64 q.date, .int .i64 q.place, .int .i64 q.rate, .int .i64 q.from1, .int .i64 q.until1, .int .i64 q.back, .int .i64 q.backTo], .bool true]))) := by
  go_enter Tryd.func19, Tryd.ntmps19
  go_wp2_with fail
  go_loopw [8, 9, 14] (fun s8 s9 i wr => ∃ (k : Nat) (b1 b2 : Bool), k ≤ L.length ∧ i = .int .i64 k ∧ s8 = .bool b1 ∧ s9 = .bool b2 ∧ Hid (endT (L.take k) = false) ∧ HeldD wr (w.heap.size + 1 + 1) 3 (lastK 1 (L.take k)) (fun d => d.right.owner) b1 ∧ HeldD wr (w.heap.size + 1 + 1 + 1) 5 (lastK 2 (L.take k)) (fun d => d.right.place) b2 ∧
    Arr wr w.heap.size 9 (fun j => r.cells.getD j undef) ∧ (∃ F, Arr wr (w.heap.size + 1) 9 F) ∧ Below w.heap.size w wr ∧ w.heap.size + 4 ≤ wr.heap.size) (fun _ _ i _ => L.length - (intOf i).toNat)
  case atStart =>
    refine ⟨0, false, false, Nat.zero_le _, rfl, rfl, rfl, rfl, ⟨rfl, _, 0, 0, ((arr_new ((w.alloc (.cells #[.int .i64 r.id, .int .i64 r.owner, .int .i64 r.date, .int .i64 r.place, .int .i64 r.rate, .int .i64 r.from1, .int .i64 r.until1, .int .i64 r.back, .int .i64 r.backTo] 36)).alloc (.cells #[.int .i64 0, .int .i64 0, .int .i64 0, .int .i64 0, .int .i64 0, .int .i64 0, .int .i64 0, .int .i64 0, .int .i64 0] 36)) #[.int .i64 0, .int .i64 0, .int .i64 0, .int .i64 0, .int .i64 0, .int .i64 0, .int .i64 0, .int .i64 0, .int .i64 0, .int .i64 0, .int .i64 0, .int .i64 0, .int .i64 0] 38 (b := w.heap.size + 1 + 1) (by simp) rfl).alloc (by simp <;> omega) _), rfl, rfl, fun d h => by cases h⟩, ⟨rfl, _, 0, 0, (arr_new (((w.alloc (.cells #[.int .i64 r.id, .int .i64 r.owner, .int .i64 r.date, .int .i64 r.place, .int .i64 r.rate, .int .i64 r.from1, .int .i64 r.until1, .int .i64 r.back, .int .i64 r.backTo] 36)).alloc (.cells #[.int .i64 0, .int .i64 0, .int .i64 0, .int .i64 0, .int .i64 0, .int .i64 0, .int .i64 0, .int .i64 0, .int .i64 0] 36)).alloc (.cells #[.int .i64 0, .int .i64 0, .int .i64 0, .int .i64 0, .int .i64 0, .int .i64 0, .int .i64 0, .int .i64 0, .int .i64 0, .int .i64 0, .int .i64 0, .int .i64 0, .int .i64 0] 38)) #[.int .i64 0, .int .i64 0, .int .i64 0, .int .i64 0, .int .i64 0, .int .i64 0, .int .i64 0, .int .i64 0, .int .i64 0, .int .i64 0, .int .i64 0, .int .i64 0, .int .i64 0] 38 (b := w.heap.size + 1 + 1 + 1) (by simp) rfl), rfl, rfl, fun d h => by cases h⟩, (Arr.congr ((((arr_new w #[.int .i64 r.id, .int .i64 r.owner, .int .i64 r.date, .int .i64 r.place, .int .i64 r.rate, .int .i64 r.from1, .int .i64 r.until1, .int .i64 r.back, .int .i64 r.backTo] 36 rfl rfl).alloc (by simp <;> omega) _).alloc (by simp <;> omega) _).alloc (by simp <;> omega) _) (fun j hj => by match j, hj with | 0, _ => rfl | 1, _ => rfl | 2, _ => rfl | 3, _ => rfl | 4, _ => rfl | 5, _ => rfl | 6, _ => rfl | 7, _ => rfl | 8, _ => rfl)), ⟨_, (((arr_new (w.alloc (.cells #[.int .i64 r.id, .int .i64 r.owner, .int .i64 r.date, .int .i64 r.place, .int .i64 r.rate, .int .i64 r.from1, .int .i64 r.until1, .int .i64 r.back, .int .i64 r.backTo] 36)) #[.int .i64 0, .int .i64 0, .int .i64 0, .int .i64 0, .int .i64 0, .int .i64 0, .int .i64 0, .int .i64 0, .int .i64 0] 36 (b := w.heap.size + 1) (by simp) rfl).alloc (by simp <;> omega) _).alloc (by simp <;> omega) _)⟩, ?_, by simp⟩
    exact ((((Below.refl _ _).alloc (Nat.le_refl _) _).alloc (by simp <;> omega) _).alloc (by simp; omega) _).alloc (by simp; omega) _
  case round =>
    obtain ⟨k, b1, b2, hk, rfl, rfl, rfl, hE, hS, hM, hR, ⟨FT, hT⟩, hBw, hz⟩ := hrel
    have z0 : w.heap.size < wr.heap.size := by omega
    have z1 : w.heap.size + 1 < wr.heap.size := by omega
    have z2 : w.heap.size + 1 + 1 < wr.heap.size := by omega
    have z3 : w.heap.size + 1 + 1 + 1 < wr.heap.size := by omega
    by_cases hlt : k < L.length
    · obtain ⟨d, hx⟩ : ∃ e, L[k]? = some e := ⟨_, List.getElem?_eq_getElem hlt⟩
      obtain ⟨b, off, rfl, hb, c0, c1, c2, c3, c4, c5, c6, c7, c8, c9, c10, c11, c12⟩ := (hC.below (hBw.mono hB)).at_ hx
      have hbw : b < wr.heap.size := by omega
      have HT := Lib.hid (take_snoc_d hx)
      have HX := Lib.hid hx
      clear hx
      have hBa : Below w.heap.size w (wr.alloc (.cells d.cells.toArray 38)) := hBw.alloc (by omega) _
      have hSa := hS.alloc (by omega) (.cells d.cells.toArray 38)
      have hMa := hM.alloc (by omega) (.cells d.cells.toArray 38)
      have hRa := hR.alloc (by omega) (.cells d.cells.toArray 38)
      have hTa := hT.alloc (by omega) (.cells d.cells.toArray 38)
      have hSp := fun b => (size_setCells' b d.cells 0 wr)
      by_cases k3 : d.kind = 3
      · have b3 : (d.kind == 3) = true := by simpa using k3
        have HN : Hid (changeL r L = none) := by show _ = _; unfold changeL; rw [if_pos (endT_take HX.out k3)]
        obtain ⟨y0, yf0⟩ := hT 0 (by decide)
        obtain ⟨y1, yf1⟩ := hT 1 (by decide)
        obtain ⟨y2, yf2⟩ := hT 2 (by decide)
        obtain ⟨y3, yf3⟩ := hT 3 (by decide)
        obtain ⟨y4, yf4⟩ := hT 4 (by decide)
        obtain ⟨y5, yf5⟩ := hT 5 (by decide)
        obtain ⟨y6, yf6⟩ := hT 6 (by decide)
        obtain ⟨y7, yf7⟩ := hT 7 (by decide)
        obtain ⟨y8, yf8⟩ := hT 8 (by decide)
        go_wp2_with fail
        refine bodyPost_ret (v := .tuple #[.agg #[.int .i64 0, .int .i64 0, .int .i64 0, .int .i64 0, .int .i64 0, .int .i64 0, .int .i64 0, .int .i64 0, .int .i64 0], .bool false]) (by simp [results, Tryd.results19, go_sem, z1, y0, y1, y2, y3, y4, y5, y6, y7, y8]) rfl ?_
        exact ⟨(below_setCells hBw (by omega) [_, _, _, _, _, _, _, _, _] 0).alloc (by simp; omega) _, Or.inl ⟨HN.out, rfl⟩⟩
      have b3 : (d.kind == 3) = false := by simpa using k3
      have HE : Hid (endT (L.take (k + 1)) = false) := by show _ = _; rw [HT.out, endT_snoc, hE.out, decide_eq_false k3]; rfl
      by_cases k1 : d.kind = 1
      · have b1' : (d.kind == 1) = true := by simpa using k1
        have b2' : (d.kind == 2) = false := by rw [k1]; rfl
        have HM : Hid (lastK 2 (L.take (k + 1)) = lastK 2 (L.take k)) := by show _ = _; rw [HT.out, lastK_snoc, if_neg (by omega)]
        have HS : Hid (lastK 1 (L.take (k + 1)) = pick (lastK 1 (L.take k)) d) := by show _ = _; rw [HT.out, lastK_snoc, if_pos k1]
        have hS1 := hS
        obtain ⟨h0, F, n, v, hA, g1, g2, hd⟩ := hS
        obtain ⟨q0, qf0⟩ := hA 0 (by decide)
        obtain ⟨q1, qf1⟩ := hA 1 (by decide)
        obtain ⟨q2, qf2⟩ := hA 2 (by decide)
        obtain ⟨q3, qf3⟩ := hA 3 (by decide)
        obtain ⟨q4, qf4⟩ := hA 4 (by decide)
        obtain ⟨q5, qf5⟩ := hA 5 (by decide)
        obtain ⟨q6, qf6⟩ := hA 6 (by decide)
        obtain ⟨q7, qf7⟩ := hA 7 (by decide)
        obtain ⟨q8, qf8⟩ := hA 8 (by decide)
        obtain ⟨q9, qf9⟩ := hA 9 (by decide)
        obtain ⟨q10, qf10⟩ := hA 10 (by decide)
        obtain ⟨q11, qf11⟩ := hA 11 (by decide)
        obtain ⟨q12, qf12⟩ := hA 12 (by decide)
        rw [g1] at q1
        rw [g2] at q3
        clear k1 k3
        cases b1 with
        | false =>
          have HS2 : Hid (lastK 1 (L.take (k + 1)) = some d) := by
            show _ = _
            rw [HS.out]
            cases e : lastK 1 (L.take k) with
            | none => rfl
            | some x => rw [e] at h0; cases h0
          clear HS hd h0 g1 g2
          go_wp2_with fail
          go_roundw
          case rel => exact ⟨k + 1, true, b2, by omega, by go_num, rfl, rfl, HE.out, (by rw [HS2.out]; exact (hS1.put d rfl).alloc (by rw [hSp]; omega) (.cells d.cells.toArray 38)), (by rw [HM.out]; exact (hM.far (by omega) d.cells).alloc (by rw [hSp]; omega) (.cells d.cells.toArray 38)), (far_setCells hR (by omega) d.cells).alloc (by rw [hSp]; omega) (.cells d.cells.toArray 38), ⟨FT, (far_setCells hT (by omega) d.cells).alloc (by rw [hSp]; omega) (.cells d.cells.toArray 38)⟩, (below_setCells hBw (by omega) d.cells 0).alloc (by rw [hSp]; omega) _, by simp; omega⟩
          case measure => simp [intOf]; omega
        | true =>
          obtain ⟨x, hxx⟩ : ∃ x, lastK 1 (L.take k) = some x := by
            cases e : lastK 1 (L.take k) with
            | none => rw [e] at h0; cases h0
            | some x => exact ⟨x, rfl⟩
          obtain ⟨rfl, rfl⟩ := hd x hxx
          by_cases hle : x.known ≤ d.known
          · have HS2 : Hid (lastK 1 (L.take (k + 1)) = some d) := by show _ = _; rw [HS.out, hxx]; show (if _ then _ else _) = _; rw [if_pos hle]
            have dle : decide (x.known ≤ d.known) = true := decide_eq_true hle
            clear HS hd h0 hxx
            go_wp2_with fail
            go_roundw
            case rel => exact ⟨k + 1, true, b2, by omega, by go_num, rfl, rfl, HE.out, (by rw [HS2.out]; exact (hS1.put d rfl).alloc (by rw [hSp]; omega) (.cells d.cells.toArray 38)), (by rw [HM.out]; exact (hM.far (by omega) d.cells).alloc (by rw [hSp]; omega) (.cells d.cells.toArray 38)), (far_setCells hR (by omega) d.cells).alloc (by rw [hSp]; omega) (.cells d.cells.toArray 38), ⟨FT, (far_setCells hT (by omega) d.cells).alloc (by rw [hSp]; omega) (.cells d.cells.toArray 38)⟩, (below_setCells hBw (by omega) d.cells 0).alloc (by rw [hSp]; omega) _, by simp; omega⟩
            case measure => simp [intOf]; omega
          · have HS2 : Hid (lastK 1 (L.take (k + 1)) = lastK 1 (L.take k)) := by show _ = _; rw [HS.out, hxx]; show (if _ then _ else _) = _; rw [if_neg hle]
            have dle : decide (x.known ≤ d.known) = false := decide_eq_false hle
            clear HS hd h0 hxx
            go_wp2_with fail
            go_roundw
            case rel => exact ⟨k + 1, true, b2, by omega, by go_num, rfl, rfl, HE.out, (by rw [HS2.out]; exact hSa), (by rw [HM.out]; exact hMa), hRa, ⟨FT, hTa⟩, hBa, by simp; omega⟩
            case measure => simp [intOf]; omega
      have b1' : (d.kind == 1) = false := by simpa using k1
      have HS : Hid (lastK 1 (L.take (k + 1)) = lastK 1 (L.take k)) := by show _ = _; rw [HT.out, lastK_snoc, if_neg k1]
      by_cases k2 : d.kind = 2
      · have b2' : (d.kind == 2) = true := by simpa using k2
        have HM : Hid (lastK 2 (L.take (k + 1)) = pick (lastK 2 (L.take k)) d) := by show _ = _; rw [HT.out, lastK_snoc, if_pos k2]
        have hM1 := hM
        obtain ⟨h0, F, n, v, hA, g1, g2, hd⟩ := hM
        obtain ⟨q0, qf0⟩ := hA 0 (by decide)
        obtain ⟨q1, qf1⟩ := hA 1 (by decide)
        obtain ⟨q2, qf2⟩ := hA 2 (by decide)
        obtain ⟨q3, qf3⟩ := hA 3 (by decide)
        obtain ⟨q4, qf4⟩ := hA 4 (by decide)
        obtain ⟨q5, qf5⟩ := hA 5 (by decide)
        obtain ⟨q6, qf6⟩ := hA 6 (by decide)
        obtain ⟨q7, qf7⟩ := hA 7 (by decide)
        obtain ⟨q8, qf8⟩ := hA 8 (by decide)
        obtain ⟨q9, qf9⟩ := hA 9 (by decide)
        obtain ⟨q10, qf10⟩ := hA 10 (by decide)
        obtain ⟨q11, qf11⟩ := hA 11 (by decide)
        obtain ⟨q12, qf12⟩ := hA 12 (by decide)
        rw [g1] at q1
        rw [g2] at q5
        clear k1 k3 k2
        cases b2 with
        | false =>
          have HM2 : Hid (lastK 2 (L.take (k + 1)) = some d) := by
            show _ = _
            rw [HM.out]
            cases e : lastK 2 (L.take k) with
            | none => rfl
            | some x => rw [e] at h0; cases h0
          clear HM hd h0 g1 g2
          go_wp2_with fail
          go_roundw
          case rel => exact ⟨k + 1, b1, true, by omega, by go_num, rfl, rfl, HE.out, (by rw [HS.out]; exact (hS.far (by omega) d.cells).alloc (by rw [hSp]; omega) (.cells d.cells.toArray 38)), (by rw [HM2.out]; exact (hM1.put d rfl).alloc (by rw [hSp]; omega) (.cells d.cells.toArray 38)), (far_setCells hR (by omega) d.cells).alloc (by rw [hSp]; omega) (.cells d.cells.toArray 38), ⟨FT, (far_setCells hT (by omega) d.cells).alloc (by rw [hSp]; omega) (.cells d.cells.toArray 38)⟩, (below_setCells hBw (by omega) d.cells 0).alloc (by rw [hSp]; omega) _, by simp; omega⟩
          case measure => simp [intOf]; omega
        | true =>
          obtain ⟨x, hxx⟩ : ∃ x, lastK 2 (L.take k) = some x := by
            cases e : lastK 2 (L.take k) with
            | none => rw [e] at h0; cases h0
            | some x => exact ⟨x, rfl⟩
          obtain ⟨rfl, rfl⟩ := hd x hxx
          by_cases hle : x.known ≤ d.known
          · have HM2 : Hid (lastK 2 (L.take (k + 1)) = some d) := by show _ = _; rw [HM.out, hxx]; show (if _ then _ else _) = _; rw [if_pos hle]
            have dle : decide (x.known ≤ d.known) = true := decide_eq_true hle
            clear HM hd h0 hxx
            go_wp2_with fail
            go_roundw
            case rel => exact ⟨k + 1, b1, true, by omega, by go_num, rfl, rfl, HE.out, (by rw [HS.out]; exact (hS.far (by omega) d.cells).alloc (by rw [hSp]; omega) (.cells d.cells.toArray 38)), (by rw [HM2.out]; exact (hM1.put d rfl).alloc (by rw [hSp]; omega) (.cells d.cells.toArray 38)), (far_setCells hR (by omega) d.cells).alloc (by rw [hSp]; omega) (.cells d.cells.toArray 38), ⟨FT, (far_setCells hT (by omega) d.cells).alloc (by rw [hSp]; omega) (.cells d.cells.toArray 38)⟩, (below_setCells hBw (by omega) d.cells 0).alloc (by rw [hSp]; omega) _, by simp; omega⟩
            case measure => simp [intOf]; omega
          · have HM2 : Hid (lastK 2 (L.take (k + 1)) = lastK 2 (L.take k)) := by show _ = _; rw [HM.out, hxx]; show (if _ then _ else _) = _; rw [if_neg hle]
            have dle : decide (x.known ≤ d.known) = false := decide_eq_false hle
            clear HM hd h0 hxx
            go_wp2_with fail
            go_roundw
            case rel => exact ⟨k + 1, b1, true, by omega, by go_num, rfl, rfl, HE.out, (by rw [HS.out]; exact hSa), (by rw [HM2.out]; exact hMa), hRa, ⟨FT, hTa⟩, hBa, by simp; omega⟩
            case measure => simp [intOf]; omega
      have b2' : (d.kind == 2) = false := by simpa using k2
      have HM : Hid (lastK 2 (L.take (k + 1)) = lastK 2 (L.take k)) := by show _ = _; rw [HT.out, lastK_snoc, if_neg k2]
      clear k1 k2 k3 hS hM
      go_wp2_with fail
      go_roundw
      case rel => exact ⟨k + 1, b1, b2, by omega, by go_num, rfl, rfl, HE.out, (by rw [HS.out]; exact hSa), (by rw [HM.out]; exact hMa), hRa, ⟨FT, hTa⟩, hBa, by simp; omega⟩
      case measure => simp [intOf]; omega
    · have hke : k = L.length := by omega
      subst hke
      rw [List.take_length] at hE hS hM
      obtain ⟨h0, F, n, v, hA, g1, g2, hd⟩ := hS
      obtain ⟨h0', F', n', v', hA', g1', g2', hd'⟩ := hM
      have s1 := (hA 3 (by decide)).1
      have s2 := (hA' 5 (by decide)).1
      rw [g2] at s1
      rw [g2'] at s2
      have x0 : wr.cell? ⟨w.heap.size, 0, none⟩ = some (.int .i64 r.id) := (hR 0 (by decide)).1
      have xf0 := (hR 0 (by decide)).2
      have x1 : wr.cell? ⟨w.heap.size, 1, none⟩ = some (.int .i64 r.owner) := (hR 1 (by decide)).1
      have xf1 := (hR 1 (by decide)).2
      have x2 : wr.cell? ⟨w.heap.size, 2, none⟩ = some (.int .i64 r.date) := (hR 2 (by decide)).1
      have xf2 := (hR 2 (by decide)).2
      have x3 : wr.cell? ⟨w.heap.size, 3, none⟩ = some (.int .i64 r.place) := (hR 3 (by decide)).1
      have xf3 := (hR 3 (by decide)).2
      have x4 : wr.cell? ⟨w.heap.size, 4, none⟩ = some (.int .i64 r.rate) := (hR 4 (by decide)).1
      have xf4 := (hR 4 (by decide)).2
      have x5 : wr.cell? ⟨w.heap.size, 5, none⟩ = some (.int .i64 r.from1) := (hR 5 (by decide)).1
      have xf5 := (hR 5 (by decide)).2
      have x6 : wr.cell? ⟨w.heap.size, 6, none⟩ = some (.int .i64 r.until1) := (hR 6 (by decide)).1
      have xf6 := (hR 6 (by decide)).2
      have x7 : wr.cell? ⟨w.heap.size, 7, none⟩ = some (.int .i64 r.back) := (hR 7 (by decide)).1
      have xf7 := (hR 7 (by decide)).2
      have x8 : wr.cell? ⟨w.heap.size, 8, none⟩ = some (.int .i64 r.backTo) := (hR 8 (by decide)).1
      have xf8 := (hR 8 (by decide)).2
      obtain ⟨y0, yf0⟩ := hT 0 (by decide)
      obtain ⟨y1, yf1⟩ := hT 1 (by decide)
      obtain ⟨y2, yf2⟩ := hT 2 (by decide)
      obtain ⟨y3, yf3⟩ := hT 3 (by decide)
      obtain ⟨y4, yf4⟩ := hT 4 (by decide)
      obtain ⟨y5, yf5⟩ := hT 5 (by decide)
      obtain ⟨y6, yf6⟩ := hT 6 (by decide)
      obtain ⟨y7, yf7⟩ := hT 7 (by decide)
      obtain ⟨y8, yf8⟩ := hT 8 (by decide)
      cases b1 <;> cases b2
      · have hz1 : lastK 1 L = none := by
          cases e : lastK 1 L with
          | none => rfl
          | some x => rw [e] at h0; cases h0
        have hz2 : lastK 2 L = none := by
          cases e : lastK 2 L with
          | none => rfl
          | some x => rw [e] at h0'; cases h0'
        have HQ : Hid (changeL r L = some r) := by
          show _ = _
          unfold changeL
          rw [if_neg (by rw [hE.out]; exact Bool.false_ne_true), hz1, hz2]
        clear hd hd' h0 h0' hz1 hz2 g1 g2 g1' g2' hA hA' hE
        go_wp2_with fail
        refine bodyPost_ret (v := .tuple #[.agg #[.int .i64 r.id, .int .i64 r.owner, .int .i64 r.date, .int .i64 r.place, .int .i64 r.rate, .int .i64 r.from1, .int .i64 r.until1, .int .i64 r.back, .int .i64 r.backTo], .bool true]) (by simp [results, Tryd.results19, go_sem, z1, y0, y1, y2, y3, y4, y5, y6, y7, y8]) rfl ?_
        exact ⟨below_setCells hBw (by omega) [_, _, _, _, _, _, _, _, _] 0, Or.inr ⟨_, HQ.out, rfl⟩⟩
      · have hz1 : lastK 1 L = none := by
          cases e : lastK 1 L with
          | none => rfl
          | some x => rw [e] at h0; cases h0
        obtain ⟨pz2, hz2⟩ : ∃ x, lastK 2 L = some x := by
          cases e : lastK 2 L with
          | none => rw [e] at h0'; cases h0'
          | some x => exact ⟨x, rfl⟩
        have hv2 := (hd' pz2 hz2).2
        have HQ : Hid (changeL r L = some { r with place := v' }) := by
          show _ = _
          unfold changeL
          rw [if_neg (by rw [hE.out]; exact Bool.false_ne_true), hz1, hz2, hv2]
        clear hd hd' h0 h0' hz1 hz2 g1 g2 g1' g2' hA hA' hv2 hE
        go_wp2_with fail
        refine bodyPost_ret (v := .tuple #[.agg #[.int .i64 r.id, .int .i64 r.owner, .int .i64 r.date, .int .i64 v', .int .i64 r.rate, .int .i64 r.from1, .int .i64 r.until1, .int .i64 r.back, .int .i64 r.backTo], .bool true]) (by simp [results, Tryd.results19, go_sem, z1, y0, y1, y2, y3, y4, y5, y6, y7, y8]) rfl ?_
        exact ⟨below_setCells (hBw.setCell (p := ⟨w.heap.size, 3, none⟩) (Nat.le_refl _) (.int .i64 v')) (by omega) [_, _, _, _, _, _, _, _, _] 0, Or.inr ⟨_, HQ.out, rfl⟩⟩
      · obtain ⟨pz1, hz1⟩ : ∃ x, lastK 1 L = some x := by
          cases e : lastK 1 L with
          | none => rw [e] at h0; cases h0
          | some x => exact ⟨x, rfl⟩
        have hv1 := (hd pz1 hz1).2
        have hz2 : lastK 2 L = none := by
          cases e : lastK 2 L with
          | none => rfl
          | some x => rw [e] at h0'; cases h0'
        have HQ : Hid (changeL r L = some { r with owner := v }) := by
          show _ = _
          unfold changeL
          rw [if_neg (by rw [hE.out]; exact Bool.false_ne_true), hz1, hz2, hv1]
        clear hd hd' h0 h0' hz1 hz2 g1 g2 g1' g2' hA hA' hv1 hE
        go_wp2_with fail
        refine bodyPost_ret (v := .tuple #[.agg #[.int .i64 r.id, .int .i64 v, .int .i64 r.date, .int .i64 r.place, .int .i64 r.rate, .int .i64 r.from1, .int .i64 r.until1, .int .i64 r.back, .int .i64 r.backTo], .bool true]) (by simp [results, Tryd.results19, go_sem, z1, y0, y1, y2, y3, y4, y5, y6, y7, y8]) rfl ?_
        exact ⟨below_setCells (hBw.setCell (p := ⟨w.heap.size, 1, none⟩) (Nat.le_refl _) (.int .i64 v)) (by omega) [_, _, _, _, _, _, _, _, _] 0, Or.inr ⟨_, HQ.out, rfl⟩⟩
      · obtain ⟨pz1, hz1⟩ : ∃ x, lastK 1 L = some x := by
          cases e : lastK 1 L with
          | none => rw [e] at h0; cases h0
          | some x => exact ⟨x, rfl⟩
        have hv1 := (hd pz1 hz1).2
        obtain ⟨pz2, hz2⟩ : ∃ x, lastK 2 L = some x := by
          cases e : lastK 2 L with
          | none => rw [e] at h0'; cases h0'
          | some x => exact ⟨x, rfl⟩
        have hv2 := (hd' pz2 hz2).2
        have HQ : Hid (changeL r L = some { r with owner := v, place := v' }) := by
          show _ = _
          unfold changeL
          rw [if_neg (by rw [hE.out]; exact Bool.false_ne_true), hz1, hz2, hv1, hv2]
        clear hd hd' h0 h0' hz1 hz2 g1 g2 g1' g2' hA hA' hv1 hv2 hE
        go_wp2_with fail
        refine bodyPost_ret (v := .tuple #[.agg #[.int .i64 r.id, .int .i64 v, .int .i64 r.date, .int .i64 v', .int .i64 r.rate, .int .i64 r.from1, .int .i64 r.until1, .int .i64 r.back, .int .i64 r.backTo], .bool true]) (by simp [results, Tryd.results19, go_sem, z1, y0, y1, y2, y3, y4, y5, y6, y7, y8]) rfl ?_
        exact ⟨below_setCells ((hBw.setCell (p := ⟨w.heap.size, 1, none⟩) (Nat.le_refl _) (.int .i64 v)).setCell (p := ⟨w.heap.size, 3, none⟩) (Nat.le_refl _) (.int .i64 v')) (by omega) [_, _, _, _, _, _, _, _, _] 0, Or.inr ⟨_, HQ.out, rfl⟩⟩
end Go.Proofs.YtkbceeobnbbfbaaDoor.RR

/- A map of the call's own whose elements are slices (rows of the call's own, no two in one block). -/
namespace Go.Proofs.YtkbceeobnbbfbaaDoor.RR
open Go Go.RowKit
section
variable {α : Type} [DecidableEq α] {β : Type}
def rowX (m : List (α × Value)) (x : α) : Value := (getX m x).getD (.slice none 0 0)
structure MapRows (w : World) (base b : Nat) (f : α → Value) (enc : β → List Value) (k : Nat) (te : TypeId) (m : List (α × Value)) (A : α → List β) : Prop where
  map : MapX w b f id m
  hb : b < base
  row : ∀ x, w.ownsRow base te k (rowX m x) (A x).length ((A x).flatMap enc)
  apart : ∀ x y g, x ≠ y → (rowX m x).ownBlock = some g → (rowX m y).ownBlock ≠ some g
variable {w w1 w2 w3 : World} {base b : Nat} {f : α → Value} {enc : β → List Value} {k : Nat} {te : TypeId} {m : List (α × Value)} {A : α → List β}
theorem own_lt {n : Nat} {v : Value} {xs : List Value} (h : w.ownsRow base te k v n xs) {g : Nat} (hg : v.ownBlock = some g) : base ≤ g ∧ g < w.heap.size := h.lt g hg
theorem MapRows.made (w : World) (base : Nat) (f : α → Value) (enc : β → List Value) (k : Nat) (te : TypeId) (hb : w.heap.size < base) : MapRows (w.alloc (.map #[] 0)) base w.heap.size f enc k te [] (fun _ => []) :=
  ⟨MapX.made w f id, hb, fun x => World.ownsRow_nil _ _ _ _, fun x y g _ h => by simp [rowX, getX, Value.ownBlock] at h⟩
theorem MapRows.below (h : MapRows w base b f enc k te m A) (hw : Below w.heap.size w w1) : MapRows w1 base b f enc k te m A :=
  ⟨h.map.below hw h.map.lt, h.hb, fun x => row_below (h.row x) hw, h.apart⟩
/-- Kept where another row of the call's own has grown. -/
theorem MapRows.grown (h : MapRows w base b f enc k te m A) {row : Option Nat} (hg : w.grownBy w1 row) (hr : ∀ g, row = some g → base ≤ g) (hd : ∀ x g, (rowX m x).ownBlock = some g → row ≠ some g) : MapRows w1 base b f enc k te m A :=
  ⟨h.map.keep (hg.block b h.map.lt (fun e => by have := hr b e.symm; have := h.hb; omega)), h.hb, fun x => (h.row x).kept hg (by
    cases e : (rowX m x).ownBlock with
    | none => exact .inl rfl
    | some g => exact .inr (fun q => hd x g e q.symm)), h.apart⟩
theorem MapRows.lookup {P : Program} {t kt E : TypeId} (h : MapRows w base b f enc k te m A) (K : KeyX P kt f) (ht : P.underlying t = some (.map kt E)) (hz : (zeroValue E).run P w = .ok (.slice none 0 0) w) (x : α) :
    (Instr.lookup t (.map (some b)) (f x) false).run P w = .ok (rowX m x) w := by
  rw [h.map.lookup K ht hz x]
  simp [rowX]
theorem rowX_put (m : List (α × Value)) (x z : α) (v : Value) : rowX (putX m x v) z = if z = x then v else rowX m z := by
  unfold rowX
  rw [getX_put]
  split <;> rfl
/-- The store behind an append to the row of a key. -/
theorem MapRows.store (h : MapRows w base b f enc k te m A) (x : α) {v' : Value} {L' : List β} (hg : w.grownBy w2 (rowX m x).ownBlock) (hrow : w2.ownsRow base te k v' L'.length (L'.flatMap enc))
    (hat : v'.ownBlock = (rowX m x).ownBlock ∨ v'.ownBlock = some w.heap.size) (hm : MapX w3 b f id (putX m x v')) (hg3 : w2.grownBy w3 (some b)) : MapRows w3 base b f enc k te (putX m x v') (fun z => if z = x then L' else A z) := by
  have hne : ∀ z g, z ≠ x → (rowX m z).ownBlock = some g → v'.ownBlock ≠ some g := fun z g hz e q => by
    rcases hat with c | c
    · exact h.apart x z g (fun e => hz e.symm) (c.symm.trans q) e
    · rw [c] at q
      injection q with q
      have := (own_lt (h.row z) e).2
      omega
  have hk3 : ∀ {n : Nat} {v : Value} {xs : List Value}, w2.ownsRow base te k v n xs → w3.ownsRow base te k v n xs := fun {n v xs} hv => hv.kept hg3 (by
    cases e : v.ownBlock with
    | none => exact .inl rfl
    | some g => exact .inr (fun q => by injection q with q; have := (own_lt hv e).1; have := h.hb; omega))
  refine ⟨hm, h.hb, fun z => ?_, fun y z g hyz e => ?_⟩
  · rw [rowX_put]
    by_cases hz : z = x
    · rw [if_pos hz, if_pos hz]; exact hk3 hrow
    · rw [if_neg hz, if_neg hz]
      refine hk3 ((h.row z).kept hg ?_)
      cases e : (rowX m z).ownBlock with
      | none => exact .inl rfl
      | some g => exact .inr (fun q => h.apart x z g (fun e => hz e.symm) q.symm e)
  · rw [rowX_put] at e ⊢
    by_cases hy : y = x
    · rw [if_pos hy] at e
      rw [if_neg (fun e => hyz (by rw [hy, e]))]
      exact fun q => hne z g (fun e => hyz (by rw [hy, e])) q e
    · rw [if_neg hy] at e
      by_cases hz : z = x
      · rw [if_pos hz]; exact hne y g hy e
      · rw [if_neg hz]; exact h.apart y z g hyz e
end
end Go.Proofs.YtkbceeobnbbfbaaDoor.RR

/- Plain facts of the implementation's Roster: what is kept about an Id. -/
namespace Go.Proofs.YtkbceeobnbbfbaaDoor.RR
open Go.RowKit CM RG

def aboutOf (i : Int) (K : List Dl) : List Dl := K.filter (fun d => decide (d.kind ≠ 0) && decide (d.right.id = i))
theorem aboutOf_snoc (i : Int) (K : List Dl) (d : Dl) : aboutOf i (K ++ [d]) = if d.kind ≠ 0 ∧ d.right.id = i then aboutOf i K ++ [d] else aboutOf i K := by
  unfold aboutOf
  rw [List.filter_append]
  by_cases h1 : d.kind = 0 <;> by_cases h2 : d.right.id = i <;> simp [List.filter, h1, h2]
theorem aboutOf_len (i : Int) (K : List Dl) : (aboutOf i K).length ≤ K.length := List.length_filter_le _ _
theorem lastK_about {k : Int} (hk : k ≠ 0) (i : Int) (K : List Dl) : lastK k (aboutOf i K) = lastOf k i K := by
  unfold lastK lastOf aboutOf
  rw [List.filter_filter]
  congr 1
  refine List.filter_congr fun d _ => ?_
  by_cases h1 : d.kind = k
  · simp [h1, hk]
  · simp [h1]
theorem foldl_some {L : List Dl} {b : Option Dl} (h : b.isSome ∨ L ≠ []) : (L.foldl pick b).isSome := by
  rcases pick_is L b with ⟨e, e2⟩ | ⟨x, _, e⟩
  · rw [e]
    rcases e2 with e2 | e2
    · rcases h with h | h
      · exact h
      · exact absurd e2 h
    · exact e2
  · rw [e]; rfl
theorem ended_about (i : Int) (K : List Dl) : endT (aboutOf i K) = endedB K i := by
  unfold endedB
  cases h : lastOf 3 i K with
  | none =>
    have hn := lastOf_none h
    unfold endT
    rw [show (none : Option Dl).isSome = false from rfl, List.any_eq_false]
    intro d hd
    have := List.mem_filter.1 hd
    simp at this
    intro e
    exact hn d this.1 ⟨by simpa using e, this.2.2⟩
  | some d =>
    obtain ⟨h1, h2, h3⟩ := lastOf_mem h
    exact List.any_eq_true.2 ⟨d, List.mem_filter.2 ⟨h1, by simp [h2, h3]⟩, by simpa using h2⟩
theorem change_about (r : Rt) (K : List Dl) : changeL r (aboutOf r.id K) = if endedB K r.id then none else some (changed K r) := by
  unfold changeL changed
  rw [ended_about, lastK_about (by decide), lastK_about (by decide)]
  cases lastOf 1 r.id K <;> cases lastOf 2 r.id K <;> rfl
noncomputable def outT (day : Int) (K : List Dl) (L : List Rt) : List Rt := (L.filter (fun r => seasonB r day && !endedB K r.id)).map (changed K)
theorem outT_snoc (day : Int) (K : List Dl) (L : List Rt) (r : Rt) : outT day K (L ++ [r]) = if seasonB r day = true ∧ endedB K r.id = false then outT day K L ++ [changed K r] else outT day K L := by
  unfold outT
  rw [List.filter_append, List.map_append]
  cases h1 : seasonB r day <;> cases h2 : endedB K r.id <;> simp [List.filter, h1, h2]
theorem outT_len (day : Int) (K : List Dl) (L : List Rt) : (outT day K L).length ≤ L.length := by unfold outT; rw [List.length_map]; exact List.length_filter_le _ _
theorem outT_all (day : Int) (K : List Dl) : outT day K (grantsOf K) = rowsR day K := rfl
end Go.Proofs.YtkbceeobnbbfbaaDoor.RR

