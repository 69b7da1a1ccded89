/- Walks of the comparison of rights, of Clone, and of Order. -/
import Derived.Test.YtchmplnkddgncaaDoorRW2
import Derived.Test.YtchmplnkddgncaaDoorSW6
import Derived.Test.YtchmplnkddgncaaDoorRP
set_option linter.unusedSimpArgs false
set_option linter.unusedVariables false
namespace Go.Proofs.YtchmplnkddgncaaDoor
open Go.RowKit CM RG Go.Sort
attribute [local go_sem] alloc_drewN setCell_drewN shape_drewN

/-- What cmp.Compare says of two integers. -/
def cmpI (x y : Int) : Int := if x < y then -1 else if y < x then 1 else 0
theorem isnan_any (x : Int) (w : World) : Calls Tryd.prog 44 #[.int .i64 x] w fun e w' => e = .returned (.bool false) ∧ w = w' := by
  go_enter Tryd.func44, Tryd.ntmps44
  go_wp2_with fail
  go_ret
  exact ⟨by simp, rfl⟩
theorem compare_any (x y : Int) (w : World) : Calls Tryd.prog 32 #[.int .i64 x, .int .i64 y] w fun e w' => e = .returned (.int .i64 (cmpI x y)) ∧ w = w' := by
  have K := fun n w => isnan_any n w
  have hR : Hid (cmpI x y = if x < y then -1 else if y < x then 1 else 0) := rfl
  go_enter Tryd.func32, Tryd.ntmps32
  by_cases h1 : x < y
  · go_wp2_with (first | (go_at_call 44; (with_reducible refine (K _ _).mono ?_); rintro e1 w1 ⟨rfl, rfl⟩) | fail)
    go_ret
    exact ⟨ret_int (by rw [hR.out, if_pos (by omega)]), rfl⟩
  · by_cases h2 : y < x
    · go_wp2_with (first | (go_at_call 44; (with_reducible refine (K _ _).mono ?_); rintro e1 w1 ⟨rfl, rfl⟩) | fail)
      go_ret
      exact ⟨ret_int (by rw [hR.out, if_neg (by omega), if_pos (by omega)]), rfl⟩
    · go_wp2_with (first | (go_at_call 44; (with_reducible refine (K _ _).mono ?_); rintro e1 w1 ⟨rfl, rfl⟩) | fail)
      go_ret
      exact ⟨ret_int (by rw [hR.out, if_neg (by omega), if_neg (by omega)]), rfl⟩
def orI (a b : Int) : Int := if a = 0 then b else a
theorem or_any (a b : Int) (g : Nat) (w : World) (h0 : w.cell? ⟨g, 0, none⟩ = some (.int .i64 a)) (h1 : w.cell? ⟨g, 1, none⟩ = some (.int .i64 b)) : Calls Tryd.prog 31 #[.slice (some ⟨g, 0, none⟩) 2 2] w fun e w' => e = .returned (.int .i64 (orI a b)) ∧ w = w' := by
  by_cases ha : a = 0
  · subst ha
    by_cases hb : b = 0
    · subst hb
      go_enter Tryd.func31, Tryd.ntmps31
      go_wp2_with fail
      refine wp_loop_rounds 3 ?_
      rw [rounds_succ]
      go_wp2_with fail
      rw [rounds_succ]
      go_wp2_with fail
      rw [rounds_succ]
      go_wp2_with fail
      go_ret
      exact ⟨rfl, rfl⟩
    · have hb' : (b != 0) = true := by simpa using hb
      have hR : Hid (orI 0 b = b) := rfl
      go_enter Tryd.func31, Tryd.ntmps31
      go_wp2_with fail
      refine wp_loop_rounds 3 ?_
      rw [rounds_succ]
      go_wp2_with fail
      rw [rounds_succ]
      go_wp2_with fail
      go_ret
      exact ⟨ret_int hR.out.symm, rfl⟩
  · have ha' : (a != 0) = true := by simpa using ha
    have hR : Hid (orI a b = a) := if_neg ha
    go_enter Tryd.func31, Tryd.ntmps31
    go_wp2_with fail
    refine wp_loop_rounds 3 ?_
    rw [rounds_succ]
    go_wp2_with fail
    go_ret
    exact ⟨ret_int hR.out.symm, rfl⟩
def cfR (x y : Rt) : Int := orI (cmpI x.date y.date) (cmpI x.id y.id)
theorem ltOf_r : ltOf cfR = ltR := by
  funext x y
  show decide (cfR x y < 0) = ltR x y
  unfold cfR orI cmpI ltR
  rw [Bool.eq_iff_iff, decide_eq_true_iff]
  simp only [Bool.or_eq_true, Bool.and_eq_true, decide_eq_true_eq]
  repeat' split
  all_goals omega
theorem below_grow (w : World) (n : Nat) (os : Array Obj) : Below w.heap.size w (Go.Sort.grow (w.drewN n) os) :=
  ⟨rfl, rfl, rfl, by simp [Go.Sort.grow], fun k hk => by
    have := Go.Sort.heap_grow_old (w.drewN n) os (k := k) hk
    exact this⟩
def GrownD (W w' : World) : Prop := ∃ q os, w' = Go.Sort.grow (W.drewN q) os
theorem GrownD.below {W w' : World} (h : GrownD W w') : Below W.heap.size W w' := by obtain ⟨q, os, rfl⟩ := h; exact below_grow W q os
theorem GrownD.drew {W w' : World} (h : GrownD W w') : GrownD W w'.drew := by
  obtain ⟨q, os, rfl⟩ := h
  exact ⟨q + 1, os, rfl⟩
theorem GrownD.alloc {W w' : World} (h : GrownD W w') (o : Obj) : GrownD W (w'.alloc o) := by
  obtain ⟨q, os, rfl⟩ := h
  exact ⟨q, os ++ #[o], by rw [alloc_eq_grow, grow_grow]⟩
theorem GrownD.trans {w W w' : World} (h : GrownD w W) (g : GrownD W w') : GrownD w w' := by
  obtain ⟨q, os, rfl⟩ := h
  obtain ⟨q2, os2, rfl⟩ := g
  refine ⟨q + q2, os ++ os2, ?_⟩
  rw [show (Go.Sort.grow (w.drewN q) os).drewN q2 = Go.Sort.grow ((w.drewN q).drewN q2) os from rfl, grow_grow, World.drewN_drewN]
theorem GrownD.refl (W : World) : GrownD W W := ⟨0, #[], by simp [Go.Sort.grow, World.drewN]⟩
set_option maxHeartbeats 4000000 in
theorem closure_any (x y : Rt) (w : World) : Calls Tryd.prog 30 #[.agg (Rt.cells x).toArray, .agg (Rt.cells y).toArray] w fun e w' => e = .returned (.int .i64 (cfR x y)) ∧ ∃ q os', w' = grow (w.drewN q) os' := by
  show Calls Tryd.prog 30 #[.agg #[.int .i64 x.id, .int .i64 x.owner, .int .i64 x.date, .int .i64 x.place, .int .i64 x.rate, .int .i64 x.from1, .int .i64 x.until1, .int .i64 x.back, .int .i64 x.backTo], .agg #[.int .i64 y.id, .int .i64 y.owner, .int .i64 y.date, .int .i64 y.place, .int .i64 y.rate, .int .i64 y.from1, .int .i64 y.until1, .int .i64 y.back, .int .i64 y.backTo]] w fun e w' => e = .returned (.int .i64 (cfR x y)) ∧ GrownD w w'
  have K1 : Hid (∀ w, Calls Tryd.prog 32 #[.int .i64 x.date, .int .i64 y.date] w fun e w' => e = .returned (.int .i64 (cmpI x.date y.date)) ∧ w = w') := fun w => compare_any _ _ w
  have K2 : Hid (∀ w, Calls Tryd.prog 32 #[.int .i64 x.id, .int .i64 y.id] w fun e w' => e = .returned (.int .i64 (cmpI x.id y.id)) ∧ w = w') := fun w => compare_any _ _ w
  have HR : Hid (cfR x y = orI (cmpI x.date y.date) (cmpI x.id y.id)) := rfl
  generalize cfR x y = r at HR ⊢
  generalize cmpI x.date y.date = a at *
  generalize cmpI x.id y.id = b at *
  have hG : GrownD w ((w.alloc (.cells (Value.cells (.agg #[.int .i64 x.id, .int .i64 x.owner, .int .i64 x.date, .int .i64 x.place, .int .i64 x.rate, .int .i64 x.from1, .int .i64 x.until1, .int .i64 x.back, .int .i64 x.backTo])) 33)).alloc (.cells (Value.cells (.agg #[.int .i64 y.id, .int .i64 y.owner, .int .i64 y.date, .int .i64 y.place, .int .i64 y.rate, .int .i64 y.from1, .int .i64 y.until1, .int .i64 y.back, .int .i64 y.backTo])) 33)) := ((GrownD.refl w).alloc _).alloc _
  simp only [Value.cells] at hG
  go_enter Tryd.func30, Tryd.ntmps30
  go_wp2_with fail
  obtain ⟨W, hW⟩ : ∃ W, W = ((w.alloc (.cells (Value.cells (.agg #[.int .i64 x.id, .int .i64 x.owner, .int .i64 x.date, .int .i64 x.place, .int .i64 x.rate, .int .i64 x.from1, .int .i64 x.until1, .int .i64 x.back, .int .i64 x.backTo])) 33)).alloc (.cells (Value.cells (.agg #[.int .i64 y.id, .int .i64 y.owner, .int .i64 y.date, .int .i64 y.place, .int .i64 y.rate, .int .i64 y.from1, .int .i64 y.until1, .int .i64 y.back, .int .i64 y.backTo])) 33)) := ⟨_, rfl⟩
  have z0 : W.heap.size = w.heap.size + 1 + 1 := by rw [hW]; simp
  have qa : W.cell? ⟨w.heap.size, 0, none⟩ = some (.int .i64 x.id) := by rw [hW, World.cell?_alloc_past _ _ _ (by simp), World.cell?_alloc_at _ _ _ _ rfl]; rfl
  have qb : W.cell? ⟨w.heap.size, 2, none⟩ = some (.int .i64 x.date) := by rw [hW, World.cell?_alloc_past _ _ _ (by simp), World.cell?_alloc_at _ _ _ _ rfl]; rfl
  have qc : W.cell? ⟨w.heap.size + 1, 0, none⟩ = some (.int .i64 y.id) := by rw [hW, World.cell?_alloc_at _ _ _ _ (by simp)]; rfl
  have qd : W.cell? ⟨w.heap.size + 1, 2, none⟩ = some (.int .i64 y.date) := by rw [hW, World.cell?_alloc_at _ _ _ _ (by simp)]; rfl
  simp only [Value.cells] at hW
  rw [← hW] at hG ⊢
  clear hW
  have hl0 : w.heap.size < W.heap.size := by omega
  have hl1 : w.heap.size + 1 < W.heap.size := by omega
  refine Plan.wp_region_plan (GrownD W) 12 [(0, true), (1, true), (2, true), (3, true), (5, true), (6, true), (7, true), (8, true), (4, false), (9, false), (10, false), (11, false), (12, false)] (by kernel_rfl) (by kernel_rfl) (GrownD.refl W).drew ?_
  (repeat (first | (refine Plan.plan_read (v := ?_) rfl rfl ?_ ?_; rotate_left; (focus ((intro wS hSw; have hkS := (bcell (GrownD.below hSw)).1; go_simp); try with_reducible rfl)); try simp only [Act.put, List.setIfInBounds_toArray, List.set_cons_zero, List.set_cons_succ]) | (refine Plan.plan_skip rfl rfl ?_; try simp only [Act.put, List.setIfInBounds_toArray, List.set_cons_zero, List.set_cons_succ])))
  (refine Plan.plan_write rfl (fun K hK => ?_); try go_simp)
  go_at_call 32
  (with_reducible refine (K1.out _).mono ?_)
  rintro e1 w1 ⟨rfl, rfl⟩
  refine hK.out _ _ (GrownD.refl W).drew ?_
  clear hK K
  try simp only [Act.put, List.setIfInBounds_toArray, List.set_cons_zero, List.set_cons_succ]
  (refine Plan.plan_write rfl (fun K hK => ?_); try go_simp)
  go_at_call 32
  (with_reducible refine (K2.out _).mono ?_)
  rintro e1 w1 ⟨rfl, rfl⟩
  refine hK.out _ _ (GrownD.refl W).drew ?_
  clear hK K
  try simp only [Act.put, List.setIfInBounds_toArray, List.set_cons_zero, List.set_cons_succ]
  (refine Plan.plan_write rfl (fun K hK => ?_); try go_simp)
  refine hK.out _ _ ((GrownD.refl W).alloc _).drew ?_
  clear hK K
  try simp only [Act.put, List.setIfInBounds_toArray, List.set_cons_zero, List.set_cons_succ]
  (refine Plan.plan_write rfl (fun K hK => ?_); try go_simp)
  have u0 : (W.alloc (Obj.cells #[.int .i64 a, .int .i64 b] 3)).drew.cell? ⟨w.heap.size + 1 + 1, 0, none⟩ = some (.int .i64 a) := by rw [← z0]; simp
  have u1 : (W.alloc (Obj.cells #[.int .i64 a, .int .i64 b] 3)).drew.cell? ⟨w.heap.size + 1 + 1, 1, none⟩ = some (.int .i64 b) := by rw [← z0]; simp
  have K3 := Lib.hid (or_any a b _ _ u0 u1)
  go_at_call 31
  (with_reducible refine K3.out.mono ?_)
  rintro e1 w1 ⟨rfl, rfl⟩
  refine hK.out _ _ ((GrownD.refl W).alloc _).drew ?_
  clear hK K
  try simp only [Act.put, List.setIfInBounds_toArray, List.set_cons_zero, List.set_cons_succ]
  (refine Plan.plan_last rfl (fun K hK => ?_); go_simp; refine hK.out _ _ ?_; clear hK K; try simp only [Act.put, List.setIfInBounds_toArray, List.set_cons_zero, List.set_cons_succ])
  go_wp2_with fail
  go_ret
  exact ⟨ret_int HR.out.symm, hG.trans (((GrownD.refl W).alloc _).drew)⟩
/-- The row of rights, as the sort reads it. -/
theorem holds_rights {w : World} {g : Nat} {A : List Rt} (h : ∀ k r, A[k]? = some r → ∀ j u, r.cells[j]? = some u → w.cell? ⟨g, k * 9 + j, none⟩ = some u ∧ w.frozen? ⟨g, k * 9 + j, none⟩ = false) : HoldsK Rt.cells 9 w g 0 A.toArray := by
  intro t ht
  rw [size_flatK] at ht
  rw [get_flatK _ _ _ _ ht, Nat.zero_add]
  have hk : t / 9 < A.length := by simp at ht; omega
  obtain ⟨r, hr⟩ : ∃ r, A[t / 9]? = some r := ⟨_, List.getElem?_eq_getElem hk⟩
  have e1 : A.toArray[t / 9]! = r := by
    rw [getElem!_pos A.toArray (t / 9) (by simpa using hk)]
    simpa using (List.getElem?_eq_some_iff.1 hr).2
  rw [e1]
  have hj : t % 9 < r.cells.length := by rw [rt_len]; omega
  have := h (t / 9) r hr (t % 9) _ (List.getElem?_eq_getElem hj)
  rw [show t / 9 * 9 + t % 9 = t by omega] at this
  show w.cell? _ = some r.cells[t % 9]! ∧ _
  rw [getElem!_pos r.cells (t % 9) hj]
  exact this
theorem rights_of_holds {w : World} {g : Nat} {d : Array Rt} (h : HoldsK Rt.cells 9 w g 0 d) (hg : g < w.heap.size) : RightsAt w w.heap.size (some ⟨g, 0, none⟩) d.toList := fun hl => by
  refine ⟨g, 0, rfl, hg, fun k r hk j v hj => ?_⟩
  have hkl : k < d.size := by simpa using (List.getElem?_eq_some_iff.1 hk).1
  have hj7 : j < 9 := (List.getElem?_eq_some_iff.1 hj).1
  have := (h.cell (i := k) (c := j) hkl hj7).1
  have e1 : d[k]! = r := by
    rw [getElem!_pos d k hkl]
    have := (List.getElem?_eq_some_iff.1 hk).2
    simpa using this
  rw [e1, getElem!_pos r.cells j (by rw [rt_len]; exact hj7), (List.getElem?_eq_some_iff.1 hj).2] at this
  rw [show 0 + (k * 9 + j) = 0 + k * 9 + j by omega]
  exact this
theorem below_swk {α : Type} [Inhabited α] {enc : α → List Value} {k : Nat} {w0 w : World} {blk off B : Nat} {d : Array α} (h : SWK enc k w0 blk off d w) (hB : B ≤ blk) (hb : blk ≤ w0.heap.size) : Below B w0 w := by
  obtain ⟨n, os, rfl⟩ := h
  refine ⟨rfl, rfl, rfl, size_sortWorldK_c enc k w0 blk off n d os, fun j hj => ?_⟩
  unfold sortWorldK
  have h1 : (grow (putRowK enc k (Sort.ahead w0 n) blk off d) os).heap[j]? = (putRowK enc k (Sort.ahead w0 n) blk off d).heap[j]? := by
    show ((putRowK enc k (Sort.ahead w0 n) blk off d).heap ++ os)[j]? = _
    rw [Array.getElem?_append_left (by rw [size_putRowK]; show j < w0.heap.size; omega)]
  rw [h1]
  show (Sort.mapBlock (Sort.ahead w0 n) blk _).heap[j]? = _
  unfold Sort.mapBlock
  show ((Sort.ahead w0 n).heap.modify blk _)[j]? = w0.heap[j]?
  rw [Array.getElem?_modify, if_neg (by omega)]
  rfl
theorem ins_nil (p : Option Addr) (cc : Nat) (fv : Value) (w : World) : Calls Tryd.prog 46 #[.slice p 0 cc, .int .i64 0, .int .i64 0, fv] w fun x w' => x = .returned (.tuple #[]) ∧ w = w' := by
  go_enter Tryd.func46, Tryd.ntmps46
  go_wp2_with fail
  refine wp_loop_rounds 1 ?_
  rw [rounds_succ]
  go_wp2_with fail
  go_end0
  exact ⟨rfl, rfl⟩
theorem stable_nil (p : Option Addr) (cc : Nat) (fv : Value) (w : World) : Calls Tryd.prog 43 #[.slice p 0 cc, .int .i64 0, fv] w fun x w' => x = .returned (.tuple #[]) ∧ w = w' := by
  have K := fun w => ins_nil p cc fv w
  go_enter Tryd.func43, Tryd.ntmps43
  go_wp2_with fail
  refine wp_loop_rounds 1 ?_
  rw [rounds_succ]
  go_wp2_with (first | (go_at_call 46; (with_reducible refine (K _).mono ?_); rintro e1 w1 ⟨rfl, rfl⟩) | fail)
  refine wp_loop_rounds 1 ?_
  rw [rounds_succ]
  go_wp2_with fail
  go_end0
  exact ⟨rfl, rfl⟩
theorem sort_nil (p : Option Addr) (cc : Nat) (fv : Value) (w : World) : Calls Tryd.prog 29 #[.slice p 0 cc, fv] w fun x w' => x = .returned (.tuple #[]) ∧ w = w' := by
  have K := fun w => stable_nil p cc fv w
  go_enter Tryd.func29, Tryd.ntmps29
  go_wp2_with (first | (go_at_call 43; (with_reducible refine (K _).mono ?_); rintro e1 w1 ⟨rfl, rfl⟩) | fail)
  go_end0
  exact ⟨rfl, rfl⟩
set_option maxHeartbeats 1000000 in
/-- The sort of a row of rights of the call's own, nil or not. -/
theorem sort_any (A : List Rt) (v : Value) (w : World) {base : Nat} (hv : w.ownsRow base 33 9 v A.length (rowR A)) (hb : base ≤ w.heap.size) (hA : A.length ≤ 1000000) :
    Calls Tryd.prog 29 #[v, .func (.func 30) #[] #[]] w fun x w' => x = .returned (.tuple #[]) ∧ ∃ C cc, v = .slice C A.length cc ∧ RightsAt w' w'.heap.size C (orderR A) ∧ (∀ a, C = some a → base ≤ a.block) ∧ Below base w w' := by
  by_cases hn : A.length = 0
  · obtain ⟨C, cc, rfl, _, hF⟩ := rowk_of_owns rt_len hv
    obtain rfl : A = [] := List.eq_nil_of_length_eq_zero hn
    refine (sort_nil C cc _ w).mono ?_
    rintro x w' ⟨rfl, rfl⟩
    exact ⟨rfl, C, cc, rfl, RightsAt.nil _ _ _, hF, Below.refl _ _⟩
  · obtain ⟨g, cc, rfl, hbg, hgw, hcells⟩ := rowkArr_of_owns rt_len hn hv
    have hH := holds_rights hcells
    have := st_sort (α := Rt) Rt.cells cfR 30 #[] g 0 cc A.toArray w (by rw [ltOf_r]; exact swoR) Tryd.call30 (fun m os dk _ x y => closure_any x y _) ⟨rt_len, rt_one, hH, hgw⟩ (by simp; omega)
    rw [show A.toArray.size = A.length by simp] at this
    refine this.mono ?_
    rintro x w' ⟨rfl, d, hst, hsw⟩
    rw [ltOf_r] at hst
    have hd : d.toList = orderR A := ST.Stab.eq ltR swoR (by simpa using hst) (ST.insSort_stab ltR swoR A)
    have hbw := below_swk hsw hbg (by omega)
    refine ⟨rfl, _, cc, rfl, ?_, fun a ha => by cases ha; exact hbg, hbw⟩
    rw [← hd]
    have hds : d.size = A.toArray.size := by have := hst.length; simpa using this
    exact rights_of_holds (hsw.holds hgw hH hds) (by have := hbw.size; omega)
theorem reads_rights {w : World} {B : Nat} {C : Option Addr} {A : List Rt} (h : RightsAt w B C A) : Reads w B 9 C A.length (rowR A) := reads_rowk rt_len (rights_row.1 h) (by decide)
theorem rowR_one (A : List Rt) : ∀ u ∈ rowR A, u.oneCell' = true := fun u hu => by
  obtain ⟨e, _, h⟩ := List.mem_flatMap.1 hu
  exact rt_one e u h
theorem rowR_snoc (A : List Rt) (x : Rt) : rowR (A ++ [x]) = rowR A ++ x.cells := by simp [rowR]
theorem rowR_append (A B : List Rt) : rowR (A ++ B) = rowR A ++ rowR B := by simp [rowR]
set_option maxRecDepth 100000 in
set_option maxHeartbeats 1000000 in
theorem clone_any (l : List Rt) (C : Option Addr) (cc : Nat) (w : World) {B : Nat} (hC : RightsAt w B C l) (hB : B ≤ w.heap.size) (hl : l.length ≤ 1000000) :
    Calls Tryd.prog 28 #[.slice C l.length cc] w fun x w' => ∃ v, x = .returned v ∧ w'.ownsRow w.heap.size 33 9 v l.length (rowR l) ∧ Below w.heap.size w w' := by
  obtain ⟨i0, hi, hz0, hz1, hz2⟩ := info_parts Tryd.infoRight
  have qT : ∀ (w : World) (a : Option Addr) (n c : Nat), (binOp .eql 34 (.slice a n c) (.slice none 0 0)).run Tryd.prog w = .ok (.bool a.isNone) w := fun w a n c => Lib.run_eql_slice_nil w _ _ a n c 0 0 Tryd.underlying34
  rcases C with _ | ad
  · have h0 : l = [] := by
      rcases l with _ | ⟨x, l⟩
      · rfl
      · obtain ⟨b, off, e, _⟩ := hC (by simp); cases e
    subst h0
    go_enter Tryd.func28, Tryd.ntmps28
    go_wp2_with fail
    go_ret
    exact ⟨_, rfl, World.ownsRow_nil _ _ _ _, Below.refl _ _⟩
  · have hR := reads_rights (hC.below ((Below.refl w.heap.size w).alloc (Nat.le_refl _) (.cells #[] 33) |>.mono hB))
    have kO : (w.alloc (.cells #[] 33)).ownsRow w.heap.size 33 9 (.slice (some ⟨w.heap.size, 0, none⟩) 0 0) 0 [] := World.ownsRow_made w #[] 0 (Nat.le_refl _) (by unfold maxLen; omega) (by simp)
    go_enter Tryd.func28, Tryd.ntmps28
    go_wp2_with (first | (at_builtin; go_loud (refine wpList_append_any _ rfl _ _ 34 rfl w.heap.size 33 i0 _ 9 72 Tryd.underlying34 hi hz0 hz1 hz2 rfl (by decide) _ 0 [] rfl kO B (some ad) l.length cc (rowR l) rfl hR (rowR_one l) (by unfold maxLen; omega) (by omega) (by simp) ?_); intro v' w2 hown' hgrow hat) | fail)
    go_ret
    exact ⟨v', rfl, by have h := hown'; rw [Nat.zero_add, List.nil_append] at h; exact h, (below_new _ _).trans (below_own kO (by simp) hgrow)⟩
/-- Rights in the order of seniority. -/
def RightsRes (L : List Rt) (w : World) (x : Ending) (w' : World) : Prop := ∃ C cc, x = .returned (.slice C L.length cc) ∧ L.length ≤ cc ∧ RightsAt w' w'.heap.size C L ∧ Below w.heap.size w w'
set_option maxHeartbeats 1000000 in
theorem order_any (l : List Rt) (C : Option Addr) (cc : Nat) (w : World) {B : Nat} (hC : RightsAt w B C l) (hB : B ≤ w.heap.size) (hl : l.length ≤ 1000000) :
    Calls Tryd.prog 14 #[.slice C l.length cc] w (RightsRes (orderR l) w) := by
  have K := Lib.hid (clone_any l C cc w hC hB hl)
  go_enter Tryd.func14, Tryd.ntmps14
  go_wp2_with (first | (go_at_call 28; (with_reducible refine K.out.mono ?_); rintro x1 w1 ⟨v, rfl, hv, hb1⟩; obtain ⟨D, cd, he, _, _⟩ := rowk_of_owns rt_len hv; have hcap := owns_cap hv he; have K2 := Lib.hid (sort_any l v w1 hv hb1.size hl); subst he; clear hv) | (go_at_call 29; (with_reducible refine K2.out.mono ?_); rintro x2 w2 ⟨rfl, C2, c2, he2, hE, hF, hb2⟩; have HE2 := Lib.hid he2; clear he2) | fail)
  have he2 := HE2.out
  injection he2 with q1 q2 q3
  subst q1
  subst q3
  go_ret
  exact ⟨D, cd, by rw [order_len]; rfl, by rw [order_len]; exact hcap, hE, hb1.trans hb2⟩
end Go.Proofs.YtchmplnkddgncaaDoor
