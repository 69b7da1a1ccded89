/- Joined of: W9. -/
import Derived.Test.YtminphldifncaaaDoorG06
import Derived.Test.YtminphldifncaaaDoorSW6
/- The walk of Lines. -/
set_option linter.unusedSimpArgs false
set_option linter.unusedVariables false
namespace Go.Proofs.YtminphldifncaaaDoor
open Go.RowKit LG Go.Sort
attribute [local go_sem] alloc_drewN setCell_drewN shape_drewN

/-- What cmp.Compare says of two integers. -/
def cmpI (x y : Int) : Int := if x < y then -1 else if y < x then 1 else 0
theorem isnan_any (x : Int) (w : World) : Calls Tryd.prog 59 #[.int .i64 x] w fun e w' => e = .returned (.bool false) ∧ w = w' := by
  go_enter Tryd.func59, Tryd.ntmps59
  go_wp2_with fail
  go_ret
  exact ⟨by simp, rfl⟩
theorem compare_any (x y : Int) (w : World) : Calls Tryd.prog 36 #[.int .i64 x, .int .i64 y] w fun e w' => e = .returned (.int .i64 (cmpI x y)) ∧ w = w' := by
  have K := fun n w => isnan_any n w
  have hR : Hid (cmpI x y = if x < y then -1 else if y < x then 1 else 0) := rfl
  go_enter Tryd.func36, Tryd.ntmps36
  by_cases h1 : x < y
  · go_wp2_with (first | (go_at_call 59; (with_reducible refine (K _ _).mono ?_); rintro e1 w1 ⟨rfl, rfl⟩) | fail)
    go_ret
    exact ⟨ret_int (by rw [hR.out, if_pos (by omega)]), rfl⟩
  · by_cases h2 : y < x
    · go_wp2_with (first | (go_at_call 59; (with_reducible refine (K _ _).mono ?_); rintro e1 w1 ⟨rfl, rfl⟩) | fail)
      go_ret
      exact ⟨ret_int (by rw [hR.out, if_neg (by omega), if_pos (by omega)]), rfl⟩
    · go_wp2_with (first | (go_at_call 59; (with_reducible refine (K _ _).mono ?_); rintro e1 w1 ⟨rfl, rfl⟩) | fail)
      go_ret
      exact ⟨ret_int (by rw [hR.out, if_neg (by omega), if_neg (by omega)]), rfl⟩
def cfDay (x y : Et) : Int := cmpI x.day y.day
theorem ltOf_day : ltOf cfDay = ltDay := by
  funext x y
  show decide (cfDay x y < 0) = decide (x.day < y.day)
  unfold cfDay cmpI
  rw [Bool.eq_iff_iff, decide_eq_true_iff, decide_eq_true_iff]
  split
  · omega
  · split <;> omega
theorem swoDay : SWO ltDay := ⟨fun x => by simp [ltDay], fun x y z a b => by simp [ltDay] at *; omega, fun x y z a b => by simp [ltDay] at *; omega⟩
theorem closure_any (x y : Et) (w : World) : Calls Tryd.prog 50 #[.agg (Et.cells x).toArray, .agg (Et.cells y).toArray] w fun e w' => e = .returned (.int .i64 (cfDay x y)) ∧ ∃ q os', w' = grow (w.drewN q) os' := by
  show Calls Tryd.prog 50 #[.agg #[.int .i64 x.day, .int .i64 x.known, .int .i64 x.owner, .int .i64 x.place, .int .i64 x.litres, .int .i64 x.why, .int .i64 x.ref], .agg #[.int .i64 y.day, .int .i64 y.known, .int .i64 y.owner, .int .i64 y.place, .int .i64 y.litres, .int .i64 y.why, .int .i64 y.ref]] w _
  have K : Hid (∀ w, Calls Tryd.prog 36 #[.int .i64 x.day, .int .i64 y.day] w fun e w' => e = .returned (.int .i64 (cfDay x y)) ∧ w = w') := fun w => compare_any _ _ w
  generalize cfDay x y = r at K ⊢
  go_enter Tryd.func50, Tryd.ntmps50
  go_wp2_with (first | (go_at_call 36; (with_reducible refine (K.out _).mono ?_); rintro e1 w1 ⟨rfl, rfl⟩) | fail)
  go_ret
  exact ⟨rfl, 0, _, by rw [alloc_eq_grow, alloc_eq_grow, grow_grow]; rfl⟩
theorem cells_len (x : Et) : (Et.cells x).length = 7 := rfl
theorem cells_one (x : Et) : ∀ v ∈ Et.cells x, v.oneCell' = true := fun u h => by
  simp only [Et.cells, List.mem_cons, List.not_mem_nil, or_false] at h
  rcases h with rfl | rfl | rfl | rfl | rfl | rfl | rfl <;> rfl
/-- The row of entries, as the sort reads it. -/
theorem holds_ents {w : World} {g : Nat} {A : List Et} (h : ∀ k r, A[k]? = some r → ∀ j u, r.cells[j]? = some u → w.cell? ⟨g, k * 7 + j, none⟩ = some u ∧ w.frozen? ⟨g, k * 7 + j, none⟩ = false) : HoldsK Et.cells 7 w g 0 A.toArray := by
  intro t ht
  rw [size_flatK] at ht
  rw [get_flatK _ _ _ _ ht, Nat.zero_add]
  have hk : t / 7 < A.length := by simp at ht; omega
  obtain ⟨r, hr⟩ : ∃ r, A[t / 7]? = some r := ⟨_, List.getElem?_eq_getElem hk⟩
  have e1 : A.toArray[t / 7]! = r := by
    rw [getElem!_pos A.toArray (t / 7) (by simpa using hk)]
    simpa using (List.getElem?_eq_some_iff.1 hr).2
  rw [e1]
  have hj : t % 7 < r.cells.length := by rw [cells_len]; omega
  have := h (t / 7) r hr (t % 7) _ (List.getElem?_eq_getElem hj)
  rw [show t / 7 * 7 + t % 7 = t by omega] at this
  show w.cell? _ = some r.cells[t % 7]! ∧ _
  rw [getElem!_pos r.cells (t % 7) hj]
  exact this
theorem ents_of_holds {w : World} {g : Nat} {d : Array Et} (h : HoldsK Et.cells 7 w g 0 d) (hg : g < w.heap.size) : EntsAt w w.heap.size (some ⟨g, 0, none⟩) d.toList := fun hl => by
  refine ⟨g, 0, rfl, hg, fun k r hk j v hj => ?_⟩
  have hkl : k < d.size := by simpa using (List.getElem?_eq_some_iff.1 hk).1
  have hj7 : j < 7 := (List.getElem?_eq_some_iff.1 hj).1
  have := (h.cell (i := k) (c := j) hkl hj7).1
  have e1 : d[k]! = r := by
    rw [getElem!_pos d k hkl]
    have := (List.getElem?_eq_some_iff.1 hk).2
    simpa using this
  rw [e1, getElem!_pos r.cells j (by rw [cells_len]; exact hj7), (List.getElem?_eq_some_iff.1 hj).2] at this
  rw [show 0 + (k * 7 + j) = 0 + k * 7 + j by omega]
  exact this
theorem below_swk {α : Type} [Inhabited α] {enc : α → List Value} {k : Nat} {w0 w : World} {blk off B : Nat} {d : Array α} (h : SWK enc k w0 blk off d w) (hB : B ≤ blk) (hb : blk ≤ w0.heap.size) : Below B w0 w := by
  obtain ⟨n, os, rfl⟩ := h
  refine ⟨rfl, rfl, rfl, size_sortWorldK_c enc k w0 blk off n d os, fun j hj => ?_⟩
  unfold sortWorldK
  have h1 : (grow (putRowK enc k (Sort.ahead w0 n) blk off d) os).heap[j]? = (putRowK enc k (Sort.ahead w0 n) blk off d).heap[j]? := by
    show ((putRowK enc k (Sort.ahead w0 n) blk off d).heap ++ os)[j]? = _
    rw [Array.getElem?_append_left (by rw [size_putRowK]; show j < w0.heap.size; omega)]
  rw [h1]
  show (Sort.mapBlock (Sort.ahead w0 n) blk _).heap[j]? = _
  unfold Sort.mapBlock
  show ((Sort.ahead w0 n).heap.modify blk _)[j]? = w0.heap[j]?
  rw [Array.getElem?_modify, if_neg (by omega)]
  rfl
theorem ins_nil (p : Option Addr) (cc : Nat) (fv : Value) (w : World) : Calls Tryd.prog 69 #[.slice p 0 cc, .int .i64 0, .int .i64 0, fv] w fun x w' => x = .returned (.tuple #[]) ∧ w = w' := by
  go_enter Tryd.func69, Tryd.ntmps69
  go_wp2_with fail
  refine wp_loop_rounds 1 ?_
  rw [rounds_succ]
  go_wp2_with fail
  go_end0
  exact ⟨rfl, rfl⟩
theorem stable_nil (p : Option Addr) (cc : Nat) (fv : Value) (w : World) : Calls Tryd.prog 58 #[.slice p 0 cc, .int .i64 0, fv] w fun x w' => x = .returned (.tuple #[]) ∧ w = w' := by
  have K := fun w => ins_nil p cc fv w
  go_enter Tryd.func58, Tryd.ntmps58
  go_wp2_with fail
  refine wp_loop_rounds 1 ?_
  rw [rounds_succ]
  go_wp2_with (first | (go_at_call 69; (with_reducible refine (K _).mono ?_); rintro e1 w1 ⟨rfl, rfl⟩) | fail)
  refine wp_loop_rounds 1 ?_
  rw [rounds_succ]
  go_wp2_with fail
  go_end0
  exact ⟨rfl, rfl⟩
theorem sort_nil (p : Option Addr) (cc : Nat) (fv : Value) (w : World) : Calls Tryd.prog 34 #[.slice p 0 cc, fv] w fun x w' => x = .returned (.tuple #[]) ∧ w = w' := by
  have K := fun w => stable_nil p cc fv w
  go_enter Tryd.func34, Tryd.ntmps34
  go_wp2_with (first | (go_at_call 58; (with_reducible refine (K _).mono ?_); rintro e1 w1 ⟨rfl, rfl⟩) | fail)
  go_end0
  exact ⟨rfl, rfl⟩
set_option maxHeartbeats 1000000 in
/-- The sort of a row of entries of the call's own, nil or not. -/
theorem sort_any (A : List Et) (v : Value) (w : World) {base : Nat} (hv : w.ownsRow base 34 7 v A.length (rowE A)) (hb : base ≤ w.heap.size) (hA : A.length ≤ 1000000) :
    Calls Tryd.prog 34 #[v, .func (.func 50) #[] #[]] w fun x w' => x = .returned (.tuple #[]) ∧ ∃ C cc, v = .slice C A.length cc ∧ EntsAt w' w'.heap.size C (ST.insSort ltDay A) ∧ (∀ a, C = some a → base ≤ a.block) ∧ Below base w w' := by
  by_cases hn : A.length = 0
  · obtain ⟨C, cc, rfl, _, hF⟩ := ents_of_owns hv
    obtain rfl : A = [] := List.eq_nil_of_length_eq_zero hn
    refine (sort_nil C cc _ w).mono ?_
    rintro x w' ⟨rfl, rfl⟩
    exact ⟨rfl, C, cc, rfl, EntsAt.nil _ _ _, hF, Below.refl _ _⟩
  · obtain ⟨g, cc, rfl, hbg, hgw, hcells⟩ := entsArr_of_owns hn hv
    have hH := holds_ents hcells
    have := st_sort (α := Et) Et.cells cfDay 50 #[] g 0 cc A.toArray w (by rw [ltOf_day]; exact swoDay) Tryd.call50 (fun m os dk _ x y => closure_any x y _) ⟨cells_len, cells_one, hH, hgw⟩ (by simp; omega)
    rw [show A.toArray.size = A.length by simp] at this
    refine this.mono ?_
    rintro x w' ⟨rfl, d, hst, hsw⟩
    rw [ltOf_day] at hst
    have hd : d.toList = ST.insSort ltDay A := ST.Stab.eq ltDay swoDay (by simpa using hst) (ST.insSort_stab ltDay swoDay A)
    have hbw := below_swk hsw hbg (by omega)
    refine ⟨rfl, _, cc, rfl, ?_, fun a ha => by cases ha; exact hbg, hbw⟩
    rw [← hd]
    have hds : d.size = A.toArray.size := by have := hst.length; simpa using this
    exact ents_of_holds (hsw.holds hgw hH hds) (by have := hbw.size; omega)
end Go.Proofs.YtminphldifncaaaDoor

