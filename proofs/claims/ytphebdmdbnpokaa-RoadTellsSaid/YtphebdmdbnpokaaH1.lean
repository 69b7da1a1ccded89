/- The heap of visits in memory, and the walks of its five methods. -/
import Derived.Test.YtphebdmdbnpokaaRM
import Derived.Test.YtphebdmdbnpokaaRows
import Derived.Test.YtphebdmdbnpokaaAppSrc
import Derived.Deep.CutRange
import Derived.Deep.DeepCutAuto
import Derived.Deep.LoopGhost
set_option linter.unusedSimpArgs false
set_option linter.unusedVariables false
namespace Go.Proofs.Ytphebdmdbnpokaa
open Go.RowKit RD HP
attribute [local go_sem] alloc_drewN setCell_drewN shape_drewN
def visC (p : V) : List Value := [.int .i64 p.1, .int .i64 p.2]
theorem visC_len (p : V) : (visC p).length = 2 := rfl
def rowV (Q : List V) : List Value := Q.flatMap visC
/-- Block b holds the slice of the visits Q, which lie in a row of the call's own from base on. -/
structure HeapAt (w : World) (base b : Nat) (o : Option Nat) (c : Nat) (Q : List V) : Prop where
  box : Box w b #[.slice (ad o) Q.length c] 81
  row : w.ownsRow base 79 2 (.slice (ad o) Q.length c) Q.length (rowV Q)
  ne : o ≠ some b
theorem len_any (o : Option Addr) (n c : Nat) (w : World) (hn : n ≤ 9223372036854775807) : Calls Try.prog 36 #[.slice o n c] w fun e w' => e = .returned (.int .i64 n) ∧ w = w' := by
  go_enter Try.func36, Try.ntmps36
  go_wp2_with fail
  go_ret
  exact ⟨rfl, rfl⟩
theorem wrap_chk (tys : Array TypeId) (ty : TypeId) (a : Addr) (s m : String) : Builtin.ssaWrapNilChk_ tys ty #[.pointer (some a), strVal s, strVal m] = pure (.pointer (some a)) := rfl
theorem meth_len (b : Nat) (a : Option Addr) (n c : Nat) (w : World) (h : Box w b #[.slice a n c] 81) (k : Nat) : (method (k + 1) 77 (.pointer (some ⟨b, 0, none⟩)) "Len").run Try.prog w = .ok (36, .slice a n c) w := by
  have hc : w.cell? ⟨b, 0, none⟩ = some (.slice a n c) := h.cell rfl
  have hf : Array.find? (fun x => x.name == "Len") Try.t77.methods = some { name := "Len", sig := 82, path := #[], func := some (36, false) } := by kernel_rfl
  unfold method
  go_simp
  simp [follow, receiverAt, Place.get, wrap_chk, go_sem, hc]
theorem nil_len (a : Addr) (w : World) (k : Nat) : (nilAhead (k + 1) 77 (.pointer (some a)) "Len").run Try.prog w = .ok (some false) w := by
  have hf : Array.find? (fun x => x.name == "Len") Try.t77.methods = some { name := "Len", sig := 82, path := #[], func := some (36, false) } := by kernel_rfl
  unfold nilAhead
  go_simp
  simp [followBlind, go_sem]
theorem meth_less (b : Nat) (a : Option Addr) (n c : Nat) (w : World) (h : Box w b #[.slice a n c] 81) (k : Nat) : (method (k + 1) 77 (.pointer (some ⟨b, 0, none⟩)) "Less").run Try.prog w = .ok (73, .slice a n c) w := by
  have hc : w.cell? ⟨b, 0, none⟩ = some (.slice a n c) := h.cell rfl
  have hf : Array.find? (fun x => x.name == "Less") Try.t77.methods = some { name := "Less", sig := 103, path := #[], func := some (73, false) } := by kernel_rfl
  unfold method
  go_simp
  simp [follow, receiverAt, Place.get, wrap_chk, go_sem, hc]
theorem nil_less (a : Addr) (w : World) (k : Nat) : (nilAhead (k + 1) 77 (.pointer (some a)) "Less").run Try.prog w = .ok (some false) w := by
  have hf : Array.find? (fun x => x.name == "Less") Try.t77.methods = some { name := "Less", sig := 103, path := #[], func := some (73, false) } := by kernel_rfl
  unfold nilAhead
  go_simp
  simp [followBlind, go_sem]
theorem meth_swap (b : Nat) (a : Option Addr) (n c : Nat) (w : World) (h : Box w b #[.slice a n c] 81) (k : Nat) : (method (k + 1) 77 (.pointer (some ⟨b, 0, none⟩)) "Swap").run Try.prog w = .ok (76, .slice a n c) w := by
  have hc : w.cell? ⟨b, 0, none⟩ = some (.slice a n c) := h.cell rfl
  have hf : Array.find? (fun x => x.name == "Swap") Try.t77.methods = some { name := "Swap", sig := 97, path := #[], func := some (76, false) } := by kernel_rfl
  unfold method
  go_simp
  simp [follow, receiverAt, Place.get, wrap_chk, go_sem, hc]
theorem nil_swap (a : Addr) (w : World) (k : Nat) : (nilAhead (k + 1) 77 (.pointer (some a)) "Swap").run Try.prog w = .ok (some false) w := by
  have hf : Array.find? (fun x => x.name == "Swap") Try.t77.methods = some { name := "Swap", sig := 97, path := #[], func := some (76, false) } := by kernel_rfl
  unfold nilAhead
  go_simp
  simp [followBlind, go_sem]
theorem meth_pop (a : Addr) (w : World) (k : Nat) : (method (k + 1) 77 (.pointer (some a)) "Pop").run Try.prog w = .ok (74, .pointer (some a)) w := by
  have hf : Array.find? (fun x => x.name == "Pop") Try.t77.methods = some { name := "Pop", sig := 99, path := #[], func := some (74, true) } := by kernel_rfl
  unfold method
  go_simp
  simp [follow, receiverAt, Place.get, go_sem]
theorem nil_pop (a : Addr) (w : World) (k : Nat) : (nilAhead (k + 1) 77 (.pointer (some a)) "Pop").run Try.prog w = .ok (some false) w := by
  have hf : Array.find? (fun x => x.name == "Pop") Try.t77.methods = some { name := "Pop", sig := 99, path := #[], func := some (74, true) } := by kernel_rfl
  unfold nilAhead
  go_simp
  simp [followBlind, go_sem]
theorem meth_push (a : Addr) (w : World) (k : Nat) : (method (k + 1) 77 (.pointer (some a)) "Push").run Try.prog w = .ok (75, .pointer (some a)) w := by
  have hf : Array.find? (fun x => x.name == "Push") Try.t77.methods = some { name := "Push", sig := 100, path := #[], func := some (75, true) } := by kernel_rfl
  unfold method
  go_simp
  simp [follow, receiverAt, Place.get, go_sem]
theorem nil_push (a : Addr) (w : World) (k : Nat) : (nilAhead (k + 1) 77 (.pointer (some a)) "Push").run Try.prog w = .ok (some false) w := by
  have hf : Array.find? (fun x => x.name == "Push") Try.t77.methods = some { name := "Push", sig := 100, path := #[], func := some (75, true) } := by kernel_rfl
  unfold nilAhead
  go_simp
  simp [followBlind, go_sem]
theorem HeapAt.get {w : World} {base b : Nat} {o : Option Nat} {c : Nat} {Q : List V} (h : HeapAt w base b o c Q) {k : Nat} (hk : k < Q.length) : ∃ g, o = some g ∧ base ≤ g ∧ g < w.heap.size ∧ ∀ k, k < Q.length → w.cell? ⟨g, k * 2, none⟩ = some (.int .i64 (HP.at_ Q k).1) ∧ w.cell? ⟨g, k * 2 + 1, none⟩ = some (.int .i64 (HP.at_ Q k).2) ∧ (∀ j, w.frozen? ⟨g, j, none⟩ = false) := by
  obtain ⟨g, cc, e, hb, hlt, hc⟩ := rowkArr_of_owns visC_len (by omega) h.row
  obtain ⟨o', rfl⟩ : ∃ o', o = some o' := by
    cases o with
    | none => simp [ad] at e
    | some o' => exact ⟨o', rfl⟩
  simp [ad] at e
  obtain ⟨rfl, rfl⟩ := e
  refine ⟨o', rfl, hb, hlt, fun k hk => ?_⟩
  have hq : Q[k]? = some (HP.at_ Q k) := by unfold HP.at_; rw [List.getD_eq_getElem?_getD, List.getElem?_eq_getElem hk]; rfl
  have c0 := hc k _ hq 0 _ rfl
  have c1 := hc k _ hq 1 _ rfl
  refine ⟨c0.1, c1.1, fun j => ?_⟩
  obtain ⟨h1, ⟨e, _⟩ | ⟨g, cap, cur, e, h2, h3, _⟩⟩ := h.row
  · simp [ad] at e
  · simp [ad] at e
    obtain ⟨rfl, rfl⟩ := e
    simp [World.frozen?, h3]
def LessIs (p q : V) (w : World) (e : Ending) (w' : World) : Prop := e = .returned (.bool (ltB p q)) ∧ ∃ n, w' = w.drewN n
theorem lessB_ne {p q : V} (h : p.1 ≠ q.1) : ltB p q = decide (p.1 < q.1) := by
  unfold ltB
  rw [show (p.1 == q.1) = false by simpa using h]; simp
theorem lessB_eq {p q : V} (h : p.1 = q.1) : ltB p q = decide (p.2 < q.2) := by
  unfold ltB
  rw [h]; simp
set_option maxHeartbeats 1000000 in
theorem less_any (g c : Nat) (n i j : Nat) (p q : V) (w : World) (hi : i < n) (hj : j < n) (hn : n ≤ 9223372036854775807)
    (p1 : w.cell? ⟨g, i * 2, none⟩ = some (.int .i64 p.1)) (p2 : w.cell? ⟨g, i * 2 + 1, none⟩ = some (.int .i64 p.2)) (q1 : w.cell? ⟨g, j * 2, none⟩ = some (.int .i64 q.1)) (q2 : w.cell? ⟨g, j * 2 + 1, none⟩ = some (.int .i64 q.2)) :
    Calls Try.prog 73 #[.slice (some ⟨g, 0, none⟩) n c, .int .i64 i, .int .i64 j] w (LessIs p q w) := by
  obtain ⟨a, x⟩ := p
  obtain ⟨b, y⟩ := q
  dsimp only at *
  by_cases h : a = b
  · have H := Lib.hid (lessB_eq (p := (a, x)) (q := (b, y)) h)
    subst h
    dsimp only at H
    go_enter Try.func73, Try.ntmps73
    go_wp2_with fail
    go_quiet (fail)
    go_wp2_with fail
    go_quiet (fail)
    go_wp2_with fail
    go_ret
    exact ⟨ret_bool H.out.symm, _, by rw [World.drewN_drewN]⟩
  · have H := Lib.hid (lessB_ne (p := (a, x)) (q := (b, y)) h)
    have d1 : ((a : Int) != (b : Int)) = true := by simp; omega
    have d2 : (a != b) = true := by simpa using h
    have d3 : ((a : Int) == (b : Int)) = false := by simp; omega
    have d4 : (a == b) = false := by simpa using h
    dsimp only at H
    go_enter Try.func73, Try.ntmps73
    go_wp2_with fail
    go_quiet (fail)
    go_wp2_with fail
    go_quiet (fail)
    go_wp2_with fail
    go_ret
    exact ⟨ret_bool H.out.symm, _, by rw [World.drewN_drewN]⟩
def swapW (w : World) (g i j : Nat) (p q : V) : World := ((((w.setCell ⟨g, i * 2, none⟩ (.int .i64 q.1)).setCell ⟨g, i * 2 + 1, none⟩ (.int .i64 q.2)).setCell ⟨g, j * 2, none⟩ (.int .i64 p.1)).setCell ⟨g, j * 2 + 1, none⟩ (.int .i64 p.2)).drew
set_option maxHeartbeats 2000000 in
theorem swap_any (g c : Nat) (n i j : Nat) (p q : V) (w : World) (hi : i < n) (hj : j < n) (hn : n ≤ 9223372036854775807) (hf : ∀ j, w.frozen? ⟨g, j, none⟩ = false)
    (p1 : w.cell? ⟨g, i * 2, none⟩ = some (.int .i64 p.1)) (p2 : w.cell? ⟨g, i * 2 + 1, none⟩ = some (.int .i64 p.2)) (q1 : w.cell? ⟨g, j * 2, none⟩ = some (.int .i64 q.1)) (q2 : w.cell? ⟨g, j * 2 + 1, none⟩ = some (.int .i64 q.2)) :
    Calls Try.prog 76 #[.slice (some ⟨g, 0, none⟩) n c, .int .i64 i, .int .i64 j] w fun e w' => e = .returned (.tuple #[]) ∧ w' = swapW w g i j p q := by
  have f1 := hf (i * 2)
  have f2 := hf (i * 2 + 1)
  have f3 := hf (j * 2)
  have f4 := hf (j * 2 + 1)
  clear hf
  by_cases h : i = j
  · subst h
    have e1 := Value.int.inj (Option.some.inj (q1.symm.trans p1))
    have e2 := Value.int.inj (Option.some.inj (q2.symm.trans p2))
    obtain ⟨a, x⟩ := p
    obtain ⟨b, y⟩ := q
    obtain rfl : a = b := by have := e1.2; omega
    obtain rfl : x = y := by have := e2.2; omega
    clear e1 e2 q1 q2 f3 f4
    go_enter Try.func76, Try.ntmps76
    go_wp2_with fail
    go_region
    go_end0
    exact ⟨rfl, rfl⟩
  · go_enter Try.func76, Try.ntmps76
    go_wp2_with fail
    go_region
    go_end0
    exact ⟨rfl, rfl⟩
theorem assert_vis (v : Value) (w : World) : (Instr.typeAssert (.iface 79 v) 20 79 true).run Try.prog w = .ok (.tuple #[v, .bool true]) w := by kernel_rfl
theorem infoVis : (Try.prog.info? 79).map (fun i => (i.zero, i.size, i.bytes)) = some (some (.agg #[.int .i64 0, .int .i64 0]), 2, 16) := by kernel_rfl
/-- Which blocks a call on the heap may turn. -/
def hS (b : Nat) (o : Option Nat) (k : Nat) : Prop := k = b ∨ o = some k
def PushIs (base b : Nat) (o : Option Nat) (Q : List V) (p : V) (w : World) (e : Ending) (w' : World) : Prop := e = .returned (.tuple #[]) ∧ ∃ o' c', HeapAt w' base b o' c' (Q ++ [p]) ∧ Kp (hS b o) w w' ∧ (∀ g, o' = some g → o = some g ∨ w.heap.size ≤ g)
theorem rowV_snoc (Q : List V) (p : V) : rowV (Q ++ [p]) = rowV Q ++ visC p := by simp [rowV]
set_option maxRecDepth 100000 in
set_option maxHeartbeats 2000000 in
theorem vpush_any (base b : Nat) (o : Option Nat) (c : Nat) (Q : List V) (p : V) (w : World) (h : HeapAt w base b o c Q) (hn : Q.length ≤ 1000000) (hB : base ≤ w.heap.size) :
    Calls Try.prog 75 #[.pointer (some ⟨b, 0, none⟩), .iface 79 (.agg #[.int .i64 p.1, .int .i64 p.2])] w (PushIs base b o Q p w) := by
  obtain ⟨i0, hi, hz0, hz1, hz2⟩ := info_parts infoVis
  have ha := fun wx => assert_vis (.agg #[.int .i64 p.1, .int .i64 p.2]) wx
  have hbl := h.box.lt
  have hne := h.ne
  have HH := Lib.hid h
  have hc : w.cell? ⟨b, 0, none⟩ = some (.slice (ad o) Q.length c) := h.box.cell rfl
  have hf : w.frozen? ⟨b, 0, none⟩ = false := h.box.free 0
  have hno : some w.heap.size ≠ o := fun e => by have := (h.row.lt w.heap.size (by rw [ad_block]; exact e.symm)).2; omega
  clear h
  go_enter Try.func75, Try.ntmps75
  go_wp2_with fail
  obtain ⟨W1, hW1⟩ : ∃ W, W = w.alloc (.cells #[.int .i64 p.1, .int .i64 p.2] 79) := ⟨_, rfl⟩
  have z1 : w.heap.size < W1.heap.size := by rw [hW1]; simp
  have c1 : W1.cell? ⟨b, 0, none⟩ = some (.slice (ad o) Q.length c) := by rw [hW1]; go_simp
  have f1 : W1.frozen? ⟨b, 0, none⟩ = false := by rw [hW1]; go_simp
  have v1 : W1.cell? ⟨w.heap.size, 0, none⟩ = some (.int .i64 p.1) := by rw [hW1]; go_simp
  have v2 : W1.cell? ⟨w.heap.size, 1, none⟩ = some (.int .i64 p.2) := by rw [hW1]; go_simp
  have hrow := Lib.hid (show W1.ownsRow base 79 2 (.slice (ad o) Q.length c) Q.length (rowV Q) by rw [hW1]; exact HH.out.row.alloc _)
  have HW := Lib.hid hW1
  have hbn : some b ≠ o := fun e => hne e.symm
  have hb1 : b < W1.heap.size := by omega
  rw [← hW1]
  clear hW1
  refine Plan.wp_region_plan (fun wx => W1.grownBy wx o) 8 [(0, true), (1, true), (2, true), (3, true), (4, true), (5, false), (6, false), (7, true), (8, false)] (by kernel_rfl) (by kernel_rfl) (Plan.grown_drew _ _) ?_
  (repeat (first | (refine Plan.plan_read (v := ?_) rfl rfl ?_ ?_; rotate_left; (focus ((intro wS hSw; have hkS := Plan.grown_cells hSw; go_simp); try with_reducible rfl)); simp only [Act.put, List.setIfInBounds_toArray, List.set_cons_zero, List.set_cons_succ]) | (refine Plan.plan_skip rfl rfl ?_; simp only [Act.put, List.setIfInBounds_toArray, List.set_cons_zero, List.set_cons_succ])))
  (refine Plan.plan_write rfl (fun K hK => ?_); try go_simp)
  refine hK.out _ _ (Plan.grown_alloc (Plan.grown_drew _ _) _) ?_
  clear hK K
  try simp only [Act.put, List.setIfInBounds_toArray, List.set_cons_zero, List.set_cons_succ]
  refine Plan.plan_write rfl (fun K hK => ?_)
  refine step_append_any _ (by rfl) _ _ 81 (by rfl) base 79 i0 _ 2 16 Try.underlying81 hi hz0 hz1 hz2 rfl (by omega) _ Q.length _ (by rfl) ((hrow.out.alloc _).drew) (_ + 1) (some ⟨W1.heap.size, 0, none⟩) 1 1 (visC p) (by rfl) ⟨rfl, fun _ => ⟨_, rfl, Nat.lt_succ_self _, cells_at (by rfl) _ _⟩⟩ (fun u hu => ?_) (by unfold maxLen; omega) (by omega) (by simp; omega) ?_
  · simp [visC] at hu
    rcases hu with rfl | rfl <;> rfl
  intro v' w3 hO3 hG3 hob3
  obtain ⟨o3, c3, hv3, _⟩ := ad_of_owns hO3
  subst hv3
  rw [ad_block, ad_block] at hob3
  rw [ad_block] at hG3
  have hG := Plan.grown_go (Plan.grown_alloc (Plan.grown_drew _ _) _) hG3
  refine hK.out _ _ hG ?_
  clear hK K
  try simp only [Act.put, List.setIfInBounds_toArray, List.set_cons_zero, List.set_cons_succ]
  have y0 := (Plan.grown_cells hG b 0 hb1 hbn).trans c1
  have y1 := (World.frozen?_of_block (a := ⟨b, 0, none⟩) (hG.block b hb1 hbn)).trans f1
  replace hO3 := Lib.hid hO3
  (repeat (first | (refine Plan.plan_read (v := ?_) rfl rfl ?_ ?_; rotate_left; (focus ((intro wS hSw; have hkS := Plan.grown_cells hSw; go_simp); try with_reducible rfl)); simp only [Act.put, List.setIfInBounds_toArray, List.set_cons_zero, List.set_cons_succ]) | (refine Plan.plan_skip rfl rfl ?_; simp only [Act.put, List.setIfInBounds_toArray, List.set_cons_zero, List.set_cons_succ])))
  (refine Plan.plan_last rfl (fun K hK => ?_); go_simp; refine hK.out _ _ ?_; clear hK K; try simp only [Act.put, List.setIfInBounds_toArray, List.set_cons_zero, List.set_cons_succ])
  go_wp2_with fail
  go_end0
  have hK1 : Kp (hS b o) w W1 := by rw [HW.out]; exact (Kp.refl _ _).alloc _
  have hK3 : Kp (hS b o) w w3 := hK1.trans (Kp.grown hG (S := fun k => o = some k) fun g e => e) fun n _ e => .inr e
  have ho3 : ∀ g, o3 = some g → o = some g ∨ w.heap.size ≤ g := fun g e => by
    rcases hob3 with q | q
    · exact .inl (q.symm.trans e)
    · rw [e] at q; have q := Option.some.inj q; right; rw [q]; simp; omega
  have hbx : Box w3 b #[.slice (ad o) Q.length c] 81 := (HH.out.box.keep (by rw [HW.out]; exact Below.heap_alloc _ _ _ hbl)).keep (hG.block b hb1 hbn)
  have hob : o3 ≠ some b := fun e => by
    rcases ho3 b e with q | q
    · exact hne q
    · omega
  refine ⟨rfl, o3, c3, ⟨?_, ?_, hob⟩, hK3.setCell (p := ⟨b, 0, none⟩) (.inr (.inl rfl)) _, ho3⟩
  · rw [List.length_append, List.length_singleton]; exact hbx.set1 _
  · rw [rowV_snoc, List.length_append, List.length_singleton]
    exact row_heap hO3.out fun k e => Below.heap_setCell _ _ _ _ (fun q => hob (by rw [ad_block] at e; rw [e]; exact congrArg some q))
end Go.Proofs.Ytphebdmdbnpokaa
