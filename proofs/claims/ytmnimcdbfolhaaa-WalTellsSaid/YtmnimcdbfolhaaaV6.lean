/- The walks of Open (all ways), Append, Flush, All, Len of a log. -/
import Derived.Test.YtmnimcdbfolhaaaV5
import Derived.Test.YtmnimcdbfolhaaaMake
set_option linter.unusedSimpArgs false
set_option linter.unusedVariables false
namespace Go.Proofs.Ytmnimcdbfolhaaa
open Go.RowKit DK
attribute [local go_sem] alloc_drewN setCell_drewN shape_drewN
section
variable {w0 w w' : World} {b lb : Nat} {f : Int} {P : Nat → Prop} {n : Nat} {s : St} {R : List Bts}
theorem open_nil (f : Int) (w : World) : Calls Try.prog 17 #[.pointer none, .int .i64 f] w fun e w' => e = .returned (.tuple #[.pointer none, .int .i64 1]) ∧ w = w' := by
  go_enter Try.func17, Try.ntmps17
  go_wp2_with fail
  go_ret2
  exact ⟨rfl, rfl⟩
theorem open_bad (b : Nat) (f : Int) (w : World) (hf : f < 0 ∨ 6 < f) : Calls Try.prog 17 #[dp b, .int .i64 f] w fun e w' => e = .returned (.tuple #[.pointer none, .int .i64 1]) ∧ w = w' := by
  unfold dp
  rcases Int.lt_or_le f 0 with h | h
  · have g1 : decide (f < 0) = true := decide_eq_true h
    go_enter Try.func17, Try.ntmps17
    go_wp2_with fail
    go_ret2
    exact ⟨rfl, rfl⟩
  · have g1 : decide (f < 0) = false := decide_eq_false (by omega)
    have g2 : decide (6 < f) = true := decide_eq_true (by omega)
    go_enter Try.func17, Try.ntmps17
    go_wp2_with fail
    go_ret2
    exact ⟨rfl, rfl⟩
theorem open_down (h : HasP w0 b P n w s) (hf : ¬ (f < 0 ∨ 6 < f)) (hd : s.down = true) : Calls Try.prog 17 #[dp b, .int .i64 f] w fun e w' => e = .returned (.tuple #[.pointer none, .int .i64 9]) ∧ w = w' := by
  have KR := Lib.hid (h.read f (x := []) (v := 9) (by unfold DK.read; rw [hd]; rfl))
  unfold dp at *
  have g1 : decide (f < 0) = false := decide_eq_false (by omega)
  have g2 : decide (6 < f) = false := decide_eq_false (by omega)
  go_enter Try.func17, Try.ntmps17
  go_wp2_with fail
  go_at_call 20
  refine KR.out.mono ?_
  rintro e w1 ⟨rfl, rfl⟩
  go_wp2_with fail
  go_ret2
  exact ⟨rfl, rfl⟩
/-- Open, whatever the disk's state. -/
theorem open_any (h : HasP w0 b P n w s) (f : Int) (hn : n ≤ 999999) : Calls Try.prog 17 #[dp b, .int .i64 f] w (OpenIs w0 b f P n s w) := by
  by_cases hf : f < 0 ∨ 6 < f
  · refine (open_bad b f w hf).mono ?_
    rintro e w1 ⟨rfl, rfl⟩
    have e1 : openS s f = (1, s) := by unfold openS; rw [if_pos hf]
    refine ⟨Keep.refl _ _, .inr ?_⟩
    rw [e1]; exact ⟨by simp, rfl, h⟩
  cases hd : s.down
  · exact open_ok h f hf hd hn
  · refine (open_down h hf hd).mono ?_
    rintro e w1 ⟨rfl, rfl⟩
    have e1 : openS s f = (9, s) := by unfold openS; rw [if_neg hf, hd]; rfl
    refine ⟨Keep.refl _ _, .inr ?_⟩
    rw [e1]; exact ⟨by simp, rfl, h⟩
/-- Where it is known that Open answers OK. -/
theorem open_yes (h : HasP w0 b P n w s) (f : Int) (hn : n ≤ 999999) {s' : St} {R : List Bts} (ho : openS s f = (0, s')) (hR : rowsOf (s.data f.toNat) = R) :
    Calls Try.prog 17 #[dp b, .int .i64 f] w fun e w' => ∃ lb, e = .returned (.tuple #[lp lb, .int .i64 0]) ∧ Wal w0 b lb f P n w' s' R ∧ Keep P w w' ∧ w.heap.size ≤ lb := by
  refine (open_any h f hn).mono ?_
  rintro e w1 ⟨hk, ⟨h1, lb, rfl, h2, h3⟩ | ⟨h1, _⟩⟩
  · rw [ho, hR] at h2; exact ⟨lb, rfl, h2, hk, h3⟩
  · rw [ho] at h1; exact absurd rfl h1
theorem grown_refl (w : World) (row : Option Nat) : w.grownBy w row := ⟨rfl, rfl, rfl, Nat.le_refl _, fun _ _ _ => rfl⟩
theorem Wal.wrote {o o3 : Option Nat} {c c3 : Nat} {R3 : List Bts} {w3 : World} (H : HasP w0 b (fun k => P k ∨ k = lb ∨ o = some k) n w s) (hL : LogAt w b lb f o c R) (hP : ∀ k, P k → k ≠ lb ∧ o ≠ some k) (hb : w0.heap.size ≤ lb) (hG : w.grownBy w3 o)
    (hO : w3.ownsRow (lb + 1) 9 1 (.slice (ad o3) R3.length c3) R3.length (strV R3)) (ho : ∀ k, o3 = some k → o = some k ∨ w.heap.size ≤ k) :
    Wal w0 b lb f P n (w3.setCell ⟨lb, 2, none⟩ (.slice (ad o3) R3.length c3)) s R3 ∧ Keep P w (w3.setCell ⟨lb, 2, none⟩ (.slice (ad o3) R3.length c3)) := by
  have hlb := hL.lt
  have hne : some lb ≠ o := fun e => by have := hL.olt e.symm; omega
  have hW : ∀ k, k < w.heap.size → k ≠ lb → o ≠ some k → (w3.setCell ⟨lb, 2, none⟩ (.slice (ad o3) R3.length c3)).heap[k]? = w.heap[k]? := fun k hk h1 h2 => (Below.heap_setCell _ _ _ _ h1).trans (hG.block k hk (fun e => h2 e.symm))
  have hz : w.heap.size ≤ (w3.setCell ⟨lb, 2, none⟩ (.slice (ad o3) R3.length c3)).heap.size := by have := hG.size; simpa using this
  refine ⟨⟨⟨o3, c3, ⟨logO_set ((hG.block lb hlb hne).trans hL.obj) _, row_heap hO fun k hk => Below.heap_setCell _ _ _ _ (show k ≠ lb by have := hO.lt k hk; omega)⟩, fun k hk => ⟨(hP k hk).1, fun e => ?_⟩, H.turn_ hG.os hG.tape hG.output hz (fun k hk q => ?_) fun k q => ⟨?_, ?_⟩⟩, hb⟩, ⟨hz, fun k hk hp => hW k hk (hP k hp).1 (hP k hp).2⟩⟩
  · rcases ho k e with q | q
    · exact (hP k hk).2 q
    · have := H.lt k (.inl hk); omega
  · refine hW k hk (fun e => ?_) (fun e => ?_)
    · rcases q with q | q
      · exact q (.inr (.inl e))
      · omega
    · rcases q with q | q
      · exact q (.inr (.inr e))
      · have := hL.olt e; omega
  · rcases q with q | q | q
    · exact .inl (.inl q)
    · exact .inl (.inr (.inl q))
    · rcases ho k q with r | r
      · exact .inl (.inr (.inr r))
      · exact .inr r
  · rcases q with q | q | q
    · exact Nat.lt_of_lt_of_le (H.lt k (.inl q)) hz
    · omega
    · have := hO.lt k (by rw [ad_block]; exact q); simpa using this.2
/-- The plain effect of Append on a log. -/
def wappS (s : St) (f : Int) (R : List Bts) (x : Bts) : Int × St × List Bts := if 1048576 < x.length then (8, s, R) else
  ((DK.append s f (recd x)).1, (DK.append s f (recd x)).2, if (DK.append s f (recd x)).1 = 0 then R ++ [x] else R)
set_option maxRecDepth 100000 in
set_option maxHeartbeats 4000000 in
theorem wapp_any (h : Wal w0 b lb f P n w s R) (x : Bts) (hx : x.length ≤ 9223372036854775807) (hR : R.length ≤ 1000000000) (hn : n ≤ 999999) {v : Int} {s' : St} {R' : List Bts} (hv : wappS s f R x = (v, s', R')) :
    Calls Try.prog 19 #[lp lb, .string (bs x)] w fun e w' => e = .returned (.int .i64 v) ∧ Wal w0 b lb f P (n + 1) w' s' R' ∧ Keep P w w' := by
  have z1 := bs_size x
  unfold wappS at hv
  unfold lp
  by_cases hl : 1048576 < x.length
  · rw [if_pos hl] at hv
    injection hv with v1 v2
    injection v2 with v2 v3
    subst v1; subst v2; subst v3
    have g1 : (1048576 : Int) < (x.length : Int) := by omega
    go_enter Try.func19, Try.ntmps19
    go_wp2_with fail
    go_ret
    exact ⟨rfl, h.more (Nat.le_succ _), Keep.refl _ _⟩
  rw [if_neg hl] at hv
  have g1 : ¬ (1048576 : Int) < (x.length : Int) := by omega
  obtain ⟨o, c, hL, hP, H⟩ := h.at_
  obtain ⟨c0, c1, c2, f2⟩ := logO_cells hL.obj
  have KR := Lib.hid fun wx => record_any x wx (by omega)
  have hlb := hL.lt
  have hbase := h.base
  obtain ⟨v1, s1, ev⟩ : ∃ v1 s1, DK.append s f (recd x) = (v1, s1) := ⟨_, _, rfl⟩
  rw [ev] at hv
  have KA := Lib.hid fun wx (hb : Below w.heap.size w wx) => (H.below_ hb).append f (recd x) (by rw [recd_len]; omega) hn (v := v1) (s' := s1) (by rw [ev]) (by rw [ev])
  unfold dp at KA c0
  obtain ⟨i0, hi, hz0, hz1, hz2⟩ := info_parts (show (Try.prog.info? 9).map (fun i => (i.zero, i.size, i.bytes)) = some (some (.string ⟨#[]⟩), 1, 16) by kernel_rfl)
  clear ev
  go_enter Try.func19, Try.ntmps19
  go_upto_region 5 with fail
  refine Plan.wp_region_treeS (fun wx => wx.cell? ⟨lb, 0, none⟩ = some (.pointer (some ⟨b, 0, none⟩)) ∧ wx.cell? ⟨lb, 1, none⟩ = some (.int .i64 f)) (.rd 0 (.rd 1 (.rd 2 (.rd 3 (.rd 4 (.rd 5 (.rd 6 (.rd 7 (.rd 8 (.wr 9 (.wr 10 (.rd 11 .done)))))))))))) (by kernel_rfl) (by kernel_rfl) ⟨c0, c1⟩ ?_
  (repeat (refine Plan.tree_read (v := ?_) rfl rfl ?_ ?_; rotate_left; (focus ((intro wS hSw; (try dsimp only at hSw); go_simp); try with_reducible rfl)); simp only [Act.put, List.setIfInBounds_toArray, List.set_cons_zero, List.set_cons_succ]))
  (refine Plan.tree_write rfl (fun K hK => ?_); try go_simp)
  go_at_call 45
  refine (KR.out _).mono ?_
  rintro e wa ⟨rfl, hba⟩
  have hba2 := (Below.refl _ _).drew.trans hba
  (refine hK.out _ _ (⟨(hba2.cell (p := ⟨lb, 0, none⟩) hlb).trans c0, (hba2.cell (p := ⟨lb, 1, none⟩) hlb).trans c1⟩) ?_; clear hK K; try simp only [Act.put, List.setIfInBounds_toArray, List.set_cons_zero, List.set_cons_succ])
  (repeat (refine Plan.tree_read (v := ?_) rfl rfl ?_ ?_; rotate_left; (focus ((intro wS hSw; (try dsimp only at hSw); go_simp); try with_reducible rfl)); simp only [Act.put, List.setIfInBounds_toArray, List.set_cons_zero, List.set_cons_succ]))
  (refine Plan.tree_write rfl (fun K hK => ?_); try go_simp)
  go_at_call 16
  refine (KA.out _ hba2).mono ?_
  rintro e wb ⟨rfl, H2, k2⟩
  have hL2 := (hL.below hba2).keep k2 (.inr (.inl rfl)) (fun g e => .inr (.inr e))
  obtain ⟨d0, d1, d2, d3⟩ := logO_cells hL2.obj
  (refine hK.out _ _ (⟨d0, d1⟩) ?_; clear hK K; try simp only [Act.put, List.setIfInBounds_toArray, List.set_cons_zero, List.set_cons_succ])
  (repeat (refine Plan.tree_read (v := ?_) rfl rfl ?_ ?_; rotate_left; (focus ((intro wS hSw; (try dsimp only at hSw); go_simp); try with_reducible rfl)); simp only [Act.put, List.setIfInBounds_toArray, List.set_cons_zero, List.set_cons_succ]))
  refine Plan.tree_done ?_
  have kk : Keep (fun k => P k ∨ k = lb ∨ o = some k) w wb := (Keep.of_below hba2).trans k2
  clear KR KA c0 c1 c2 f2 hba hba2 k2
  by_cases g : v1 = 0
  case neg =>
    have g2 : (v1 != 0) = true := by rw [bne_iff_ne]; exact g
    rw [if_neg g] at hv
    injection hv with e1 e2
    injection e2 with e2 e3
    subst e1; subst e2; subst e3
    go_wp2_with fail
    go_ret
    exact ⟨rfl, ⟨⟨o, c, hL2, hP, H2⟩, hbase⟩, kk.sub fun k q => .inl q⟩
  subst g
  rw [if_pos rfl] at hv
  injection hv with e1 e2
  injection e2 with e2 e3
  subst e1; subst e2; subst e3
  have hlb2 := hL2.lt
  have hne : some lb ≠ o := fun e => by have := hL2.olt e.symm; omega
  have hrow := Lib.hid hL2.row
  obtain ⟨nr, hnr⟩ : ∃ nr, R.length = nr := ⟨_, rfl⟩
  rw [hnr] at d2 hrow hR
  go_wp2_with (at_builtin; refine wpList_append_any _ (by rfl) _ _ 22 (by rfl) (lb + 1) 9 i0 _ 1 16 Try.underlying22 hi hz0 hz1 hz2 rfl (by decide) _ nr _ (by rfl) (hrow.out.alloc _) (_ + 1) (some ⟨wb.heap.size, 0, none⟩) 1 1 [.string (bs x)] (by rfl) ⟨rfl, fun _ => ⟨_, rfl, Nat.lt_succ_self _, cells_at (by rfl) _ _⟩⟩ (fun u hu => by obtain rfl := List.mem_singleton.1 hu; rfl) (by unfold maxLen; omega) (by omega) (by simp; omega) ?_; intro v' w3 hO3 hG3 hob3; obtain ⟨o3, cc3, hv3, _⟩ := ad_of_owns hO3; subst hv3; rw [ad_block, ad_block] at hob3; rw [ad_block] at hG3; have hG := Plan.grown_go (Plan.grown_alloc (grown_refl _ o) _) hG3; have y0 := (Plan.grown_cells hG lb 2 hlb2 hne).trans d2; have y1 := (World.frozen?_of_block (a := ⟨lb, 2, none⟩) (hG.block lb hlb2 hne)).trans d3)
  go_ret
  have hl1 : (R ++ [x]).length = nr + 1 := by rw [List.length_append, hnr]; rfl
  obtain ⟨r1, r2⟩ := Wal.wrote (R3 := R ++ [x]) (c3 := cc3) (o3 := o3) H2 hL2 hP hbase hG (by rw [hl1, strV_snoc]; exact hO3) (fun k e => hob3.imp (fun q => q.symm.trans e) (fun q => by rw [q] at e; injection e with e; simp at e; omega))
  rw [hl1] at r1 r2
  exact ⟨rfl, r1, (kk.sub fun k q => .inl q).trans r2⟩
end
end Go.Proofs.Ytmnimcdbfolhaaa
