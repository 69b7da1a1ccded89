/- Joined of: W6 W7 W8 W9 W10 W11 W12. -/
import Derived.Laws.BytesArg
import Derived.Laws.IdiomStrings
import Derived.Test.YtmnimcdbfolhaaaW5
/- The walks of interrupted, add, Append, Read. -/
set_option linter.unusedSimpArgs false
set_option linter.unusedVariables false
namespace Go.Proofs.Ytmnimcdbfolhaaa
open Go.RowKit DK
attribute [local go_sem] alloc_drewN setCell_drewN shape_drewN
theorem conv_own {w : World} {base c : Nat} {o : Option Nat} {x : Bts} (h : w.ownsRow base 5 1 (.slice (ad o) x.length c) x.length (bytesV x)) :
    (convert 69 9 (.slice (ad o) x.length c)).run Try.prog w = .ok (.string (bs x)) w := by
  cases o with
  | none =>
    have hx : x = [] := by
      rcases h.2 with ⟨_, e⟩ | ⟨g, cap, cur, e, _⟩
      · exact List.eq_nil_of_length_eq_zero e
      · simp [ad] at e
    subst hx
    exact run_convert_bytes_nil w 69 5 Try.underlying69 Try.underlying5 _ _ _ Try.underlying9
  | some g =>
    refine run_convert_bytes_back w 69 9 5 ⟨g, 0, none⟩ _ x Try.underlying69 Try.underlying5 Try.underlying9 (fun j hj => ?_)
    rw [Addr.add_lit, Nat.zero_add, h.cellAt j (by omega)]
    simp [bytesV, hj]
theorem crash_own {b : Nat} {m : Dm} {s : St} {w : World} (h : DiskAt w b m s) (hok : Ok s) (hq : s.q.length ≤ 1000000) (hkl : s.keep.length ≤ 9223372036854775807) :
    Calls Try.prog 23 #[dp b, .slice m.kA s.keep.length m.kc] w fun e w' => e = .returned (.tuple #[]) ∧ ∃ m', DiskAt w' b m' (crash s s.keep) ∧ Stp b m w m' w' :=
  crash_any b m s m.kA m.kc s.keep w h hok hq h.rk (fun _ a e => ⟨by have := (h.ak a e).1; omega, (h.ak a e).2.1⟩) hkl
theorem interrupted_any (b : Nat) (m : Dm) (s : St) (w : World) (h : DiskAt w b m s) (hok : Ok s) (hq : s.q.length ≤ 1000000) (ha : s.armed ≤ 9223372036854775807) (hkl : s.keep.length ≤ 9223372036854775807) :
    Calls Try.prog 65 #[dp b] w fun e w' => e = .returned (.bool (isDue s)) ∧ ∃ m', DiskAt w' b m' (intS s) ∧ Stp b m w m' w' := by
  unfold dp
  have K := due_any b m s w h ha
  unfold dp at K
  have hI : Hid (intS s = if isDue s then crash (dueS s) s.keep else dueS s) := rfl
  have hokD := hok.dueS
  have hqD : (dueS s).q.length ≤ 1000000 := hq
  have hkD : (dueS s).keep.length ≤ 9223372036854775807 := hkl
  clear h
  cases hd : isDue s
  · rw [hd] at K hI
    replace K := Lib.hid K
    clear hd
    go_enter Try.func65, Try.ntmps65
    go_wp2_with (go_at_call 39; (with_reducible refine K.out.mono ?_); rintro e w1 ⟨rfl, hD1, hS1⟩)
    go_ret
    exact ⟨rfl, m, by rw [hI.out]; exact hD1, hS1⟩
  · rw [hd] at K hI
    replace K := Lib.hid K
    clear hd
    go_enter Try.func65, Try.ntmps65
    go_wp2_with fail
    go_at_call 39
    (with_reducible refine K.out.mono ?_)
    rintro e w1 ⟨rfl, hD1, hS1⟩
    have K2 := crash_own hD1 hokD hqD hkD
    unfold dp at K2
    have c20 := hD1.ck
    rw [show (dueS s).keep = s.keep from rfl] at c20 K2
    replace K2 := Lib.hid K2
    replace hD1 := Lib.hid hD1
    replace hS1 := Lib.hid hS1
    go_wp2_with (go_at_call 23; (with_reducible refine K2.out.mono ?_); rintro e w2 ⟨rfl, m2, hD2, hS2⟩)
    go_ret
    exact ⟨rfl, m2, by rw [hI.out]; exact hD2, hS1.out.trans hS2⟩
theorem read_any (b : Nat) (m : Dm) (s : St) (f : Int) (w : World) (h : DiskAt w b m s) : Calls Try.prog 20 #[dp b, .int .i64 f] w fun e w' => e = .returned (.tuple #[.string (bs (read s f).1), .int .i64 (read s f).2]) ∧ w = w' := by
  unfold dp
  have hn := h.cn
  cases hd : s.down
  case true =>
    rw [hd] at hn
    have hr : Hid (read s f = ([], 9)) := by show _ = _; unfold DK.read; rw [hd]; rfl
    clear hd h
    go_enter Try.func20, Try.ntmps20
    go_wp2_with fail
    go_ret2
    exact ⟨by rw [hr.out]; rfl, rfl⟩
  case false =>
    rw [hd] at hn
    have K := Lib.hid (number_any (.pointer (some ⟨b, 0, none⟩)) f w)
    cases g : num f
    · rw [g] at K
      have hr : Hid (read s f = ([], 1)) := by show _ = _; unfold DK.read; rw [hd, g]; rfl
      clear hd h g
      go_enter Try.func20, Try.ntmps20
      go_wp2_with (go_at_call 49; (with_reducible refine K.out.mono ?_); rintro e w1 ⟨rfl, rfl⟩)
      go_ret2
      exact ⟨by rw [hr.out]; rfl, rfl⟩
    · rw [g] at K
      have hf := num_lt g
      have g2 := num_iff.1 g
      obtain ⟨k, rfl⟩ := Int.eq_ofNat_of_zero_le g2.1
      have hk : k < 8 := by omega
      have g3 : (0 : Int) ≤ (k : Int) ∧ (k : Int) < 8 := ⟨g2.1, g2.2⟩
      have h1 := h.cd k hk
      have hr : Hid (read s (k : Int) = (s.data k, 0)) := by show _ = _; unfold DK.read; rw [hd, g]; rfl
      have hrd := h.rd k hk
      obtain ⟨X, hX⟩ : ∃ x, Hid (x = s.data k) := ⟨_, rfl⟩
      rw [← hX.out] at h1 hrd
      have hconv := conv_own hrd
      clear h g hf hd hrd
      go_enter Try.func20, Try.ntmps20
      go_wp2_with (go_at_call 49; (with_reducible refine K.out.mono ?_); rintro e w1 ⟨rfl, rfl⟩)
      go_ret2
      exact ⟨by rw [hr.out, hX.out]; rfl, rfl⟩
set_option maxRecDepth 100000 in
theorem Try.infoPd : ∃ i, Try.prog.info? 94 = some i ∧ i.zero = some (.agg #[.int .i64 0, .int .i64 0, .int .i64 0]) ∧ i.size = 3 ∧ i.bytes = 24 := ⟨_, rfl, by kernel_rfl, by kernel_rfl, by kernel_rfl⟩
set_option maxRecDepth 100000 in
theorem Try.infoU8 : ∃ i, Try.prog.info? 5 = some i ∧ i.zero = some (.int .u8 0) ∧ i.size = 1 ∧ i.bytes = 1 := ⟨_, rfl, by kernel_rfl, by kernel_rfl, by kernel_rfl⟩
set_option maxHeartbeats 4000000 in
theorem add_any (b : Nat) (m : Dm) (s : St) (f : Int) (x : Bts) (w : World) (h : DiskAt w b m s) (hok : Ok s) (hq : s.q.length ≤ 1000000) (hx : x.length ≤ 9223372036854775807) :
    Calls Try.prog 40 #[dp b, .int .i64 f, .string (bs x)] w fun e w' => e = .returned (.int .i64 (addE s f x.length)) ∧ ∃ m', DiskAt w' b m' (addS s f x) ∧ Stp b m w m' w' := by
  unfold dp
  have K := Lib.hid (number_any (.pointer (some ⟨b, 0, none⟩)) f w)
  have hsz := bs_size x
  cases g : num f
  · rw [g] at K
    have hE : Hid (addE s f x.length = 1) := by show _ = _; unfold addE; rw [g]; rfl
    have hS : Hid (addS s f x = s) := by show _ = _; unfold addS; rw [g]; simp
    replace h := Lib.hid h
    clear g
    go_enter Try.func40, Try.ntmps40
    go_wp2_with (go_at_call 49; (with_reducible refine K.out.mono ?_); rintro e w1 ⟨rfl, rfl⟩)
    go_ret
    exact ⟨by rw [hE.out]; rfl, m, by rw [hS.out]; exact h.out, Stp.refl _ _ _⟩
  · rw [g] at K
    have hf := num_lt g
    have g2 := num_iff.1 g
    obtain ⟨k, rfl⟩ := Int.eq_ofNat_of_zero_le g2.1
    have hk : k < 8 := by omega
    have g3 : (0 : Int) ≤ (k : Int) ∧ (k : Int) < 8 := ⟨g2.1, g2.2⟩
    have hlen := hok.len k hk
    obtain ⟨X, hX⟩ : ∃ x, Hid (x = s.data k) := ⟨_, rfl⟩
    have c0 := h.cd k hk
    have hrd := h.rd k hk
    rw [← hX.out] at c0 hrd hlen
    have hb := h.lt
    have e1 : IntKind.i64.wrap (16777216 - (X.length : Int)) = 16777216 - (X.length : Int) := by simp [IntKind.wrap, IntKind.signed, IntKind.bits]; omega
    have hE : Hid (addE s (k : Int) x.length = if 16777216 < X.length + x.length then 8 else 0) := by show _ = _; unfold addE; rw [g, hX.out]; rfl
    have hS : Hid (addS s (k : Int) x = if X.length + x.length ≤ 16777216 ∧ x ≠ [] then { s with data := upd s.data k (X ++ x), q := s.q ++ [⟨k, X.length, X.length + x.length⟩] } else s) := by
      show _ = _; unfold addS; rw [hX.out, g]; simp
    clear g hf
    by_cases h8 : 16777216 < X.length + x.length
    · have e2 : 16777216 - (X.length : Int) < (x.length : Int) := by omega
      have e3 : decide (16777216 - (X.length : Int) < (x.length : Int)) = true := decide_eq_true e2
      replace h := Lib.hid h
      replace hrd := Lib.hid hrd
      have h8' := Lib.hid h8
      clear h8
      go_enter Try.func40, Try.ntmps40
      go_wp2_with (go_at_call 49; (with_reducible refine K.out.mono ?_); rintro e w1 ⟨rfl, rfl⟩)
      go_ret
      exact ⟨by rw [hE.out, if_pos h8'.out]; rfl, m, by rw [hS.out, if_neg (by have := h8'.out; omega)]; exact h.out, Stp.refl _ _ _⟩
    · have e2 : ¬ 16777216 - (X.length : Int) < (x.length : Int) := by omega
      have e3 : decide (16777216 - (X.length : Int) < (x.length : Int)) = false := decide_eq_false e2
      replace h := Lib.hid h
      replace hrd := Lib.hid hrd
      have h8' := Lib.hid h8
      clear h8
      have hem : (bs x).toList.isEmpty = x.isEmpty := by rw [ByteArray.toList_eq, bs_list]
      cases hx0 : x.isEmpty
      case true =>
        rw [hx0] at hem
        have hx1 : Hid (x = []) := List.isEmpty_iff.1 hx0
        clear hx0
        go_enter Try.func40, Try.ntmps40
        go_wp2_with (go_at_call 49; (with_reducible refine K.out.mono ?_); rintro e w1 ⟨rfl, rfl⟩)
        go_ret
        exact ⟨by rw [hE.out, if_neg h8'.out]; rfl, m, by rw [hS.out, if_neg (by rw [hx1.out]; simp)]; exact h.out, Stp.refl _ _ _⟩
      case false =>
        rw [hx0] at hem
        have hx1 : Hid (x ≠ []) := fun q => by rw [q] at hx0; cases hx0
        clear hx0
        obtain ⟨i0, hi, hy0, hy1, hy2⟩ := Try.infoU8
        obtain ⟨j0, hj, hz0, hz1, hz2⟩ := Try.infoPd
        have hfz := h.out.fz (k * 2)
        have hSrc : Hid (Src Try.prog 1 9 (.string (bs x)) x.length (bytesV x) w) := by
          have := Src.ofString (P := Try.prog) w Try.underlying9 (bs x)
          rwa [bs_size, byteCells_bs] at this
        go_enter Try.func40, Try.ntmps40
        go_upto_region 8 with (go_at_call 49; (with_reducible refine K.out.mono ?_); rintro e w1 ⟨rfl, rfl⟩)
        go_upto_region 9 with (at_builtin; refine wpList_append_src _ (by rfl) _ _ 69 9 (by rfl) (b + 1) 5 i0 (.int .u8 0) 1 1 Try.underlying69 hi hy0 hy1 hy2 rfl _ _ _ (by rfl) hrd.out _ x.length _ (by rfl) hSrc.out (by have := h8'.out; unfold maxLen; omega) (by have := h8'.out; omega) (by omega) ?_; intro v' w1 hO1 hG1 hob1; obtain ⟨o1, cc1, hv1, _⟩ := ad_of_owns hO1; subst hv1; rw [ad_block, ad_block] at hob1; rw [ad_block] at hG1; rw [← bytesV_app, ← List.length_append] at hO1; have y0 := (Plan.grown_cells hG1 b (k * 2) hb (fun e => by have := h.out.dlt hk e.symm; omega)).trans c0; have y1 := (World.frozen?_of_block (a := ⟨b, k * 2, none⟩) (hG1.block b hb (fun e => by have := h.out.dlt hk e.symm; omega))).trans hfz; replace hO1 := Lib.hid hO1; replace hG1 := Lib.hid hG1; replace hob1 := Lib.hid hob1)
        have h1 := h.out.filed hk hG1.out hO1.out (hob1.out.imp id fun e => ⟨_, e, Nat.le_refl _⟩)
        obtain ⟨w2, hw2⟩ : ∃ W, W = w1.setCell ⟨b, k * 2, none⟩ (.slice (ad o1) (X ++ x).length cc1) := ⟨_, rfl⟩
        rw [← hw2] at h1
        obtain ⟨m1, hm1⟩ : ∃ q, q = ({ m with dA := upd m.dA k o1, dc := upd m.dc k cc1 } : Dm) := ⟨_, rfl⟩
        rw [← hm1] at h1
        obtain ⟨hD2, hS2⟩ := h1
        have hll : (X ++ x).length = X.length + x.length := List.length_append
        rw [hll] at hw2
        rw [← hw2]
        have c2 : w2.cell? ⟨b, k * 2, none⟩ = some (.slice (ad o1) (X.length + x.length) cc1) := by rw [hw2]; exact World.cell?_setCell_same _ _ _ y0
        have c16 : w2.cell? ⟨b, 16, none⟩ = some (.slice (ad m.lA) s.q.length m.lc) := by have := hD2.cl; rw [hm1] at this; exact this
        have z16 := hD2.fz 16
        have hO2 : w2.ownsRow (b + 1) 94 3 (.slice (ad m.lA) s.q.length m.lc) s.q.length (rowPd s.q) := by have := hD2.rl; rw [hm1] at this; exact this
        have hb2 := hD2.lt
        have nl : some b ≠ m.lA := fun e => by have := h.out.llt e.symm; omega
        have hlA : m1.lA = m.lA := by rw [hm1]
        obtain ⟨nq, hnq⟩ : ∃ n, Hid (n = s.q.length) := ⟨_, rfl⟩
        rw [← hnq.out] at c16 hO2 hq
        replace hD2 := Lib.hid hD2
        replace hS2 := Lib.hid hS2
        replace hO2 := Lib.hid hO2
        replace hm1 := Lib.hid hm1
        replace hlA := Lib.hid hlA
        replace hll := Lib.hid hll
        clear hw2 y0 y1 hO1 hG1 hob1 c0 hfz
        refine Plan.wp_region_plan (fun w' => w2.grownBy w' m.lA) 17 [(0, true), (1, true), (2, true), (3, true), (4, true), (5, true), (6, true), (7, true), (8, true), (9, true), (10, true), (11, true), (12, true), (13, false), (14, false), (15, true), (16, true), (17, false)] (by kernel_rfl) (by kernel_rfl) (Plan.grown_drew _ _) ?_
        (repeat (first | (refine Plan.plan_read (v := ?_) rfl rfl ?_ ?_; rotate_left; (focus ((intro wS hSw; have hkS := Plan.grown_cells hSw; go_simp); try with_reducible rfl)); simp only [Act.put, List.setIfInBounds_toArray, List.set_cons_zero, List.set_cons_succ]) | (refine Plan.plan_skip rfl rfl ?_; simp only [Act.put, List.setIfInBounds_toArray, List.set_cons_zero, List.set_cons_succ])))
        (refine Plan.plan_write rfl (fun K hK => ?_); try go_simp)
        refine hK.out _ _ (Plan.grown_alloc (Plan.grown_drew _ _) _) ?_
        clear hK K
        try simp only [Act.put, List.setIfInBounds_toArray, List.set_cons_zero, List.set_cons_succ]
        (repeat (first | (refine Plan.plan_read (v := ?_) rfl rfl ?_ ?_; rotate_left; (focus ((intro wS hSw; have hkS := Plan.grown_cells hSw; go_simp); try with_reducible rfl)); simp only [Act.put, List.setIfInBounds_toArray, List.set_cons_zero, List.set_cons_succ]) | (refine Plan.plan_skip rfl rfl ?_; simp only [Act.put, List.setIfInBounds_toArray, List.set_cons_zero, List.set_cons_succ])))
        refine Plan.plan_write rfl (fun K hK => ?_)
        refine step_append_any _ (by rfl) _ _ 73 (by rfl) (b + 1) 94 j0 _ 3 24 Try.underlying73 hj hz0 hz1 hz2 rfl (by omega) _ nq _ (by rfl) (hO2.out.alloc _) (_ + 1) (some ⟨w2.heap.size, 0, none⟩) 1 1 (pdC ⟨k, X.length, X.length + x.length⟩) (by rfl) ⟨rfl, fun _ => ⟨_, rfl, Nat.lt_succ_self _, cells_at (by rfl) _ _⟩⟩ (fun u hu => ?_) (by unfold maxLen; omega) (by omega) (by simp; omega) ?_
        · rcases List.mem_cons.1 hu with rfl | hu
          · rfl
          rcases List.mem_cons.1 hu with rfl | hu
          · rfl
          obtain rfl := List.mem_singleton.1 hu
          rfl
        intro v' w3 hO3 hG3 hob3
        obtain ⟨o3, cc3, hv3, _⟩ := ad_of_owns hO3
        subst hv3
        rw [ad_block, ad_block] at hob3
        rw [ad_block] at hG3
        have hG := Plan.grown_go (Plan.grown_alloc (Plan.grown_drew _ _) _) hG3
        refine hK.out _ _ hG ?_
        clear hK K
        try simp only [Act.put, List.setIfInBounds_toArray, List.set_cons_zero, List.set_cons_succ]
        have y0 := (Plan.grown_cells hG b 16 hb2 nl).trans c16
        have y1 := (World.frozen?_of_block (a := ⟨b, 16, none⟩) (hG.block b hb2 nl)).trans z16
        replace hO3 := Lib.hid hO3
        (repeat (first | (refine Plan.plan_read (v := ?_) rfl rfl ?_ ?_; rotate_left; (focus ((intro wS hSw; have hkS := Plan.grown_cells hSw; go_simp); try with_reducible rfl)); simp only [Act.put, List.setIfInBounds_toArray, List.set_cons_zero, List.set_cons_succ]) | (refine Plan.plan_skip rfl rfl ?_; simp only [Act.put, List.setIfInBounds_toArray, List.set_cons_zero, List.set_cons_succ])))
        (refine Plan.plan_last rfl (fun K hK => ?_); go_simp; refine hK.out _ _ ?_; clear hK K; try simp only [Act.put, List.setIfInBounds_toArray, List.set_cons_zero, List.set_cons_succ])
        replace hG := Lib.hid hG
        replace hob3 := Lib.hid hob3
        clear hG3
        go_wp2_with fail
        go_ret
        have hlq : (s.q ++ [(⟨k, X.length, X.length + x.length⟩ : Pd)]).length = nq + 1 := by rw [List.length_append, hnq.out]; rfl
        have hO4 : w3.ownsRow (b + 1) 94 3 (.slice (ad o3) (s.q ++ [(⟨k, X.length, X.length + x.length⟩ : Pd)]).length cc3) (s.q ++ [(⟨k, X.length, X.length + x.length⟩ : Pd)]).length (rowPd (s.q ++ [⟨k, X.length, X.length + x.length⟩])) := by
          rw [hlq, show rowPd (s.q ++ [(⟨k, X.length, X.length + x.length⟩ : Pd)]) = rowPd s.q ++ pdC ⟨k, X.length, X.length + x.length⟩ by simp [rowPd]]
          exact hO3.out
        obtain ⟨r1, r2⟩ := DiskAt.listed hD2.out (by rw [hlA.out]; exact hG.out) hO4 (by rw [hlA.out]; exact hob3.out.imp id fun e => ⟨_, e, by simp⟩)
        rw [hlq] at r1 r2
        refine ⟨by rw [hE.out, if_neg h8'.out]; rfl, _, ?_, hS2.out.trans r2⟩
        rw [hS.out, if_pos ⟨by have := h8'.out; omega, hx1.out⟩]
        exact r1
set_option maxHeartbeats 4000000 in
theorem append_any (b : Nat) (m : Dm) (s : St) (f : Int) (x : Bts) (w : World) (h : DiskAt w b m s) (hok : Ok s) (hq : s.q.length ≤ 999999) (hx : x.length ≤ 9223372036854775807) (ha : s.armed ≤ 9223372036854775807) (hkl : s.keep.length ≤ 9223372036854775807) :
    Calls Try.prog 16 #[dp b, .int .i64 f, .string (bs x)] w fun e w' => e = .returned (.int .i64 (append s f x).1) ∧ ∃ m', DiskAt w' b m' (append s f x).2 ∧ Stp b m w m' w' := by
  unfold dp
  have hn := h.cn
  cases hd : s.down
  case true =>
    rw [hd] at hn
    have hr : Hid (append s f x = (9, s)) := by show _ = _; unfold DK.append; rw [hd]; rfl
    replace h := Lib.hid h
    clear hd
    go_enter Try.func16, Try.ntmps16
    go_wp2_with fail
    go_ret
    exact ⟨by rw [hr.out]; rfl, m, by rw [hr.out]; exact h.out, Stp.refl _ _ _⟩
  case false =>
    rw [hd] at hn
    have K := due_any b m s w h ha
    unfold dp at K
    replace K := Lib.hid K
    have hA : ∀ wx m', DiskAt wx b m' (dueS s) → Calls Try.prog 40 #[.pointer (some ⟨b, 0, none⟩), .int .i64 f, .string (bs x)] wx fun e w' => e = .returned (.int .i64 (addE s f x.length)) ∧ ∃ m2, DiskAt w' b m2 (addS (dueS s) f x) ∧ Stp b m' wx m2 w' := fun wx m' h' =>
      add_any b m' (dueS s) f x wx h' hok.dueS (show s.q.length ≤ 1000000 by omega) hx
    replace hA := Lib.hid hA
    have hr : Hid (append s f x = if isDue s then (9, crash (addS (dueS s) f x) s.keep) else (addE s f x.length, addS (dueS s) f x)) := by show _ = _; unfold DK.append; rw [hd]; rfl
    have hokA := Lib.hid (hok.dueS.addS f x)
    have hkA : Hid ((addS (dueS s) f x).keep = s.keep) := by show _ = _; unfold addS; split <;> rfl
    have hqA : Hid ((addS (dueS s) f x).q.length ≤ 1000000) := by
      show _ ≤ _; unfold addS; split
      · show (s.q ++ _).length ≤ _; rw [List.length_append]; simp; omega
      · show s.q.length ≤ _; omega
    clear hd h hok
    go_enter Try.func16, Try.ntmps16
    go_wp2_with fail
    go_at_call 39
    (with_reducible refine K.out.mono ?_)
    rintro e w1 ⟨rfl, hD1, hS1⟩
    replace hA := Lib.hid (hA.out w1 m hD1)
    replace hS1 := Lib.hid hS1
    clear hD1
    go_wp2_with fail
    go_at_call 40
    (with_reducible refine hA.out.mono ?_)
    rintro e w2 ⟨rfl, m2, hD2, hS2⟩
    replace hS2 := Lib.hid (hS1.out.trans hS2)
    cases hdd : isDue s
    · rw [hdd] at hr
      replace hD2 := Lib.hid hD2
      clear hdd
      go_wp2_with fail
      go_ret
      exact ⟨by rw [hr.out]; rfl, m2, by rw [hr.out]; exact hD2.out, hS2.out⟩
    · rw [hdd] at hr
      have c20 := hD2.ck
      have K2 := crash_own hD2 hokA.out hqA.out (by rw [hkA.out]; exact hkl)
      rw [hkA.out] at c20 K2
      unfold dp at K2
      replace K2 := Lib.hid K2
      replace hD2 := Lib.hid hD2
      clear hdd
      go_wp2_with (go_at_call 23; (with_reducible refine K2.out.mono ?_); rintro e w3 ⟨rfl, m3, hD3, hS3⟩)
      go_ret
      exact ⟨by rw [hr.out]; rfl, m3, by rw [hr.out]; exact hD3, hS2.out.trans hS3⟩
end Go.Proofs.Ytmnimcdbfolhaaa

/- The walks of New, Clone, Arm, Flush. -/
namespace Go.Proofs.Ytmnimcdbfolhaaa
open Go.RowKit DK
attribute [local go_sem] alloc_drewN setCell_drewN shape_drewN
def zeroDisk : List Value := [.slice none 0 0, .int .i64 0, .slice none 0 0, .int .i64 0, .slice none 0 0, .int .i64 0, .slice none 0 0, .int .i64 0, .slice none 0 0, .int .i64 0, .slice none 0 0, .int .i64 0, .slice none 0 0, .int .i64 0, .slice none 0 0, .int .i64 0, .slice none 0 0, .bool false, .int .i64 0, .int .i64 0, .slice none 0 0]
theorem disk_new (w : World) : DiskAt (w.alloc (.cells zeroDisk.toArray 75)) w.heap.size Dm.zero St.zero := by
  have hc : ∀ i v, zeroDisk[i]? = some v → (w.alloc (.cells zeroDisk.toArray 75)).cell? ⟨w.heap.size, i, none⟩ = some v := fun i v h => by rw [World.cell?_alloc_new]; simpa using h
  refine ⟨fun f hf => hc _ _ ?_, fun f hf => hc _ _ ?_, hc 16 _ rfl, hc 17 _ rfl, hc 18 _ rfl, hc 19 _ rfl, hc 20 _ rfl, fun i => World.frozen?_alloc_new (w := w) _ _ i, fun f hf => World.ownsRow_nil _ _ _ _, World.ownsRow_nil _ _ _ _, fun h => absurd h (by simp [St.zero]), fun _ _ _ _ _ => .inl rfl, fun _ _ => .inl rfl, (fun a h => by cases h), (fun a h => by cases h)⟩
  · match f, hf with
    | 0, _ => rfl
    | 1, _ => rfl
    | 2, _ => rfl
    | 3, _ => rfl
    | 4, _ => rfl
    | 5, _ => rfl
    | 6, _ => rfl
    | 7, _ => rfl
  · match f, hf with
    | 0, _ => rfl
    | 1, _ => rfl
    | 2, _ => rfl
    | 3, _ => rfl
    | 4, _ => rfl
    | 5, _ => rfl
    | 6, _ => rfl
    | 7, _ => rfl
theorem new_any (w : World) : Calls Try.prog 15 #[] w fun e w' => e = .returned (dp w.heap.size) ∧ DiskAt w' w.heap.size Dm.zero St.zero ∧ Below w.heap.size w w' := by
  have h := Lib.hid (disk_new w)
  have hb := Lib.hid (below_new w (.cells zeroDisk.toArray 75))
  go_enter Try.func15, Try.ntmps15
  go_wp2_with fail
  go_ret
  exact ⟨rfl, h.out, hb.out⟩
set_option maxRecDepth 100000 in
theorem Try.infoInt : ∃ i, Try.prog.info? 3 = some i ∧ i.zero = some (.int .i64 0) ∧ i.size = 1 ∧ i.bytes = 8 := ⟨_, rfl, by kernel_rfl, by kernel_rfl, by kernel_rfl⟩
theorem reads_ints {w : World} {B : Nat} {A : Option Addr} {l : List Int} (h : IntsAt w B A l) : Reads w B 1 A l.length (l.map (Value.int .i64)) := by
  refine ⟨by simp, fun hl => ?_⟩
  obtain ⟨b, off, rfl, hb, hc⟩ := h hl
  refine ⟨_, rfl, hb, fun j u hj => ?_⟩
  rw [Addr.add_lit]
  have hlt : j < l.length := by have := (List.getElem?_eq_some_iff.1 hj).1; simpa using this
  rw [hc j hlt]
  rw [← hj]
  simp [intF, List.getD_eq_getElem?_getD, hlt]
theorem clone_any (A : Option Addr) (c : Nat) (l : List Int) (w : World) (h : IntsAt w w.heap.size A l) (hl : l.length ≤ 1000000000000) :
    Calls Try.prog 81 #[.slice A l.length c] w fun e w' => ∃ A' c', e = .returned (.slice A' l.length c') ∧ IntsAt w' w'.heap.size A' l ∧ (∀ a, A' = some a → w.heap.size ≤ a.block ∧ a.block < w'.heap.size) ∧ Below w.heap.size w w' := by
  obtain ⟨i0, hi, hy0, hy1, hy2⟩ := Try.infoInt
  have qT : ∀ (w : World) (a : Option Addr) (n c : Nat), (binOp .eql 43 (.slice a n c) (.slice none 0 0)).run Try.prog w = .ok (.bool a.isNone) w := fun w a n c => Lib.run_eql_slice_nil w _ _ a n c 0 0 Try.underlying43
  cases A with
  | none =>
    have hl0 : l = [] := by
      rcases l with _ | ⟨x, r⟩
      · rfl
      · obtain ⟨b, off, e, _⟩ := h (by simp)
        cases e
    subst hl0
    clear h
    go_enter Try.func81, Try.ntmps81
    go_wp2_with fail
    go_ret
    exact ⟨none, 0, rfl, (fun h => absurd h (by simp)), (fun a e => by cases e), Below.refl _ _⟩
  | some a =>
    have hr := Lib.hid (reads_ints h)
    obtain ⟨n, hn⟩ : ∃ n, Hid (n = l.length) := ⟨_, rfl⟩
    rw [← hn.out] at hr hl ⊢
    clear h
    have hO : (w.alloc (.cells #[] 3)).ownsRow w.heap.size 3 1 (.slice (some ⟨w.heap.size, 0, none⟩) 0 0) 0 [] := World.ownsRow_made w #[] 0 (Nat.le_refl _) (Nat.zero_le _) rfl
    replace hO := Lib.hid hO
    go_enter Try.func81, Try.ntmps81
    go_wp2_with (at_builtin; refine wpList_append_any _ (by rfl) _ _ 43 (by rfl) w.heap.size 3 i0 _ 1 8 Try.underlying43 hi hy0 hy1 hy2 rfl (by decide) _ 0 [] (by rfl) hO.out _ (some a) n c _ (by rfl) (hr.out.alloc (Nat.le_refl _) _) (fun u hu => by obtain ⟨x, _, rfl⟩ := List.mem_map.1 hu; rfl) (by unfold maxLen; omega) (by omega) (by simp) ?_; intro v' w2 hO2 hG2 hob2)
    go_ret
    rw [List.nil_append, Nat.zero_add, hn.out] at hO2
    obtain ⟨A', c', e1, hA'⟩ := ints_of_owns hO2
    refine ⟨A', c', ?_, hA', fun q hq => ?_, (below_new w _).trans (below_own hO.out (by simp) hG2)⟩
    · rw [hn.out, ← e1]; rfl
    · have hl := hO2.lt q.block (by rw [e1, hq]; rfl)
      exact hl
end Go.Proofs.Ytmnimcdbfolhaaa

/- The walks of Arm, Flush. -/
namespace Go.Proofs.Ytmnimcdbfolhaaa
open Go.RowKit DK
attribute [local go_sem] alloc_drewN setCell_drewN shape_drewN
theorem arm_any (b : Nat) (m : Dm) (s : St) (n : Int) (A : Option Addr) (c : Nat) (keep : List Int) (w : World) (h : DiskAt w b m s) (hA : IntsAt w w.heap.size A keep) (hl : keep.length ≤ 1000000000000) (ha : keep ≠ [] → ∀ a, A = some a → a.block ≠ b) :
    Calls Try.prog 61 #[dp b, .int .i64 n, .slice A keep.length c] w fun e w' => e = .returned (.tuple #[]) ∧ ∃ m', DiskAt w' b m' (arm s n keep) ∧ Stp b m w m' w' := by
  unfold dp
  have c19 := h.ca
  have c20 := h.ck
  have z19 := h.fz 19
  have z20 := h.fz 20
  have h1 := h.setArmed 0
  have h2 : DiskAt ((w.setCell ⟨b, 19, none⟩ (.int .i64 0)).setCell ⟨b, 20, none⟩ (.slice none 0 0)) b { m with kA := none, kc := 0 } { s with armed := 0, keep := [] } := DiskAt.setKeep h1 (A := none) (l := []) (c := 0) (fun h => absurd h (by simp)) (fun _ h => by cases h) (fun _ h => by cases h)
  have s2 : Stp b m w { m with kA := none, kc := 0 } ((w.setCell ⟨b, 19, none⟩ (.int .i64 0)).setCell ⟨b, 20, none⟩ (.slice none 0 0)) := ⟨rfl, rfl, rfl, by simp, fun k _ hn => (Below.heap_setCell _ _ _ _ (fun e => hn (.inl e))).trans (Below.heap_setCell _ _ _ _ (fun e => hn (.inl e))), fun k hk => by
    rcases hk with e | e | e | ⟨a, e, _⟩
    · exact .inl (.inl e)
    · exact .inl (.inr (.inl e))
    · exact .inl (.inr (.inr (.inl e)))
    · cases e⟩
  have hb := h.lt
  by_cases hn : 1 ≤ n
  · obtain ⟨k, rfl⟩ := Int.eq_ofNat_of_zero_le (show 0 ≤ n by omega)
    have hr : Hid (arm s (k : Int) keep = { s with armed := k, keep := keep }) := by show _ = _; unfold arm; rw [if_pos hn]; rfl
    obtain ⟨w2, hw2⟩ : ∃ W, W = (w.setCell ⟨b, 19, none⟩ (.int .i64 0)).setCell ⟨b, 20, none⟩ (.slice none 0 0) := ⟨_, rfl⟩
    rw [← hw2] at h2 s2
    have hA2 : IntsAt w2 w2.heap.size A keep := by
      by_cases hk0 : keep = []
      · subst hk0; exact fun h => absurd h (by simp)
      · exact ints_heap hA s2.size fun a e hlt => by rw [hw2, Below.heap_setCell _ _ _ _ (ha hk0 a e), Below.heap_setCell _ _ _ _ (ha hk0 a e)]
    have K := Lib.hid (clone_any A c keep w2 hA2 hl)
    have d19 := h2.ca
    have d20 := h2.ck
    have y19 := h2.fz 19
    have y20 := h2.fz 20
    have hb2 := h2.lt
    obtain ⟨nk, hnk⟩ : ∃ n, Hid (n = keep.length) := ⟨_, rfl⟩
    rw [← hnk.out] at K hl ⊢
    replace h2 := Lib.hid h2
    replace s2 := Lib.hid s2
    clear h h1 hA hA2
    go_enter Try.func61, Try.ntmps61
    go_upto_region 1 with fail
    rw [← hw2]
    clear hw2 c19 c20 z19 z20
    go_wp2_with (go_at_call 81; (with_reducible refine K.out.mono ?_); rintro e w3 ⟨A', c', rfl, hA3, hf3, hb3⟩; have x19 := (hb3.cell (p := ⟨b, 19, none⟩) hb2).trans d19; have x20 := (hb3.cell (p := ⟨b, 20, none⟩) hb2).trans d20; have v19 := (hb3.frozen (p := ⟨b, 19, none⟩) hb2).trans y19; have v20 := (hb3.frozen (p := ⟨b, 20, none⟩) hb2).trans y20; replace hA3 := Lib.hid hA3; replace hf3 := Lib.hid hf3; replace hb3 := Lib.hid hb3)
    go_end0
    have g1 := (h2.out.below hb3.out).setArmed k
    have hz3 := hb3.out.size
    have hA4 : IntsAt (w3.setCell ⟨b, 19, none⟩ (.int .i64 k)) (w3.setCell ⟨b, 19, none⟩ (.int .i64 k)).heap.size A' keep := ints_heap hA3.out (by simp) fun a e _ => Below.heap_setCell _ _ _ _ (show a.block ≠ b by have := (hf3.out a e).1; omega)
    have g2 := DiskAt.setKeep g1 (A := A') (l := keep) (c := c') hA4 (fun a e => by
      have hq := hf3.out a e
      refine ⟨by omega, fun f hf q => ?_, fun q => ?_⟩
      · have := h2.out.dlt hf q; omega
      · have := h2.out.llt q; omega) (fun a e => by have := (hf3.out a e).2; simpa using this)
    rw [hnk.out]
    refine ⟨rfl, _, by rw [hr.out]; exact g2, s2.out.trans ⟨hb3.out.os, hb3.out.tape, hb3.out.output, by simpa using hb3.out.size, fun k hk hn => ?_, fun k hk => ?_⟩⟩
    · rw [Below.heap_setCell _ _ _ _ (fun e => hn (.inl e)), Below.heap_setCell _ _ _ _ (fun e => hn (.inl e))]
      exact hb3.out.block k hk
    · rcases hk with e | e | e | ⟨a, e, rfl⟩
      · exact .inl (.inl e)
      · exact .inl (.inr (.inl e))
      · exact .inl (.inr (.inr (.inl e)))
      · exact .inr (hf3.out a e).1
  · have hr : Hid (arm s n keep = { s with armed := 0, keep := [] }) := by show _ = _; unfold arm; rw [if_neg hn, show n.toNat = 0 by omega]
    replace h2 := Lib.hid h2
    replace s2 := Lib.hid s2
    clear h h1 hA
    go_enter Try.func61, Try.ntmps61
    go_wp2_with fail
    go_end0
    exact ⟨rfl, _, by rw [hr.out]; exact h2.out, s2.out⟩
set_option maxHeartbeats 4000000 in
theorem flush_any (b : Nat) (m : Dm) (s : St) (f : Int) (w : World) (h : DiskAt w b m s) (hok : Ok s) (hq : s.q.length ≤ 1000000) (ha : s.armed ≤ 9223372036854775807) (hls : s.lost ≤ 9223372036854775807) (hkl : s.keep.length ≤ 9223372036854775807) :
    Calls Try.prog 43 #[dp b, .int .i64 f] w fun e w' => e = .returned (.int .i64 (flush s f).1) ∧ ∃ m', DiskAt w' b m' (flush s f).2 ∧ Stp b m w m' w' := by
  unfold dp
  have hn := h.cn
  cases hd : s.down
  case true =>
    rw [hd] at hn
    have hr : Hid (flush s f = (9, s)) := by show _ = _; unfold DK.flush; rw [hd]; rfl
    replace h := Lib.hid h
    clear hd
    go_enter Try.func43, Try.ntmps43
    go_wp2_with fail
    go_ret
    exact ⟨by rw [hr.out]; rfl, m, by rw [hr.out]; exact h.out, Stp.refl _ _ _⟩
  case false =>
    rw [hd] at hn
    have K := interrupted_any b m s w h hok hq ha hkl
    unfold dp at K
    have hr : Hid (flush s f = if isDue s then (9, intS s) else if num f then (if 0 < s.lost then (13, { dueS s with lost := s.lost - 1 }) else (0, flushS (dueS s) f.toNat)) else (1, dueS s)) := by show _ = _; unfold DK.flush; rw [hd]; rfl
    have KN := Lib.hid (fun wx => number_any (.pointer (some ⟨b, 0, none⟩)) f wx)
    clear hd h
    cases hdd : isDue s
    case true =>
      rw [hdd] at K hr
      replace K := Lib.hid K
      clear hdd
      go_enter Try.func43, Try.ntmps43
      go_wp2_with (go_at_call 65; (with_reducible refine K.out.mono ?_); rintro e w1 ⟨rfl, m1, hD1, hS1⟩)
      go_ret
      exact ⟨by rw [hr.out]; rfl, m1, by rw [hr.out]; exact hD1, hS1⟩
    case false =>
      rw [hdd, show intS s = dueS s by unfold intS; rw [hdd]; rfl] at K
      rw [hdd] at hr
      replace K := Lib.hid K
      clear hdd
      go_enter Try.func43, Try.ntmps43
      go_wp2_with fail
      go_at_call 65
      (with_reducible refine K.out.mono ?_)
      rintro e w1 ⟨rfl, m1, hD1, hS1⟩
      have t18 := hD1.ct
      have z18 := hD1.fz 18
      rw [show (dueS s).lost = s.lost from rfl] at t18
      cases g : num f
      case false =>
        rw [g] at hr KN
        replace hD1 := Lib.hid hD1
        replace hS1 := Lib.hid hS1
        clear g
        go_wp2_with (go_at_call 49; (with_reducible refine (KN.out _).mono ?_); rintro e w2 ⟨rfl, rfl⟩)
        go_ret
        exact ⟨by rw [hr.out]; rfl, m1, by rw [hr.out]; exact hD1.out, hS1.out⟩
      case true =>
        rw [g] at hr KN
        have g2 := num_iff.1 g
        obtain ⟨k, rfl⟩ := Int.eq_ofNat_of_zero_le g2.1
        have hk : k < 8 := by omega
        have g3 : (0 : Int) ≤ (k : Int) ∧ (k : Int) < 8 := ⟨g2.1, g2.2⟩
        clear g
        by_cases hlo : 0 < s.lost
        · obtain ⟨l, hl⟩ : ∃ l, s.lost = l + 1 := ⟨s.lost - 1, by omega⟩
          have hr2 : Hid (flush s (k : Int) = (13, { dueS s with lost := l })) := by show _ = _; rw [hr.out]; simp [hl]
          rw [hl] at t18
          have q1 : (0 : Int) < ((l + 1 : Nat) : Int) := by omega
          have q2 : ((l + 1 : Nat) : Int) - 1 = (l : Int) := by omega
          have q3 : IntKind.i64.wrap (l : Int) = (l : Int) := by simp [IntKind.wrap, IntKind.signed, IntKind.bits]; omega
          replace hD1 := Lib.hid hD1
          replace hS1 := Lib.hid hS1
          clear hl hlo
          go_wp2_with (go_at_call 49; (with_reducible refine (KN.out _).mono ?_); rintro e w2 ⟨rfl, rfl⟩)
          go_ret
          exact ⟨by rw [hr2.out]; rfl, m1, by rw [hr2.out]; exact hD1.out.setLost l, hS1.out.trans (stp_store _ _ _)⟩
        · have hl0 : s.lost = 0 := by omega
          have hr2 : Hid (flush s (k : Int) = (0, flushS (dueS s) k)) := by show _ = _; rw [hr.out]; simp [hl0]
          rw [hl0] at t18
          have c0 := hD1.cd k hk
          have u0 := hD1.cu k hk
          have z0 := hD1.fz (k * 2 + 1)
          have hb := hD1.lt
          obtain ⟨L, hL⟩ : ∃ x, Hid (x = ((dueS s).data k).length) := ⟨_, rfl⟩
          rw [← hL.out] at c0
          have hDn := hD1.setDur hk L
          obtain ⟨w2, hw2⟩ : ∃ W, W = (w1.setCell ⟨b, k * 2 + 1, none⟩ (.int .i64 L)).drew := ⟨_, rfl⟩
          have hDn2 : DiskAt w2 b m1 { dueS s with dur := upd (dueS s).dur k L } := by rw [hw2]; exact hDn.drew
          have hSn : Stp b m w m1 w2 := hS1.trans (by rw [hw2]; exact (stp_store m1 (k * 2 + 1) _).trans (Stp.of_below (Below.refl _ _).drew))
          have K2 := settle_any b m1 _ k w2 hDn2 hq
          unfold dp at K2
          replace K2 := Lib.hid K2
          replace hSn := Lib.hid hSn
          clear hD1 hDn hS1 hDn2 hl0 hlo
          go_upto_region 8 with (go_at_call 49; (with_reducible refine (KN.out _).mono ?_); rintro e w2 ⟨rfl, rfl⟩)
          refine Plan.wp_region_below 14 [(0, true), (1, true), (2, true), (3, true), (4, true), (5, true), (6, true), (7, true), (8, true), (9, true), (10, true), (11, true), (12, true), (13, true), (14, false)] (by kernel_rfl) (by kernel_rfl) ?_
          (repeat (first | (refine Plan.plan_read (v := ?_) rfl rfl ?_ ?_; rotate_left; (focus ((intro wS hSw; have hkS := (bcell hSw).1; go_simp); try with_reducible rfl)); simp only [Act.put, List.setIfInBounds_toArray, List.set_cons_zero, List.set_cons_succ]) | (refine Plan.plan_skip rfl rfl ?_; simp only [Act.put, List.setIfInBounds_toArray, List.set_cons_zero, List.set_cons_succ])))
          (refine Plan.plan_last rfl (fun K hK => ?_); go_simp; refine hK.out _ _ ?_; clear hK K; try simp only [Act.put, List.setIfInBounds_toArray, List.set_cons_zero, List.set_cons_succ])
          rw [← hw2]
          clear hw2
          go_wp2_with (go_at_call 68; (with_reducible refine K2.out.mono ?_); rintro e w3 ⟨rfl, m3, hD3, hS3⟩)
          go_ret
          exact ⟨by rw [hr2.out]; rfl, m3, by rw [hr2.out]; unfold flushS; rw [← hL.out]; exact hD3, hSn.out.trans hS3⟩
end Go.Proofs.Ytmnimcdbfolhaaa

/- The walk of Cut. -/
namespace Go.Proofs.Ytmnimcdbfolhaaa
open Go.RowKit DK
attribute [local go_sem] alloc_drewN setCell_drewN shape_drewN
section
variable {w w' : World} {b : Nat} {m : Dm} {s : St}
theorem DiskAt.foot_lt (h : DiskAt w b m s) {k : Nat} (hk : foot b m k) : k < w.heap.size ∧ b ≤ k := by
  rcases hk with rfl | ⟨f, hf, e⟩ | e | ⟨a, e, rfl⟩
  · exact ⟨h.lt, Nat.le_refl _⟩
  · have := h.dlt hf e; omega
  · have := h.llt e; omega
  · have := h.kl a e; have := (h.ak a e).1; omega
/-- The list's cells are written; all else stands. -/
theorem DiskAt.pokeList (h : DiskAt w b m s) {q : List Pd} (hg : w.grownBy w' m.lA) (hl : q.length = s.q.length) (hx : w'.ownsRow (b + 1) 94 3 (.slice (ad m.lA) q.length m.lc) q.length (rowPd q)) :
    DiskAt w' b m { s with q := q } := by
  have hb := h.lt
  have hB : w'.heap[b]? = w.heap[b]? := hg.block b hb (fun e => by have := h.llt e.symm; omega)
  have hc : ∀ i, w'.cell? ⟨b, i, none⟩ = w.cell? ⟨b, i, none⟩ := fun i => World.cell?_of_block (a := ⟨b, i, none⟩) hB
  refine ⟨fun g hg8 => (hc _).trans (h.cd g hg8), fun g hg => (hc _).trans (h.cu g hg), (hc _).trans (by rw [hl]; exact h.cl), (hc _).trans h.cn, (hc _).trans h.ct, (hc _).trans h.ca, (hc _).trans h.ck, fun i => (World.frozen?_of_block (a := ⟨b, i, none⟩) hB).trans (h.fz i), fun g hg8 => ?_,
    hx, ints_heap h.rk hg.size fun a e hlt => hg.block _ hlt (fun e2 => (h.ak a e).2.2 e2.symm), h.ap, h.al, h.ak, fun a e => Nat.lt_of_lt_of_le (h.kl a e) hg.size⟩
  refine row_heap (h.rd g hg8) fun k ek => hg.block k ((h.rd g hg8).lt k ek).2 (fun e2 => ?_)
  rw [ad_block] at ek
  rcases h.al g hg8 with q | q
  · rw [q] at ek; cases ek
  · exact q (by rw [ek]; exact e2)
theorem DiskAt.cutData (h : DiskAt w b m s) {f u : Nat} (hf : f < 8) (hu : u ≤ (s.data f).length) :
    DiskAt (w.setCell ⟨b, f * 2, none⟩ (.slice (ad (m.dA f)) u (m.dc f))) b m { s with data := upd s.data f ((s.data f).take u) } := by
  have hxl : ((s.data f).take u).length = u := by rw [List.length_take]; omega
  have hx := owns_take (h.rd f hf) hu
  rw [Nat.mul_one, bytesV_take] at hx
  have h0 := DiskAt.setData h hf (o := m.dA f) (c := m.dc f) (x := (s.data f).take u) (by rw [hxl]; exact hx) (fun g hg hne => h.ap f g hf hg (Ne.symm hne)) (h.al f hf) (fun a e => (h.ak a e).2.1 f hf)
  rw [hxl, upd_self, upd_self] at h0
  exact h0
theorem Stp.row (hg : w.grownBy w' m.lA) : Stp b m w m w' := ⟨hg.os, hg.tape, hg.output, hg.size, fun k hk hn => hg.block k hk (fun e => hn (.inr (.inr (.inl e.symm)))), fun _ q => .inl q⟩
/-- A box of the call's own, outside the disk, is as it was. -/
theorem Stp.box (h : DiskAt w b m s) {m' : Dm} (hS : Stp b m w m' w') {fb : Nat} {v : Value} (hv : w.cell? ⟨fb, 0, none⟩ = some v) (hn : ¬ footD b m fb) : w'.cell? ⟨fb, 0, none⟩ = some v ∧ ¬ footD b m' fb := by
  have hlt := World.block_lt_of_cell? w ⟨fb, 0, none⟩ hv
  refine ⟨(World.cell?_of_block (a := ⟨fb, 0, none⟩) (hS.block fb hlt hn)).trans hv, fun q => ?_⟩
  rcases hS.foot fb q with q | q
  · exact hn q
  · have : fb < w.heap.size := hlt
    omega
end
def cutP (f n : Nat) (p : Pd) : Pd := if p.file = f then { p with un := min p.un n } else p
def cutQ (f n : Nat) (q : List Pd) (k : Nat) : List Pd := (q.take k).map (cutP f n) ++ q.drop k
theorem cutQ_len (f n : Nat) (q : List Pd) (k : Nat) : (cutQ f n q k).length = q.length := by
  unfold cutQ
  simp only [List.length_append, List.length_map, List.length_take, List.length_drop]
  omega
theorem cutQ_at {f n : Nat} {q : List Pd} {k : Nat} {p : Pd} (h : q[k]? = some p) : (cutQ f n q k)[k]? = some p := by
  have hk := (List.getElem?_eq_some_iff.1 h).1
  unfold cutQ
  have hl : ((q.take k).map (cutP f n)).length = k := by rw [List.length_map, List.length_take]; omega
  rw [List.getElem?_append_right (by omega), hl, Nat.sub_self, List.getElem?_drop]
  simpa using h
theorem cutQ_next {f n : Nat} {q : List Pd} {k : Nat} {p : Pd} (h : q[k]? = some p) : cutQ f n q (k + 1) = (cutQ f n q k).set k (cutP f n p) := by
  have hk := (List.getElem?_eq_some_iff.1 h).1
  unfold cutQ
  have hl : ((q.take k).map (cutP f n)).length = k := by rw [List.length_map, List.length_take]; omega
  rw [List.set_append_right _ _ (by omega), hl, Nat.sub_self, List.take_add_one, h]
  have e : q.drop k = p :: q.drop (k + 1) := by
    rw [List.drop_eq_getElem_cons hk]
    congr 1
    exact (List.getElem?_eq_some_iff.1 h).2
  rw [e]
  simp
theorem cutQ_same {f n : Nat} {q : List Pd} {k : Nat} {p : Pd} (h : q[k]? = some p) (hp : p.file ≠ f) : cutQ f n q (k + 1) = cutQ f n q k := by
  rw [cutQ_next h, show cutP f n p = p from if_neg hp]
  apply List.ext_getElem?
  intro i
  by_cases e : k = i
  · subst e
    rw [List.getElem?_set_self (by rw [cutQ_len]; exact (List.getElem?_eq_some_iff.1 h).1)]
    exact (cutQ_at h).symm
  · rw [List.getElem?_set_ne e]
theorem rowPd_un (R : List Pd) (k : Nat) (p : Pd) (u : Nat) (h : R[k]? = some p) : (rowPd R).set (k * 3 + 2) (.int .i64 u) = rowPd (R.set k { p with un := u }) := by
  have hk := (List.getElem?_eq_some_iff.1 h).1
  rw [← rowPd_set R k { p with un := u } hk]
  congr 1
  have hg := rowk_get pdC_len R k p h
  apply List.ext_getElem?
  intro i
  by_cases e1 : k * 3 + 1 = i
  · subst e1
    rw [List.getElem?_set_self (by rw [List.length_set, rowPd_len]; omega)]
    exact hg 1 (by omega)
  · rw [List.getElem?_set_ne e1]
    by_cases e2 : k * 3 = i
    · subst e2
      rw [List.getElem?_set_self (by rw [rowPd_len]; omega)]
      exact hg 0 (by omega)
    · rw [List.getElem?_set_ne e2]
end Go.Proofs.Ytmnimcdbfolhaaa

/- The walk of Cut. -/
namespace Go.Proofs.Ytmnimcdbfolhaaa
open Go.RowKit DK
attribute [local go_sem] alloc_drewN setCell_drewN shape_drewN
set_option maxRecDepth 100000 in
set_option maxHeartbeats 4000000 in
theorem cut_any (b : Nat) (m : Dm) (s : St) (f n : Int) (w : World) (h : DiskAt w b m s) (hok : Ok s) (hq : s.q.length ≤ 1000000) (ha : s.armed ≤ 9223372036854775807) (hkl : s.keep.length ≤ 9223372036854775807) :
    Calls Try.prog 42 #[dp b, .int .i64 f, .int .i64 n] w fun e w' => e = .returned (.int .i64 (DK.cut s f n).1) ∧ ∃ m', DiskAt w' b m' (DK.cut s f n).2 ∧ Stp b m w m' w' := by
  unfold dp
  obtain ⟨w1, hw1⟩ : ∃ W, W = (w.alloc (.cells #[.int .i64 f] 3)).alloc (.cells #[.int .i64 n] 3) := ⟨_, rfl⟩
  have hb1 : Below w.heap.size w w1 := by rw [hw1]; exact (below_new w _).alloc (by simp) _
  have h1 := h.below hb1
  have hS1 : Stp b m w m w1 := Stp.of_below hb1
  have hz1 : w1.heap.size = w.heap.size + 2 := by rw [hw1]; simp
  have f1 : w1.cell? ⟨w.heap.size, 0, none⟩ = some (.int .i64 f) := by rw [hw1]; simp
  have n1 : w1.cell? ⟨w.heap.size + 1, 0, none⟩ = some (.int .i64 n) := by rw [hw1]; simp
  have nf1 : ¬ foot b m w.heap.size := fun q => by have := (h.foot_lt q).1; omega
  have nn1 : ¬ foot b m (w.heap.size + 1) := fun q => by have := (h.foot_lt q).1; omega
  have hn := h1.cn
  cases hd : s.down
  case true =>
    rw [hd] at hn
    have hr : Hid (DK.cut s f n = (9, s)) := by show _ = _; unfold DK.cut; rw [hd]; rfl
    replace h1 := Lib.hid h1
    clear hd h
    go_enter Try.func42, Try.ntmps42
    go_upto_region 1 with fail
    rw [← hw1]
    clear hw1
    go_wp2_with fail
    go_ret
    exact ⟨by rw [hr.out]; rfl, m, by rw [hr.out]; exact h1.out, hS1⟩
  case false =>
    rw [hd] at hn
    have K := interrupted_any b m s w1 h1 hok hq ha hkl
    unfold dp at K
    have hr : Hid (DK.cut s f n = if isDue s then (9, intS s) else if num f = true ∧ 0 ≤ n ∧ n ≤ (s.data f.toNat).length then (0, cutS (dueS s) f.toNat n.toNat) else (1, dueS s)) := by show _ = _; unfold DK.cut; rw [hd]; rfl
    have KN := Lib.hid (fun wx => number_any (.pointer (some ⟨b, 0, none⟩)) f wx)
    clear hd h
    cases hdd : isDue s
    case true =>
      rw [hdd] at K hr
      replace K := Lib.hid K
      clear hdd h1
      go_enter Try.func42, Try.ntmps42
      go_upto_region 1 with fail
      rw [← hw1]
      clear hw1
      go_wp2_with (go_at_call 65; (with_reducible refine K.out.mono ?_); rintro e w2 ⟨rfl, m1, hD1, hS2⟩)
      go_ret
      exact ⟨by rw [hr.out]; rfl, m1, by rw [hr.out]; exact hD1, hS1.trans hS2⟩
    case false =>
      rw [hdd, show intS s = dueS s by unfold intS; rw [hdd]; rfl] at K
      rw [hdd] at hr
      replace K := Lib.hid K
      have hokD := hok.dueS
      obtain ⟨s1, hs1⟩ : ∃ x, Hid (x = dueS s) := ⟨_, rfl⟩
      have hr1 : Hid (DK.cut s f n = if num f = true ∧ 0 ≤ n ∧ n ≤ (s1.data f.toNat).length then (0, cutS s1 f.toNat n.toNat) else (1, s1)) := by show _ = _; rw [hr.out, hs1.out]; rfl
      have hq1 : s1.q.length ≤ 1000000 := by rw [hs1.out]; exact hq
      rw [← hs1.out] at K hokD
      clear hdd hr
      go_enter Try.func42, Try.ntmps42
      go_upto_region 1 with fail
      rw [← hw1]
      clear hw1
      go_wp2_with fail
      go_at_call 65
      (with_reducible refine K.out.mono ?_)
      rintro e w2 ⟨rfl, m2, hD2, hS2⟩
      obtain ⟨f2, nf2⟩ := hS2.box h1 f1 nf1
      obtain ⟨n2, nn2⟩ := hS2.box h1 n1 nn1
      have hS := hS1.trans hS2
      have hb2 := hD2.lt
      have hzf : w.heap.size < w2.heap.size := by have := hS2.size; omega
      have hzn : w.heap.size + 1 < w2.heap.size := by have := hS2.size; omega
      replace h1 := trivial
      replace hS := Lib.hid hS
      clear f1 n1 nf1 nn1 hn hb1 hS1 hS2 K
      cases g : num f
      case false =>
        rw [g] at KN hr1
        have hr2 : Hid (DK.cut s f n = (1, s1)) := by show _ = _; rw [hr1.out]; simp
        replace hD2 := Lib.hid hD2
        clear g hr1
        go_upto_region 3 with fail
        refine Plan.wp_region_tree (.rd 0 (.rd 1 (.wr 2 (.rd 3 (.rd 4 (.rd 5 (.rd 6 (.rd 7 (.rd 8 (.rd 9 (.rd 10 (.rd 11 (.rd 12 (.rd 13 (.rd 14 (.rd 15 (.rd 16 (.rd 17 (.rd 18 (.rd 19 .done)))))))))))))))))))) (by kernel_rfl) (by kernel_rfl) ?_
        (repeat (first | (refine Plan.tree_read (v := ?_) rfl rfl ?_ ?_; rotate_left; (focus ((intro wS hSw; have hkS := (bcell hSw).1; go_simp); try with_reducible rfl)); simp only [Act.put, List.setIfInBounds_toArray, List.set_cons_zero, List.set_cons_succ]) | (refine Plan.tree_skip rfl rfl ?_; simp only [Act.put, List.setIfInBounds_toArray, List.set_cons_zero, List.set_cons_succ])))
        (refine Plan.tree_write rfl (fun K hK => ?_); try go_simp)
        go_at_call 49
        (with_reducible refine (KN.out _).mono ?_)
        rintro e w3 ⟨rfl, rfl⟩
        (refine hK.out _ _ ((Below.refl _ _).drew) ?_; clear hK K; try simp only [Act.put, List.setIfInBounds_toArray, List.set_cons_zero, List.set_cons_succ])
        (repeat (first | (refine Plan.tree_read (v := ?_) rfl rfl ?_ ?_; rotate_left; (focus ((intro wS hSw; have hkS := (bcell hSw).1; go_simp); try with_reducible rfl)); simp only [Act.put, List.setIfInBounds_toArray, List.set_cons_zero, List.set_cons_succ]) | (refine Plan.tree_skip rfl rfl ?_; simp only [Act.put, List.setIfInBounds_toArray, List.set_cons_zero, List.set_cons_succ])))
        refine Plan.tree_done ?_
        go_wp2_with fail
        go_ret
        exact ⟨by rw [hr2.out]; rfl, m2, by rw [hr2.out]; exact hD2.out.drew, hS.out.trans (Stp.of_below (Below.refl _ _).drew)⟩
      case true =>
        rw [g] at KN hr1
        have g2 := num_iff.1 g
        obtain ⟨k, rfl⟩ := Int.eq_ofNat_of_zero_le g2.1
        have hk : k < 8 := by omega
        have g3 : (0 : Int) ≤ (k : Int) ∧ (k : Int) < 8 := ⟨g2.1, g2.2⟩
        clear g
        by_cases hn0 : 0 ≤ n
        case neg =>
          have hr2 : Hid (DK.cut s (k : Int) n = (1, s1)) := by show _ = _; rw [hr1.out, if_neg (fun h => hn0 h.2.1)]
          have e1 : decide (n < 0) = true := decide_eq_true (by omega)
          replace hD2 := Lib.hid hD2
          clear hr1
          go_upto_region 3 with fail
          refine Plan.wp_region_tree (.rd 0 (.rd 1 (.wr 2 (.rd 3 (.rd 4 (.rd 5 (.rd 6 (.rd 7 (.rd 8 (.rd 9 (.rd 10 (.rd 11 (.rd 12 (.rd 13 (.rd 14 (.rd 15 (.rd 16 (.rd 17 (.rd 18 (.rd 19 .done)))))))))))))))))))) (by kernel_rfl) (by kernel_rfl) ?_
          (repeat (first | (refine Plan.tree_read (v := ?_) rfl rfl ?_ ?_; rotate_left; (focus ((intro wS hSw; have hkS := (bcell hSw).1; go_simp); try with_reducible rfl)); simp only [Act.put, List.setIfInBounds_toArray, List.set_cons_zero, List.set_cons_succ]) | (refine Plan.tree_skip rfl rfl ?_; simp only [Act.put, List.setIfInBounds_toArray, List.set_cons_zero, List.set_cons_succ])))
          (refine Plan.tree_write rfl (fun K hK => ?_); try go_simp)
          go_at_call 49
          (with_reducible refine (KN.out _).mono ?_)
          rintro e w3 ⟨rfl, rfl⟩
          (refine hK.out _ _ ((Below.refl _ _).drew) ?_; clear hK K; try simp only [Act.put, List.setIfInBounds_toArray, List.set_cons_zero, List.set_cons_succ])
          (repeat (first | (refine Plan.tree_read (v := ?_) rfl rfl ?_ ?_; rotate_left; (focus ((intro wS hSw; have hkS := (bcell hSw).1; go_simp); try with_reducible rfl)); simp only [Act.put, List.setIfInBounds_toArray, List.set_cons_zero, List.set_cons_succ]) | (refine Plan.tree_skip rfl rfl ?_; simp only [Act.put, List.setIfInBounds_toArray, List.set_cons_zero, List.set_cons_succ])))
          refine Plan.tree_done ?_
          go_wp2_with fail
          go_ret
          exact ⟨by rw [hr2.out]; rfl, m2, by rw [hr2.out]; exact hD2.out.drew, hS.out.trans (Stp.of_below (Below.refl _ _).drew)⟩
        case pos =>
          obtain ⟨nn, rfl⟩ := Int.eq_ofNat_of_zero_le hn0
          have e1 : decide ((nn : Int) < 0) = false := decide_eq_false (by omega)
          have c0 := hD2.cd k hk
          obtain ⟨X, hX⟩ : ∃ x, Hid (x = s1.data k) := ⟨_, rfl⟩
          have hlX : X.length ≤ 16777216 := by rw [hX.out]; exact hokD.len k hk
          rw [← hX.out] at c0
          by_cases hle : nn ≤ X.length
          case neg =>
            have hr2 : Hid (DK.cut s (k : Int) (nn : Int) = (1, s1)) := by show _ = _; rw [hr1.out, if_neg (fun h => hle (by have := h.2.2; rw [hX.out]; simpa using this))]
            have e2 : decide ((X.length : Int) < (nn : Int)) = true := decide_eq_true (by omega)
            have e3 : X.length < nn := by omega
            replace hD2 := Lib.hid hD2
            clear hr1 hle
            go_upto_region 3 with fail
            refine Plan.wp_region_tree (.rd 0 (.rd 1 (.wr 2 (.rd 3 (.rd 4 (.rd 5 (.rd 6 (.rd 7 (.rd 8 (.rd 9 (.rd 10 (.rd 11 (.rd 12 (.rd 13 (.rd 14 (.rd 15 (.rd 16 (.rd 17 (.rd 18 (.rd 19 .done)))))))))))))))))))) (by kernel_rfl) (by kernel_rfl) ?_
            (repeat (first | (refine Plan.tree_read (v := ?_) rfl rfl ?_ ?_; rotate_left; (focus ((intro wS hSw; have hkS := (bcell hSw).1; go_simp); try with_reducible rfl)); simp only [Act.put, List.setIfInBounds_toArray, List.set_cons_zero, List.set_cons_succ]) | (refine Plan.tree_skip rfl rfl ?_; simp only [Act.put, List.setIfInBounds_toArray, List.set_cons_zero, List.set_cons_succ])))
            (refine Plan.tree_write rfl (fun K hK => ?_); try go_simp)
            go_at_call 49
            (with_reducible refine (KN.out _).mono ?_)
            rintro e w3 ⟨rfl, rfl⟩
            (refine hK.out _ _ ((Below.refl _ _).drew) ?_; clear hK K; try simp only [Act.put, List.setIfInBounds_toArray, List.set_cons_zero, List.set_cons_succ])
            (repeat (first | (refine Plan.tree_read (v := ?_) rfl rfl ?_ ?_; rotate_left; (focus ((intro wS hSw; have hkS := (bcell hSw).1; go_simp); try with_reducible rfl)); simp only [Act.put, List.setIfInBounds_toArray, List.set_cons_zero, List.set_cons_succ]) | (refine Plan.tree_skip rfl rfl ?_; simp only [Act.put, List.setIfInBounds_toArray, List.set_cons_zero, List.set_cons_succ])))
            refine Plan.tree_done ?_
            go_wp2_with fail
            go_ret
            exact ⟨by rw [hr2.out]; rfl, m2, by rw [hr2.out]; exact hD2.out.drew, hS.out.trans (Stp.of_below (Below.refl _ _).drew)⟩
          case pos =>
            have hr2 : Hid (DK.cut s (k : Int) (nn : Int) = (0, cutS s1 k nn)) := by show _ = _; rw [hr1.out, if_pos ⟨rfl, hn0, by rw [hX.out] at hle; simpa using hle⟩]; rfl
            have e2 : decide ((X.length : Int) < (nn : Int)) = false := decide_eq_false (by omega)
            have e3 : ¬ X.length < nn := by omega
            have hu := hD2.cu k hk
            have hrd := hD2.rd k hk
            rw [← hX.out] at hrd
            replace hD2 := Lib.hid hD2
            replace hrd := Lib.hid hrd
            clear hr1
            go_upto_region 3 with fail
            refine Plan.wp_region_tree (.rd 0 (.rd 1 (.wr 2 (.rd 3 (.rd 4 (.rd 5 (.rd 6 (.rd 7 (.rd 8 (.rd 9 (.rd 10 (.rd 11 (.rd 12 (.rd 13 (.rd 14 (.rd 15 (.rd 16 (.rd 17 (.rd 18 (.rd 19 .done)))))))))))))))))))) (by kernel_rfl) (by kernel_rfl) ?_
            (repeat (first | (refine Plan.tree_read (v := ?_) rfl rfl ?_ ?_; rotate_left; (focus ((intro wS hSw; have hkS := (bcell hSw).1; go_simp); try with_reducible rfl)); simp only [Act.put, List.setIfInBounds_toArray, List.set_cons_zero, List.set_cons_succ]) | (refine Plan.tree_skip rfl rfl ?_; simp only [Act.put, List.setIfInBounds_toArray, List.set_cons_zero, List.set_cons_succ])))
            (refine Plan.tree_write rfl (fun K hK => ?_); try go_simp)
            go_at_call 49
            (with_reducible refine (KN.out _).mono ?_)
            rintro e w3 ⟨rfl, rfl⟩
            (refine hK.out _ _ ((Below.refl _ _).drew) ?_; clear hK K; try simp only [Act.put, List.setIfInBounds_toArray, List.set_cons_zero, List.set_cons_succ])
            (repeat (first | (refine Plan.tree_read (v := ?_) rfl rfl ?_ ?_; rotate_left; (focus ((intro wS hSw; have hkS := (bcell hSw).1; go_simp); try with_reducible rfl)); simp only [Act.put, List.setIfInBounds_toArray, List.set_cons_zero, List.set_cons_succ]) | (refine Plan.tree_skip rfl rfl ?_; simp only [Act.put, List.setIfInBounds_toArray, List.set_cons_zero, List.set_cons_succ])))
            refine Plan.tree_done ?_
            have hcap := owns_room hrd.out
            have e4 : (nn : Int) ≤ (m2.dc k : Int) := by omega
            have hfz := hD2.out.fz (k * 2)
            go_upto_region 5 with fail
            have hDa := hD2.out.drew
            have hSa := hS.out.trans (Stp.of_below (m := m2) (b := b) (Below.refl w2.heap.size w2).drew)
            obtain ⟨wa, hwa⟩ : ∃ x, x = w2.drew := ⟨_, rfl⟩
            rw [← hwa] at hDa hSa ⊢
            have fa : wa.cell? ⟨w.heap.size, 0, none⟩ = some (.int .i64 k) := by rw [hwa]; exact f2
            have na : wa.cell? ⟨w.heap.size + 1, 0, none⟩ = some (.int .i64 nn) := by rw [hwa]; exact n2
            have za : w.heap.size + 1 < wa.heap.size := by rw [hwa]; exact hzn
            have hba : b < wa.heap.size := by rw [hwa]; exact hb2
            have hza : w.heap.size < wa.heap.size := by omega
            clear hwa f2 n2 hzf hzn c0 hu hD2 hrd hS hfz hb2
            refine Plan.wp_region_tree (.rd 0 (.rd 1 (.rd 2 (.rd 3 (.rd 4 (.rd 5 .done)))))) (by kernel_rfl) (by kernel_rfl) ?_
            (repeat (first | (refine Plan.tree_read (v := ?_) rfl rfl ?_ ?_; rotate_left; (focus ((intro wS hSw; have hkS := (bcell hSw).1; go_simp); try with_reducible rfl)); simp only [Act.put, List.setIfInBounds_toArray, List.set_cons_zero, List.set_cons_succ]) | (refine Plan.tree_skip rfl rfl ?_; simp only [Act.put, List.setIfInBounds_toArray, List.set_cons_zero, List.set_cons_succ])))
            refine Plan.tree_done ?_
            go_upto_region 6 with fail
            obtain ⟨wb, hwb⟩ : ∃ x, x = wa.drew := ⟨_, rfl⟩
            have hDb := hDa.drew
            rw [← hwb] at hDb ⊢
            have fb : wb.cell? ⟨w.heap.size, 0, none⟩ = some (.int .i64 k) := by rw [hwb]; exact fa
            have nb : wb.cell? ⟨w.heap.size + 1, 0, none⟩ = some (.int .i64 nn) := by rw [hwb]; exact na
            have zb : w.heap.size + 1 < wb.heap.size := by rw [hwb]; exact za
            have hbb : b < wb.heap.size := by rw [hwb]; exact hba
            have hzb : w.heap.size < wb.heap.size := by omega
            have hSb := hSa.trans (Stp.of_below (m := m2) (b := b) (w' := wb) (by rw [hwb]; exact (Below.refl _ _).drew))
            have c0 := hDb.cd k hk
            have hrd := hDb.rd k hk
            have zd := hDb.fz (k * 2)
            rw [← hX.out] at c0 hrd
            replace hDb := Lib.hid hDb
            replace hSb := Lib.hid hSb
            replace hrd := Lib.hid hrd
            clear hwb fa na za hba hza hDa hSa
            refine Plan.wp_region_below 9 [(0, true), (1, true), (2, true), (3, true), (4, true), (5, true), (6, true), (7, true), (8, true), (9, false)] (by kernel_rfl) (by kernel_rfl) ?_
            (repeat (first | (refine Plan.plan_read (v := ?_) rfl rfl ?_ ?_; rotate_left; (focus ((intro wS hSw; have hkS := (bcell hSw).1; go_simp); try with_reducible rfl)); simp only [Act.put, List.setIfInBounds_toArray, List.set_cons_zero, List.set_cons_succ]) | (refine Plan.plan_skip rfl rfl ?_; simp only [Act.put, List.setIfInBounds_toArray, List.set_cons_zero, List.set_cons_succ])))
            (refine Plan.plan_last rfl (fun K hK => ?_); go_simp; refine hK.out _ _ ?_; clear hK K; try simp only [Act.put, List.setIfInBounds_toArray, List.set_cons_zero, List.set_cons_succ])
            have hDc := (DiskAt.cutData hDb.out hk (show nn ≤ (s1.data k).length by rw [← hX.out]; exact hle)).drew
            have hSc := hSb.out.trans ((stp_store m2 (k * 2) (.slice (ad (m2.dA k)) nn (m2.dc k))).trans (Stp.of_below (Below.refl _ _).drew))
            obtain ⟨wc, hwc⟩ : ∃ x, x = (wb.setCell ⟨b, k * 2, none⟩ (.slice (ad (m2.dA k)) nn (m2.dc k))).drew := ⟨_, rfl⟩
            rw [← hwc] at hDc hSc ⊢
            have nfb : b ≠ w.heap.size := fun e => nf2 (.inl e.symm)
            have nnb : b ≠ w.heap.size + 1 := fun e => nn2 (.inl e.symm)
            have fc : wc.cell? ⟨w.heap.size, 0, none⟩ = some (.int .i64 k) := by
              rw [hwc]; exact (World.cell?_setCell_other _ _ _ _ (fun e => nfb (by injection e))).trans fb
            have nc : wc.cell? ⟨w.heap.size + 1, 0, none⟩ = some (.int .i64 nn) := by
              rw [hwc]; exact (World.cell?_setCell_other _ _ _ _ (fun e => nnb (by injection e))).trans nb
            have zc : w.heap.size + 1 < wc.heap.size := by rw [hwc]; simpa using zb
            have hbc : b < wc.heap.size := by rw [hwc]; simpa using hbb
            have hzc : w.heap.size < wc.heap.size := by omega
            obtain ⟨du, hdu⟩ : ∃ x, Hid (x = s1.dur k) := ⟨_, rfl⟩
            have u0 : wc.cell? ⟨b, k * 2 + 1, none⟩ = some (.int .i64 du) := by rw [hdu.out]; exact hDc.cu k hk
            have zu := hDc.fz (k * 2 + 1)
            have e6 : (if nn < du then (nn : Int) else (du : Int)) = ((min du nn : Nat) : Int) := by split <;> omega
            have e5 : (if (nn : Int) < (du : Int) then (nn : Int) else (du : Int)) = ((min du nn : Nat) : Int) := by split <;> omega
            replace hDc := Lib.hid hDc
            replace hSc := Lib.hid hSc
            clear hwc fb nb zb hbb hzb c0 zd hDb hSb hrd
            go_upto_region 7 with fail
            refine Plan.wp_region_below 9 [(0, true), (1, true), (2, true), (3, true), (4, true), (5, true), (6, true), (7, true), (8, true), (9, false)] (by kernel_rfl) (by kernel_rfl) ?_
            (repeat (first | (refine Plan.plan_read (v := ?_) rfl rfl ?_ ?_; rotate_left; (focus ((intro wS hSw; have hkS := (bcell hSw).1; go_simp); try with_reducible rfl)); simp only [Act.put, List.setIfInBounds_toArray, List.set_cons_zero, List.set_cons_succ]) | (refine Plan.plan_skip rfl rfl ?_; simp only [Act.put, List.setIfInBounds_toArray, List.set_cons_zero, List.set_cons_succ])))
            (refine Plan.plan_last rfl (fun K hK => ?_); go_simp; refine hK.out _ _ ?_; clear hK K; try simp only [Act.put, List.setIfInBounds_toArray, List.set_cons_zero, List.set_cons_succ])
            have hDd := (DiskAt.setDur hDc.out hk (min du nn)).drew
            have hSd := hSc.out.trans ((stp_store m2 (k * 2 + 1) (.int .i64 ((min du nn : Nat) : Int))).trans (Stp.of_below (Below.refl _ _).drew))
            obtain ⟨wd, hwd⟩ : ∃ x, x = (wc.setCell ⟨b, k * 2 + 1, none⟩ (.int .i64 ((min du nn : Nat) : Int))).drew := ⟨_, rfl⟩
            rw [← hwd] at hDd hSd ⊢
            have fd : wd.cell? ⟨w.heap.size, 0, none⟩ = some (.int .i64 k) := by
              rw [hwd]; exact (World.cell?_setCell_other _ _ _ _ (fun e => nfb (by injection e))).trans fc
            have nd : wd.cell? ⟨w.heap.size + 1, 0, none⟩ = some (.int .i64 nn) := by
              rw [hwd]; exact (World.cell?_setCell_other _ _ _ _ (fun e => nnb (by injection e))).trans nc
            have zd : w.heap.size + 1 < wd.heap.size := by rw [hwd]; simpa using zc
            have hlf : some w.heap.size ≠ m2.lA := fun e => nf2 (.inr (.inr (.inl e.symm)))
            have hln : some (w.heap.size + 1) ≠ m2.lA := fun e => nn2 (.inr (.inr (.inl e.symm)))
            have hp : Pred 67 #[.pointer (some ⟨w.heap.size, 0, none⟩), .pointer (some ⟨w.heap.size + 1, 0, none⟩)] (fun p => decide (p.file = k) && decide (nn ≤ p.fr)) m2.lA wd := fun wx p hg =>
              cut1_any w.heap.size (w.heap.size + 1) k nn wx ((Plan.grown_cells hg w.heap.size 0 (by omega) hlf).trans fd) ((Plan.grown_cells hg (w.heap.size + 1) 0 zd hln).trans nd) p
            have K := Lib.hid (delete_any 67 #[.pointer (some ⟨w.heap.size, 0, none⟩), .pointer (some ⟨w.heap.size + 1, 0, none⟩)] _ (b + 1) m2.lA m2.lc s1.q wd Try.call67 hDd.rl hq1 hp)
            have c16 := hDd.cl
            have z16 := hDd.fz 16
            have hbd := hDd.lt
            have nlb : some b ≠ m2.lA := fun e => by have := hDd.llt e.symm; omega
            obtain ⟨F, hF⟩ : ∃ F, Hid (F = s1.q.filter (fun p => !(decide (p.file = k) && decide (nn ≤ p.fr)))) := ⟨_, rfl⟩
            rw [← hF.out] at K
            have hFl : F.length ≤ 1000000 := by rw [hF.out]; exact Nat.le_trans (List.length_filter_le _ _) hq1
            obtain ⟨nq, hnq⟩ : ∃ n, Hid (n = s1.q.length) := ⟨_, rfl⟩
            replace c16 : wd.cell? ⟨b, 16, none⟩ = some (.slice (ad m2.lA) nq m2.lc) := by rw [hnq.out]; exact c16
            rw [← hnq.out] at K
            replace hDd := Lib.hid hDd
            replace hSd := Lib.hid hSd
            clear hwd fc nc zc hbc hzc u0 zu hDc hSc hp
            go_upto_region 9 with (go_at_call 66; (with_reducible refine K.out.mono ?_); rintro e we ⟨rfl, hO, hG⟩; have y := (Plan.grown_cells hG b 16 hbd nlb).trans c16; have yf := (World.frozen?_of_block (a := ⟨b, 16, none⟩) (hG.block b hbd nlb)).trans z16; replace hO := Lib.hid hO; replace hG := Lib.hid hG)
            obtain ⟨r1, r2⟩ := hDd.out.listed hG.out hO.out (.inl rfl)
            have hSe := hSd.out.trans r2
            obtain ⟨wf, hwf⟩ : ∃ W, W = we.setCell ⟨b, 16, none⟩ (.slice (ad m2.lA) F.length m2.lc) := ⟨_, rfl⟩
            rw [← hwf] at r1 hSe ⊢
            have ff : wf.cell? ⟨w.heap.size, 0, none⟩ = some (.int .i64 k) := by
              rw [hwf]; exact (World.cell?_setCell_other _ _ _ _ (fun e => nfb (by injection e))).trans ((Plan.grown_cells hG.out w.heap.size 0 (by omega) hlf).trans fd)
            have nf : wf.cell? ⟨w.heap.size + 1, 0, none⟩ = some (.int .i64 nn) := by
              rw [hwf]; exact (World.cell?_setCell_other _ _ _ _ (fun e => nnb (by injection e))).trans ((Plan.grown_cells hG.out (w.heap.size + 1) 0 zd hln).trans nd)
            have d16 := r1.cl
            have hDf : DiskAt wf b m2 { s1 with data := upd s1.data k ((s1.data k).take nn), dur := upd s1.dur k (min du nn), q := cutQ k nn F 0 } := by
              have e : cutQ k nn F 0 = F := by unfold cutQ; simp
              rw [e]; exact r1
            obtain ⟨ff8, hff8⟩ : ∃ n, Hid (n = F.length) := ⟨_, rfl⟩
            replace d16 : wf.cell? ⟨b, 16, none⟩ = some (.slice (ad m2.lA) ff8 m2.lc) := by rw [hff8.out]; exact d16
            replace hFl : ff8 ≤ 1000000 := by rw [hff8.out]; exact hFl
            replace hDf := Lib.hid hDf
            replace hSe := Lib.hid hSe
            clear K c16 z16 fd nd zd hO hG y yf hDd hSd r1 r2 hwf
            go_wp2_with fail
            go_loopw [75] (fun i wr => ∃ j : Nat, j ≤ ff8 ∧ i = .int .i64 j ∧ DiskAt wr b m2 { s1 with data := upd s1.data k ((s1.data k).take nn), dur := upd s1.dur k (min du nn), q := cutQ k nn F j } ∧ wr.cell? ⟨w.heap.size, 0, none⟩ = some (.int .i64 k) ∧ wr.cell? ⟨w.heap.size + 1, 0, none⟩ = some (.int .i64 nn) ∧ Stp b m2 wf m2 wr) (fun i _ => ff8 - (intOf i).toNat)
            case atStart => exact ⟨0, Nat.zero_le _, rfl, hDf.out, ff, nf, Stp.refl _ _ _⟩
            case round =>
              clear ff nf d16
              obtain ⟨j, hj, rfl, hD, fr, nr, hSr⟩ := hrel
              have hfl : w.heap.size < wr.heap.size := World.block_lt_of_cell? wr ⟨w.heap.size, 0, none⟩ fr
              have hnl : w.heap.size + 1 < wr.heap.size := World.block_lt_of_cell? wr ⟨w.heap.size + 1, 0, none⟩ nr
              by_cases hlt : j < ff8
              · obtain ⟨p, hp⟩ : ∃ p, F[j]? = some p := ⟨_, List.getElem?_eq_getElem (by have := hff8.out; omega)⟩
                have hcq := cutQ_at (f := k) (n := nn) hp
                obtain ⟨g, hg, hg1, hg2, p0, p1, p2⟩ := hD.pend hcq
                have hjI : (0 : Int) ≤ (j : Int) ∧ (j : Int) < (ff8 : Int) := by omega
                obtain ⟨fi, hfi⟩ : ∃ x, Hid (x = p.file) := ⟨_, rfl⟩
                obtain ⟨un, hun⟩ : ∃ x, Hid (x = p.un) := ⟨_, rfl⟩
                rw [← hfi.out] at p0
                rw [← hun.out] at p2
                have hlA : ad m2.lA = some ⟨g, 0, none⟩ := by rw [hg]; rfl
                rw [hlA]
                have hbr := hD.lt
                have l16 : wr.cell? ⟨b, 16, none⟩ = some (.slice (some ⟨g, 0, none⟩) ff8 m2.lc) := by
                  have := hD.cl
                  rw [hlA] at this
                  rw [this, hff8.out, ← cutQ_len k nn F j]
                have hg9 := Lib.hid hg
                have hlA9 := Lib.hid hlA
                have hp9 := Lib.hid hp
                replace hD := Lib.hid hD
                replace hSr := Lib.hid hSr
                clear hg hp hcq hlA
                go_upto_region 12 with fail
                obtain ⟨ws, hws⟩ : ∃ W, W = wr.alloc (.cells #[.int .i64 fi, .int .i64 p.fr, .int .i64 un] 94) := ⟨_, rfl⟩
                rw [← hws]
                have hBs : Below wr.heap.size wr ws := by rw [hws]; exact below_new _ _
                have x0 : ws.cell? ⟨wr.heap.size, 0, none⟩ = some (.int .i64 fi) := by rw [hws]; simp
                have x2 : ws.cell? ⟨wr.heap.size, 2, none⟩ = some (.int .i64 un) := by rw [hws]; simp
                have fs : ws.cell? ⟨w.heap.size, 0, none⟩ = some (.int .i64 k) := (hBs.cell (p := ⟨w.heap.size, 0, none⟩) hfl).trans fr
                have ns : ws.cell? ⟨w.heap.size + 1, 0, none⟩ = some (.int .i64 nn) := (hBs.cell (p := ⟨w.heap.size + 1, 0, none⟩) hnl).trans nr
                have l16 : ws.cell? ⟨b, 16, none⟩ = some (.slice (some ⟨g, 0, none⟩) ff8 m2.lc) := (hBs.cell (p := ⟨b, 16, none⟩) hbr).trans l16
                have hDs := hD.out.below hBs
                have hzs : wr.heap.size < ws.heap.size := by rw [hws]; simp
                have hSs := hSr.out.trans (Stp.of_below (b := b) (m := m2) hBs)
                clear hws p0 p1 p2 fr nr
                by_cases hfk : fi = k
                · obtain rfl := hfk
                  have eq1 : ((fi : Int) == (fi : Int)) = true := by simp
                  have hgs : g < ws.heap.size := by omega
                  have hbs : b < ws.heap.size := by omega
                  have hfs : w.heap.size < ws.heap.size := by omega
                  have hns : w.heap.size + 1 < ws.heap.size := by omega
                  have e8 : (if nn < un then (nn : Int) else (un : Int)) = ((min un nn : Nat) : Int) := by split <;> omega
                  have e7 : (if (nn : Int) < (un : Int) then (nn : Int) else (un : Int)) = ((min un nn : Nat) : Int) := by split <;> omega
                  obtain ⟨g', hg', _, _, y0, y1, y2⟩ := hDs.pend (cutQ_at (f := fi) (n := nn) hp9.out)
                  obtain rfl : g = g' := by rw [hg9.out] at hg'; exact Option.some.inj hg'
                  have row := hDs.rl
                  rw [hlA9.out] at row
                  have yf := row.frozenAt (j * 3 + 2)
                  have st := row.stored (j * 3 + 2) (.int .i64 ((min un nn : Nat) : Int))
                  rw [rowPd_un _ j p (min un nn) (cutQ_at hp9.out)] at st
                  replace st := Lib.hid st
                  replace hDs := Lib.hid hDs
                  replace hSs := Lib.hid hSs
                  clear hg' y0 y1 row hBs
                  go_upto_region 13 with fail
                  refine Plan.wp_region_below 11 [(0, true), (1, true), (2, true), (3, true), (4, true), (5, true), (6, true), (7, true), (8, true), (9, true), (10, true), (11, false)] (by kernel_rfl) (by kernel_rfl) ?_
                  (repeat (first | (refine Plan.plan_read (v := ?_) rfl rfl ?_ ?_; rotate_left; (focus ((intro wS hSw; have hkS := (bcell hSw).1; go_simp); try with_reducible rfl)); simp only [Act.put, List.setIfInBounds_toArray, List.set_cons_zero, List.set_cons_succ]) | (refine Plan.plan_skip rfl rfl ?_; simp only [Act.put, List.setIfInBounds_toArray, List.set_cons_zero, List.set_cons_succ])))
                  (refine Plan.plan_last rfl (fun K hK => ?_); go_simp; refine hK.out _ _ ?_; clear hK K; try simp only [Act.put, List.setIfInBounds_toArray, List.set_cons_zero, List.set_cons_succ])
                  have hql : ((cutQ fi nn F j).set j { p with un := min un nn }).length = (cutQ fi nn F j).length := List.length_set
                  have hDn := DiskAt.drew (DiskAt.pokeList hDs.out (w' := ws.setCell ⟨g, j * 3 + 2, none⟩ (.int .i64 ((min un nn : Nat) : Int))) (q := (cutQ fi nn F j).set j { p with un := min un nn }) (by rw [hg9.out]; exact st.out.2) hql (by rw [hql, hlA9.out]; exact st.out.1))
                  have hSn := (hSs.out.trans (Stp.row (b := b) (m := m2) (by rw [hg9.out]; exact st.out.2))).trans (Stp.of_below (b := b) (m := m2) (Below.refl _ _).drew)
                  have hlf2 : some w.heap.size ≠ some g := by rw [← hg9.out]; exact hlf
                  have hln2 : some (w.heap.size + 1) ≠ some g := by rw [← hg9.out]; exact hln
                  have fs2 := (Plan.grown_cells st.out.2 w.heap.size 0 hfs hlf2).trans fs
                  have ns2 := (Plan.grown_cells st.out.2 (w.heap.size + 1) 0 hns hln2).trans ns
                  have hcp : cutP fi nn p = { p with un := min un nn } := by unfold cutP; rw [if_pos hfi.out.symm, hun.out]
                  replace hDn := Lib.hid hDn
                  replace hSn := Lib.hid hSn
                  replace fs2 := Lib.hid fs2
                  replace ns2 := Lib.hid ns2
                  replace hcp := Lib.hid hcp
                  clear hql hlf2 hln2 fs ns x0 x2 l16 y2 yf
                  go_wp2_with fail
                  go_roundw
                  case rel => exact ⟨j + 1, by omega, by go_num, by rw [cutQ_next hp9.out, hcp.out]; exact hDn.out, fs2.out, ns2.out, hSn.out⟩
                  case measure => simp [intOf]; omega
                · have eq1 : ((fi : Int) == (k : Int)) = false := by rw [beq_eq_false_iff_ne]; omega
                  have hne : ¬ (fi : Int) = (k : Int) := by omega
                  replace hDs := Lib.hid hDs
                  replace hSs := Lib.hid hSs
                  go_wp2_with fail
                  go_roundw
                  case rel => exact ⟨j + 1, by omega, by go_num, by rw [cutQ_same hp9.out (by rw [← hfi.out]; exact hfk)]; exact hDs.out, fs, ns, hSs.out⟩
                  case measure => simp [intOf]; omega
              · obtain rfl : j = ff8 := by omega
                replace hD := Lib.hid hD
                replace hSr := Lib.hid hSr
                go_wp2_with fail
                go_ret
                refine ⟨by rw [hr2.out]; rfl, m2, ?_, hSe.out.trans hSr.out⟩
                rw [hr2.out]
                have e : cutQ k nn F j = F.map (cutP k nn) := by unfold cutQ; rw [hff8.out, List.take_length, List.drop_length, List.append_nil]
                have := hD.out
                rw [e, hF.out, hdu.out] at this
                exact this
end Go.Proofs.Ytmnimcdbfolhaaa

/- The walk of Turn. -/
namespace Go.Proofs.Ytmnimcdbfolhaaa
open Go.RowKit DK
attribute [local go_sem] alloc_drewN setCell_drewN shape_drewN
section
variable {w w1 w2 w3 w4 : World} {b : Nat} {m : Dm} {s : St}
def turnM (m : Dm) (f g : Nat) : Dm := { m with dA := upd (upd m.dA f (m.dA g)) g none, dc := upd (upd m.dc f (m.dc g)) g 0 }
theorem DiskAt.turned (h : DiskAt w b m s) {f g : Nat} (hf : f < 8) (hg : g < 8) (hne : f ≠ g) (R1 : Rest w w1 b (f * 2) (.slice (ad (m.dA g)) (s.data g).length (m.dc g))) (R2 : Rest w1 w2 b (f * 2 + 1) (.int .i64 (s.dur g))) (R3 : Rest w2 w3 b (g * 2) (.slice none 0 0)) (R4 : Rest w3 w4 b (g * 2 + 1) (.int .i64 0)) :
    DiskAt w4 b (turnM m f g) (turnS s f g |> fun t => { t with q := s.q }) := by
  have oth : ∀ i, i ≠ f * 2 → i ≠ f * 2 + 1 → i ≠ g * 2 → i ≠ g * 2 + 1 → w4.cell? ⟨b, i, none⟩ = w.cell? ⟨b, i, none⟩ := fun i h1 h2 h3 h4 => (R4.other i h4).trans ((R3.other i h3).trans ((R2.other i h2).trans (R1.other i h1)))
  have hh : ∀ k, k ≠ b → w4.heap[k]? = w.heap[k]? := fun k hk => (R4.heap k hk).trans ((R3.heap k hk).trans ((R2.heap k hk).trans (R1.heap k hk)))
  have hz : w4.heap.size = w.heap.size := R4.size.trans (R3.size.trans (R2.size.trans R1.size))
  have none_row : ∀ (W : World), W.ownsRow (b + 1) 5 1 (.slice (ad none) ([] : Bts).length 0) ([] : Bts).length (bytesV []) := fun W => World.ownsRow_nil _ _ _ _
  have hAf : ∀ j, j < 8 → j ≠ g → j ≠ f → (turnM m f g).dA j = m.dA j := fun j _ e1 e2 => by show upd (upd m.dA f (m.dA g)) g none j = _; rw [upd_other _ _ e1, upd_other _ _ e2]
  have hAg : (turnM m f g).dA g = none := upd_same _ _ _
  have hAF : (turnM m f g).dA f = m.dA g := by show upd (upd m.dA f (m.dA g)) g none f = _; rw [upd_other _ _ hne, upd_same]
  have hAany : ∀ j, j < 8 → ∃ i, i < 8 ∧ ((turnM m f g).dA j = none ∨ (turnM m f g).dA j = m.dA i) := fun j hj => by
    by_cases e1 : j = g
    · subst e1; exact ⟨j, hj, .inl hAg⟩
    · by_cases e2 : j = f
      · subst e2; exact ⟨g, hg, .inr hAF⟩
      · exact ⟨j, hj, .inr (hAf j hj e1 e2)⟩
  refine ⟨fun j hj => ?_, fun j hj => ?_, (oth 16 (by omega) (by omega) (by omega) (by omega)).trans h.cl, (oth 17 (by omega) (by omega) (by omega) (by omega)).trans h.cn, (oth 18 (by omega) (by omega) (by omega) (by omega)).trans h.ct, (oth 19 (by omega) (by omega) (by omega) (by omega)).trans h.ca, (oth 20 (by omega) (by omega) (by omega) (by omega)).trans h.ck,
    fun i => (R4.fz i).trans ((R3.fz i).trans ((R2.fz i).trans ((R1.fz i).trans (h.fz i)))), fun j hj => ?_, row_heap h.rl fun k e => hh k (by have := h.rl.lt k e; omega), ints_heap h.rk (by rw [hz]; exact Nat.le_refl _) fun a e _ => hh _ (by have := (h.ak a e).1; omega), fun j k hj hk hjk => ?_, fun j hj => ?_, fun a e => ⟨(h.ak a e).1, fun j hj => ?_, (h.ak a e).2.2⟩, fun a e => by rw [hz]; exact h.kl a e⟩
  · show _ = some (Value.slice (ad (upd (upd m.dA f (m.dA g)) g none j)) (List.length (upd (upd s.data f (s.data g)) g [] j)) (upd (upd m.dc f (m.dc g)) g 0 j))
    by_cases e1 : j = g
    · subst e1; rw [upd_same, upd_same, upd_same]; exact (R4.other _ (by omega)).trans R3.cell
    · rw [upd_other _ _ e1, upd_other _ _ e1, upd_other _ _ e1]
      by_cases e2 : j = f
      · subst e2; rw [upd_same, upd_same, upd_same]; exact (R4.other _ (by omega)).trans ((R3.other _ (by omega)).trans ((R2.other _ (by omega)).trans R1.cell))
      · rw [upd_other _ _ e2, upd_other _ _ e2, upd_other _ _ e2]; exact (oth _ (by omega) (by omega) (by omega) (by omega)).trans (h.cd j hj)
  · show _ = some (Value.int .i64 ((upd (upd s.dur f (s.dur g)) g 0 j : Nat) : Int))
    by_cases e1 : j = g
    · subst e1; rw [upd_same]; exact R4.cell
    · rw [upd_other _ _ e1]
      by_cases e2 : j = f
      · subst e2; rw [upd_same]; exact (R4.other _ (by omega)).trans ((R3.other _ (by omega)).trans R2.cell)
      · rw [upd_other _ _ e2]; exact (oth _ (by omega) (by omega) (by omega) (by omega)).trans (h.cu j hj)
  · show World.ownsRow _ _ _ _ (Value.slice (ad (upd (upd m.dA f (m.dA g)) g none j)) (List.length (upd (upd s.data f (s.data g)) g [] j)) (upd (upd m.dc f (m.dc g)) g 0 j)) (List.length (upd (upd s.data f (s.data g)) g [] j)) (bytesV (upd (upd s.data f (s.data g)) g [] j))
    by_cases e1 : j = g
    · subst e1; rw [upd_same, upd_same, upd_same]; exact none_row _
    · rw [upd_other _ _ e1, upd_other _ _ e1, upd_other _ _ e1]
      by_cases e2 : j = f
      · subst e2; rw [upd_same, upd_same, upd_same]; exact row_heap (h.rd g hg) fun k e => hh k (by have := (h.rd g hg).lt k e; omega)
      · rw [upd_other _ _ e2, upd_other _ _ e2, upd_other _ _ e2]; exact row_heap (h.rd j hj) fun k e => hh k (by have := (h.rd j hj).lt k e; omega)
  · by_cases e1 : j = g
    · subst e1; exact .inl hAg
    · by_cases e2 : j = f
      · subst e2
        rw [hAF]
        by_cases e3 : k = g
        · subst e3; rw [hAg]; cases m.dA k <;> simp
        · rw [hAf k hk e3 (Ne.symm hjk)]
          exact h.ap g k hg hk (Ne.symm e3)
      · rw [hAf j hj e1 e2]
        by_cases e3 : k = g
        · subst e3; rw [hAg]; cases m.dA j <;> simp
        · by_cases e4 : k = f
          · subst e4; rw [hAF]; exact h.ap j g hj hg e1
          · rw [hAf k hk e3 e4]; exact h.ap j k hj hk hjk
  · obtain ⟨i, hi, e | e⟩ := hAany j hj
    · exact .inl e
    · rw [e]; exact h.al i hi
  · obtain ⟨i, hi, e2 | e2⟩ := hAany j hj
    · rw [e2]; simp
    · rw [e2]; exact (h.ak a e).2.1 i hi
theorem Stp.turned (h : DiskAt w b m s) {f g : Nat} (hf : f < 8) (hg : g < 8) {i1 i2 i3 i4 : Nat} {v1 v2 v3 v4 : Value} (R1 : Rest w w1 b i1 v1) (R2 : Rest w1 w2 b i2 v2) (R3 : Rest w2 w3 b i3 v3) (R4 : Rest w3 w4 b i4 v4) (ho : w4.os = w.os) (ht : w4.tape = w.tape) (hp : w4.output = w.output) : Stp b m w (turnM m f g) w4 := by
  refine ⟨ho, ht, hp, by rw [R4.size, R3.size, R2.size, R1.size]; exact Nat.le_refl _, fun k hk hn => ?_, fun k hk => ?_⟩
  · have hkb : k ≠ b := fun e => hn (.inl e)
    exact (R4.heap k hkb).trans ((R3.heap k hkb).trans ((R2.heap k hkb).trans (R1.heap k hkb)))
  · rcases hk with e | ⟨j, hj, e⟩ | e | e
    · exact .inl (.inl e)
    · have e : upd (upd m.dA f (m.dA g)) g none j = some k := e
      by_cases e1 : j = g
      · subst e1; rw [upd_same] at e; cases e
      · rw [upd_other _ _ e1] at e
        by_cases e2 : j = f
        · subst e2; rw [upd_same] at e; exact .inl (.inr (.inl ⟨g, hg, e⟩))
        · rw [upd_other _ _ e2] at e; exact .inl (.inr (.inl ⟨j, hj, e⟩))
    · exact .inl (.inr (.inr (.inl e)))
    · exact .inl (.inr (.inr (.inr e)))
theorem Rest.drew {w w' : World} {b i : Nat} {v : Value} (h : Rest w w' b i v) : Rest w w'.drew b i v := ⟨h.cell, h.other, h.fz, h.heap, h.size⟩
theorem Rest.drewL {w w' : World} {b i : Nat} {v : Value} (h : Rest w w' b i v) : Rest w.drew w' b i v := ⟨h.cell, h.other, h.fz, h.heap, h.size⟩
end
end Go.Proofs.Ytmnimcdbfolhaaa

/- The walk of Turn. -/
namespace Go.Proofs.Ytmnimcdbfolhaaa
open Go.RowKit DK
attribute [local go_sem] alloc_drewN setCell_drewN shape_drewN
set_option maxRecDepth 100000 in
set_option maxHeartbeats 4000000 in
theorem turn_any (b : Nat) (m : Dm) (s : St) (f g : Int) (w : World) (h : DiskAt w b m s) (hok : Ok s) (hq : s.q.length ≤ 1000000) (ha : s.armed ≤ 9223372036854775807) (hkl : s.keep.length ≤ 9223372036854775807) :
    Calls Try.prog 47 #[dp b, .int .i64 f, .int .i64 g] w fun e w' => e = .returned (.int .i64 (DK.turn s f g).1) ∧ ∃ m', DiskAt w' b m' (DK.turn s f g).2 ∧ Stp b m w m' w' := by
  unfold dp
  obtain ⟨w1, hw1⟩ : ∃ W, W = w.alloc (.cells #[.int .i64 g] 3) := ⟨_, rfl⟩
  have hb1 : Below w.heap.size w w1 := by rw [hw1]; exact below_new w _
  have h1 := h.below hb1
  have hS1 : Stp b m w m w1 := Stp.of_below hb1
  have hz1 : w1.heap.size = w.heap.size + 1 := by rw [hw1]; simp
  have g1 : w1.cell? ⟨w.heap.size, 0, none⟩ = some (.int .i64 g) := by rw [hw1]; simp
  have ng1 : ¬ foot b m w.heap.size := fun q => by have := (h.foot_lt q).1; omega
  have hn := h1.cn
  cases hd : s.down
  case true =>
    rw [hd] at hn
    have hr : Hid (DK.turn s f g = (9, s)) := by show _ = _; unfold DK.turn; rw [hd]; rfl
    replace h1 := Lib.hid h1
    clear hd h
    go_enter Try.func47, Try.ntmps47
    go_upto_region 1 with fail
    rw [← hw1]
    clear hw1
    go_wp2_with fail
    go_ret
    exact ⟨by rw [hr.out]; rfl, m, by rw [hr.out]; exact h1.out, hS1⟩
  case false =>
    rw [hd] at hn
    have K := interrupted_any b m s w1 h1 hok hq ha hkl
    unfold dp at K
    have hr : Hid (DK.turn s f g = if isDue s then (9, intS s) else if num f = true ∧ num g = true ∧ f ≠ g then (if s.q.any (fun p => decide (p.file = g.toNat)) then (10, dueS s) else (0, turnS (dueS s) f.toNat g.toNat)) else (1, dueS s)) := by show _ = _; unfold DK.turn; rw [hd]; rfl
    have KF := Lib.hid (fun wx => number_any (.pointer (some ⟨b, 0, none⟩)) f wx)
    have KG := Lib.hid (fun wx => number_any (.pointer (some ⟨b, 0, none⟩)) g wx)
    clear hd h
    cases hdd : isDue s
    case true =>
      rw [hdd] at K hr
      replace K := Lib.hid K
      clear hdd h1
      go_enter Try.func47, Try.ntmps47
      go_upto_region 1 with fail
      rw [← hw1]
      clear hw1
      go_wp2_with (go_at_call 65; (with_reducible refine K.out.mono ?_); rintro e w2 ⟨rfl, m1, hD1, hS2⟩)
      go_ret
      exact ⟨by rw [hr.out]; rfl, m1, by rw [hr.out]; exact hD1, hS1.trans hS2⟩
    case false =>
      rw [hdd, show intS s = dueS s by unfold intS; rw [hdd]; rfl] at K
      rw [hdd] at hr
      replace K := Lib.hid K
      have hokD := hok.dueS
      obtain ⟨s1, hs1⟩ : ∃ x, Hid (x = dueS s) := ⟨_, rfl⟩
      have hr1 : Hid (DK.turn s f g = if num f = true ∧ num g = true ∧ f ≠ g then (if s1.q.any (fun p => decide (p.file = g.toNat)) then (10, s1) else (0, turnS s1 f.toNat g.toNat)) else (1, s1)) := by show _ = _; rw [hr.out, hs1.out]; rfl
      have hq1 : s1.q.length ≤ 1000000 := by rw [hs1.out]; exact hq
      rw [← hs1.out] at K hokD
      clear hdd hr
      go_enter Try.func47, Try.ntmps47
      go_upto_region 1 with fail
      rw [← hw1]
      clear hw1
      go_wp2_with fail
      go_at_call 65
      (with_reducible refine K.out.mono ?_)
      rintro e w2 ⟨rfl, m2, hD2, hS2⟩
      obtain ⟨f2, nf2⟩ := hS2.box h1 g1 ng1
      have hS := hS1.trans hS2
      have hb2 := hD2.lt
      have hzf : w.heap.size < w2.heap.size := by have := hS2.size; omega
      replace h1 := trivial
      replace hS := Lib.hid hS
      clear g1 ng1 hn hb1 hS1 hS2 K
      cases gf : num f
      case false =>
        rw [gf] at KF hr1
        have hr2 : Hid (DK.turn s f g = (1, s1)) := by show _ = _; rw [hr1.out]; simp
        replace hD2 := Lib.hid hD2
        clear gf hr1
        go_wp2_with (go_at_call 49; (with_reducible refine (KF.out _).mono ?_); rintro e w3 ⟨rfl, rfl⟩)
        go_ret
        exact ⟨by rw [hr2.out]; rfl, m2, by rw [hr2.out]; exact hD2.out, hS.out⟩
      case true =>
      rw [gf] at KF hr1
      cases gg : num g
      case false =>
        rw [gg] at KG hr1
        have hr2 : Hid (DK.turn s f g = (1, s1)) := by show _ = _; rw [hr1.out]; simp
        replace hD2 := Lib.hid hD2
        clear gf gg hr1
        go_wp2_with (first | (go_at_call 49; (with_reducible refine (KF.out _).mono ?_); rintro e w3 ⟨rfl, rfl⟩) | (go_at_call 49; (with_reducible refine (KG.out _).mono ?_); rintro e w3 ⟨rfl, rfl⟩) | fail)
        go_ret
        exact ⟨by rw [hr2.out]; rfl, m2, by rw [hr2.out]; exact hD2.out, hS.out⟩
      case true =>
      rw [gg] at KG hr1
      have f9 := num_iff.1 gf
      have g9 := num_iff.1 gg
      obtain ⟨k, rfl⟩ := Int.eq_ofNat_of_zero_le f9.1
      obtain ⟨j, rfl⟩ := Int.eq_ofNat_of_zero_le g9.1
      have hk : k < 8 := by omega
      have hj : j < 8 := by omega
      have k3 : (0 : Int) ≤ (k : Int) ∧ (k : Int) < 8 := f9
      have j3 : (0 : Int) ≤ (j : Int) ∧ (j : Int) < 8 := g9
      clear gf gg
      by_cases hkj : k = j
      case pos =>
        have hr2 : Hid (DK.turn s (k : Int) (j : Int) = (1, s1)) := by show _ = _; rw [hr1.out, if_neg (fun h => h.2.2 (by rw [hkj]))]
        have e1 : ((k : Int) == (j : Int)) = true := by rw [beq_iff_eq, hkj]
        replace hD2 := Lib.hid hD2
        clear hr1 hkj
        go_wp2_with (first | (go_at_call 49; (with_reducible refine (KF.out _).mono ?_); rintro e w3 ⟨rfl, rfl⟩) | (go_at_call 49; (with_reducible refine (KG.out _).mono ?_); rintro e w3 ⟨rfl, rfl⟩) | fail)
        go_ret
        exact ⟨by rw [hr2.out]; rfl, m2, by rw [hr2.out]; exact hD2.out, hS.out⟩
      case neg =>
        have hr2 : Hid (DK.turn s (k : Int) (j : Int) = if s1.q.any (fun p => decide (p.file = j)) then (10, s1) else (0, turnS s1 k j)) := by show _ = _; rw [hr1.out, if_pos ⟨rfl, rfl, by omega⟩]; rfl
        have e1 : ((k : Int) == (j : Int)) = false := by rw [beq_eq_false_iff_ne]; omega
        have e2 : ¬ (k : Int) = (j : Int) := by omega
        have hkj := Lib.hid hkj
        have c16 := hD2.cl
        obtain ⟨nq, hnq⟩ : ∃ n, Hid (n = s1.q.length) := ⟨_, rfl⟩
        replace c16 : w2.cell? ⟨b, 16, none⟩ = some (.slice (ad m2.lA) nq m2.lc) := by rw [hnq.out]; exact c16
        have hp : Pred 72 #[.pointer (some ⟨w.heap.size, 0, none⟩)] (fun p => decide (p.file = j)) none w2 := fun wx p hg =>
          turn1_any w.heap.size j wx ((Plan.grown_cells hg w.heap.size 0 hzf (by simp)).trans f2) p
        have K := Lib.hid (contains_any 72 #[.pointer (some ⟨w.heap.size, 0, none⟩)] _ (b + 1) m2.lA m2.lc s1.q w2 Try.call72 hD2.rl hq1 hp)
        rw [← hnq.out] at K
        clear hr1
        cases hany : s1.q.any (fun p => decide (p.file = j))
        case true =>
          rw [hany] at K hr2
          replace hD2 := Lib.hid hD2
          clear hany hp
          go_wp2_with (first | (go_at_call 49; (with_reducible refine (KF.out _).mono ?_); rintro e w3 ⟨rfl, rfl⟩) | (go_at_call 49; (with_reducible refine (KG.out _).mono ?_); rintro e w3 ⟨rfl, rfl⟩) | (go_at_call 71; (with_reducible refine K.out.mono ?_); rintro e w3 ⟨rfl, hb3⟩) | fail)
          go_ret
          exact ⟨by rw [hr2.out]; rfl, m2, by rw [hr2.out]; exact hD2.out.below hb3, hS.out.trans (Stp.of_below hb3)⟩
        case false =>
          rw [hany] at K hr2
          have KS := fun wx (hb : Below w2.heap.size w2 wx) => settle_any b m2 s1 k wx (hD2.below hb) hq1
          unfold dp at KS
          replace KS := Lib.hid KS
          replace hD2 := Lib.hid hD2
          clear hany hp
          go_wp2_with (first | (go_at_call 49; (with_reducible refine (KF.out _).mono ?_); rintro e w3 ⟨rfl, rfl⟩) | (go_at_call 49; (with_reducible refine (KG.out _).mono ?_); rintro e w3 ⟨rfl, rfl⟩) | fail)
          go_at_call 71
          (with_reducible refine K.out.mono ?_)
          rintro e w3 ⟨rfl, hb3⟩
          have hS3 := hS.out.trans (Stp.of_below (b := b) (m := m2) hb3)
          have hD3 := hD2.out.below hb3
          have f3 := (hb3.cell (p := ⟨w.heap.size, 0, none⟩) hzf).trans f2
          replace KS := Lib.hid (KS.out _ hb3)
          replace hD3 := Lib.hid hD3
          replace f3 := Lib.hid f3
          clear K hb3 c16 f2
          go_wp2_with fail
          go_at_call 68
          (with_reducible refine KS.out.mono ?_)
          rintro e w4 ⟨rfl, m4, hD4, hS4⟩
          obtain ⟨f4, nf4⟩ := hS4.box hD3.out f3.out nf2
          have hSS := hS3.trans hS4
          have hz4 : w.heap.size < w4.heap.size := World.block_lt_of_cell? w4 ⟨w.heap.size, 0, none⟩ f4
          have hb4 := hD4.lt
          have a0 := hD4.cd j hj
          have a1 := hD4.cu j hj
          have a2 := hD4.cd k hk
          have a3 := hD4.cu k hk
          have z2 := hD4.fz (k * 2)
          have z3 := hD4.fz (k * 2 + 1)
          obtain ⟨L, hL⟩ : ∃ n, Hid (n = (s1.data j).length) := ⟨_, rfl⟩
          obtain ⟨du, hdu⟩ : ∃ n, Hid (n = s1.dur j) := ⟨_, rfl⟩
          replace a0 : w4.cell? ⟨b, j * 2, none⟩ = some (.slice (ad (m4.dA j)) L (m4.dc j)) := by rw [hL.out]; exact a0
          replace a1 : w4.cell? ⟨b, j * 2 + 1, none⟩ = some (.int .i64 du) := by rw [hdu.out]; exact a1
          replace hD4 := Lib.hid hD4
          replace hSS := Lib.hid hSS
          clear KS hS3 hD3 f3 hS4
          go_upto_region 8 with fail
          refine Plan.wp_region_below 11 [(0, true), (1, true), (2, true), (3, true), (4, true), (5, true), (6, true), (7, true), (8, true), (9, true), (10, true), (11, false)] (by kernel_rfl) (by kernel_rfl) ?_
          (repeat (first | (refine Plan.plan_read (v := ?_) rfl rfl ?_ ?_; rotate_left; (focus ((intro wS hSw; have hkS := (bcell hSw).1; go_simp); try with_reducible rfl)); simp only [Act.put, List.setIfInBounds_toArray, List.set_cons_zero, List.set_cons_succ]) | (refine Plan.plan_skip rfl rfl ?_; simp only [Act.put, List.setIfInBounds_toArray, List.set_cons_zero, List.set_cons_succ])))
          (refine Plan.plan_last rfl (fun K hK => ?_); go_simp; refine hK.out _ _ ?_; clear hK K; try simp only [Act.put, List.setIfInBounds_toArray, List.set_cons_zero, List.set_cons_succ])
          have R1 := rest_store (k * 2) a2 (.slice (ad (m4.dA j)) L (m4.dc j))
          have a3' := (R1.other (k * 2 + 1) (by omega)).trans a3
          have R2 := (rest_store (k * 2 + 1) a3' (.int .i64 du)).drew
          obtain ⟨w5, hw5⟩ : ∃ W, W = ((w4.setCell ⟨b, k * 2, none⟩ (.slice (ad (m4.dA j)) L (m4.dc j))).setCell ⟨b, k * 2 + 1, none⟩ (.int .i64 du)).drew := ⟨_, rfl⟩
          rw [← hw5] at R2 ⊢
          have nfb : b ≠ w.heap.size := fun e => nf4 (.inl e.symm)
          have f5 : w5.cell? ⟨w.heap.size, 0, none⟩ = some (.int .i64 j) := (World.cell?_of_block (a := ⟨w.heap.size, 0, none⟩) ((R2.heap _ (Ne.symm nfb)).trans (R1.heap _ (Ne.symm nfb)))).trans f4
          have b0 : w5.cell? ⟨b, j * 2, none⟩ = some (.slice (ad (m4.dA j)) L (m4.dc j)) := by
            have := hkj.out
            exact (R2.other _ (by omega)).trans ((R1.other _ (by omega)).trans a0)
          have b1 : w5.cell? ⟨b, j * 2 + 1, none⟩ = some (.int .i64 du) := by
            have := hkj.out
            exact (R2.other _ (by omega)).trans ((R1.other _ (by omega)).trans a1)
          have y0 : w5.frozen? ⟨b, j * 2, none⟩ = false := (R2.fz _).trans ((R1.fz _).trans (hD4.out.fz _))
          have y1 : w5.frozen? ⟨b, j * 2 + 1, none⟩ = false := (R2.fz _).trans ((R1.fz _).trans (hD4.out.fz _))
          have hz5 : w.heap.size < w5.heap.size := by rw [R2.size, R1.size]; exact hz4
          have hb5 : b < w5.heap.size := by rw [R2.size, R1.size]; exact hb4
          have hos : Hid (w5.os = w4.os ∧ w5.tape = w4.tape ∧ w5.output = w4.output) := by rw [hw5]; exact ⟨rfl, rfl, rfl⟩
          replace R1 := Lib.hid R1
          replace R2 := Lib.hid R2
          clear hw5 a0 a1 a2 a3 a3' z2 z3 f4
          go_upto_region 9 with fail
          refine Plan.wp_region_below 6 [(0, true), (1, true), (2, true), (3, true), (4, true), (5, true), (6, false)] (by kernel_rfl) (by kernel_rfl) ?_
          (repeat (first | (refine Plan.plan_read (v := ?_) rfl rfl ?_ ?_; rotate_left; (focus ((intro wS hSw; have hkS := (bcell hSw).1; go_simp); try with_reducible rfl)); simp only [Act.put, List.setIfInBounds_toArray, List.set_cons_zero, List.set_cons_succ]) | (refine Plan.plan_skip rfl rfl ?_; simp only [Act.put, List.setIfInBounds_toArray, List.set_cons_zero, List.set_cons_succ])))
          (refine Plan.plan_last rfl (fun K hK => ?_); go_simp; refine hK.out _ _ ?_; clear hK K; try simp only [Act.put, List.setIfInBounds_toArray, List.set_cons_zero, List.set_cons_succ])
          have R3 := rest_store (j * 2) b0 (.slice none 0 0)
          have b1' := (R3.other (j * 2 + 1) (by omega)).trans b1
          have R4 := (rest_store (j * 2 + 1) b1' (.int .i64 0)).drew
          obtain rfl := hL.out
          obtain rfl := hdu.out
          have hT := DiskAt.turned hD4.out hk hj hkj.out R1.out R2.out R3 R4
          have hTS := Stp.turned (f := k) (g := j) hD4.out hk hj R1.out R2.out R3 R4 hos.out.1 hos.out.2.1 hos.out.2.2
          replace hT := Lib.hid hT
          replace hTS := Lib.hid hTS
          clear R3 R4 b1' b0 b1 y0 y1
          go_wp2_with fail
          go_ret
          exact ⟨by rw [hr2.out]; rfl, _, by rw [hr2.out]; exact hT.out, hSS.out.trans hTS.out⟩
end Go.Proofs.Ytmnimcdbfolhaaa

