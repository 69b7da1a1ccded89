/- The walks of interrupted, add, Append, Read. -/
import Derived.Test.YtmnimcdbfolhaaaW5
import Derived.Laws.BytesArg
import Derived.Laws.IdiomStrings
set_option linter.unusedSimpArgs false
set_option linter.unusedVariables false
namespace Go.Proofs.Ytmnimcdbfolhaaa
open Go.RowKit DK
attribute [local go_sem] alloc_drewN setCell_drewN shape_drewN
theorem conv_own {w : World} {base c : Nat} {o : Option Nat} {x : Bts} (h : w.ownsRow base 5 1 (.slice (ad o) x.length c) x.length (bytesV x)) :
    (convert 69 9 (.slice (ad o) x.length c)).run Try.prog w = .ok (.string (bs x)) w := by
  cases o with
  | none =>
    have hx : x = [] := by
      rcases h.2 with ⟨_, e⟩ | ⟨g, cap, cur, e, _⟩
      · exact List.eq_nil_of_length_eq_zero e
      · simp [ad] at e
    subst hx
    exact run_convert_bytes_nil w 69 5 Try.underlying69 Try.underlying5 _ _ _ Try.underlying9
  | some g =>
    refine run_convert_bytes_back w 69 9 5 ⟨g, 0, none⟩ _ x Try.underlying69 Try.underlying5 Try.underlying9 (fun j hj => ?_)
    rw [Addr.add_lit, Nat.zero_add, h.cellAt j (by omega)]
    simp [bytesV, hj]
theorem crash_own {b : Nat} {m : Dm} {s : St} {w : World} (h : DiskAt w b m s) (hok : Ok s) (hq : s.q.length ≤ 1000000) (hkl : s.keep.length ≤ 9223372036854775807) :
    Calls Try.prog 23 #[dp b, .slice m.kA s.keep.length m.kc] w fun e w' => e = .returned (.tuple #[]) ∧ ∃ m', DiskAt w' b m' (crash s s.keep) ∧ Stp b m w m' w' :=
  crash_any b m s m.kA m.kc s.keep w h hok hq h.rk (fun _ a e => ⟨by have := (h.ak a e).1; omega, (h.ak a e).2.1⟩) hkl
theorem interrupted_any (b : Nat) (m : Dm) (s : St) (w : World) (h : DiskAt w b m s) (hok : Ok s) (hq : s.q.length ≤ 1000000) (ha : s.armed ≤ 9223372036854775807) (hkl : s.keep.length ≤ 9223372036854775807) :
    Calls Try.prog 65 #[dp b] w fun e w' => e = .returned (.bool (isDue s)) ∧ ∃ m', DiskAt w' b m' (intS s) ∧ Stp b m w m' w' := by
  unfold dp
  have K := due_any b m s w h ha
  unfold dp at K
  have hI : Hid (intS s = if isDue s then crash (dueS s) s.keep else dueS s) := rfl
  have hokD := hok.dueS
  have hqD : (dueS s).q.length ≤ 1000000 := hq
  have hkD : (dueS s).keep.length ≤ 9223372036854775807 := hkl
  clear h
  cases hd : isDue s
  · rw [hd] at K hI
    replace K := Lib.hid K
    clear hd
    go_enter Try.func65, Try.ntmps65
    go_wp2_with (go_at_call 39; (with_reducible refine K.out.mono ?_); rintro e w1 ⟨rfl, hD1, hS1⟩)
    go_ret
    exact ⟨rfl, m, by rw [hI.out]; exact hD1, hS1⟩
  · rw [hd] at K hI
    replace K := Lib.hid K
    clear hd
    go_enter Try.func65, Try.ntmps65
    go_wp2_with fail
    go_at_call 39
    (with_reducible refine K.out.mono ?_)
    rintro e w1 ⟨rfl, hD1, hS1⟩
    have K2 := crash_own hD1 hokD hqD hkD
    unfold dp at K2
    have c20 := hD1.ck
    rw [show (dueS s).keep = s.keep from rfl] at c20 K2
    replace K2 := Lib.hid K2
    replace hD1 := Lib.hid hD1
    replace hS1 := Lib.hid hS1
    go_wp2_with (go_at_call 23; (with_reducible refine K2.out.mono ?_); rintro e w2 ⟨rfl, m2, hD2, hS2⟩)
    go_ret
    exact ⟨rfl, m2, by rw [hI.out]; exact hD2, hS1.out.trans hS2⟩
theorem read_any (b : Nat) (m : Dm) (s : St) (f : Int) (w : World) (h : DiskAt w b m s) : Calls Try.prog 20 #[dp b, .int .i64 f] w fun e w' => e = .returned (.tuple #[.string (bs (read s f).1), .int .i64 (read s f).2]) ∧ w = w' := by
  unfold dp
  have hn := h.cn
  cases hd : s.down
  case true =>
    rw [hd] at hn
    have hr : Hid (read s f = ([], 9)) := by show _ = _; unfold DK.read; rw [hd]; rfl
    clear hd h
    go_enter Try.func20, Try.ntmps20
    go_wp2_with fail
    go_ret2
    exact ⟨by rw [hr.out]; rfl, rfl⟩
  case false =>
    rw [hd] at hn
    have K := Lib.hid (number_any (.pointer (some ⟨b, 0, none⟩)) f w)
    cases g : num f
    · rw [g] at K
      have hr : Hid (read s f = ([], 1)) := by show _ = _; unfold DK.read; rw [hd, g]; rfl
      clear hd h g
      go_enter Try.func20, Try.ntmps20
      go_wp2_with (go_at_call 49; (with_reducible refine K.out.mono ?_); rintro e w1 ⟨rfl, rfl⟩)
      go_ret2
      exact ⟨by rw [hr.out]; rfl, rfl⟩
    · rw [g] at K
      have hf := num_lt g
      have g2 := num_iff.1 g
      obtain ⟨k, rfl⟩ := Int.eq_ofNat_of_zero_le g2.1
      have hk : k < 8 := by omega
      have g3 : (0 : Int) ≤ (k : Int) ∧ (k : Int) < 8 := ⟨g2.1, g2.2⟩
      have h1 := h.cd k hk
      have hr : Hid (read s (k : Int) = (s.data k, 0)) := by show _ = _; unfold DK.read; rw [hd, g]; rfl
      have hrd := h.rd k hk
      obtain ⟨X, hX⟩ : ∃ x, Hid (x = s.data k) := ⟨_, rfl⟩
      rw [← hX.out] at h1 hrd
      have hconv := conv_own hrd
      clear h g hf hd hrd
      go_enter Try.func20, Try.ntmps20
      go_wp2_with (go_at_call 49; (with_reducible refine K.out.mono ?_); rintro e w1 ⟨rfl, rfl⟩)
      go_ret2
      exact ⟨by rw [hr.out, hX.out]; rfl, rfl⟩
set_option maxRecDepth 100000 in
theorem Try.infoPd : ∃ i, Try.prog.info? 94 = some i ∧ i.zero = some (.agg #[.int .i64 0, .int .i64 0, .int .i64 0]) ∧ i.size = 3 ∧ i.bytes = 24 := ⟨_, rfl, by kernel_rfl, by kernel_rfl, by kernel_rfl⟩
set_option maxRecDepth 100000 in
theorem Try.infoU8 : ∃ i, Try.prog.info? 5 = some i ∧ i.zero = some (.int .u8 0) ∧ i.size = 1 ∧ i.bytes = 1 := ⟨_, rfl, by kernel_rfl, by kernel_rfl, by kernel_rfl⟩
set_option maxHeartbeats 4000000 in
theorem add_any (b : Nat) (m : Dm) (s : St) (f : Int) (x : Bts) (w : World) (h : DiskAt w b m s) (hok : Ok s) (hq : s.q.length ≤ 1000000) (hx : x.length ≤ 9223372036854775807) :
    Calls Try.prog 40 #[dp b, .int .i64 f, .string (bs x)] w fun e w' => e = .returned (.int .i64 (addE s f x.length)) ∧ ∃ m', DiskAt w' b m' (addS s f x) ∧ Stp b m w m' w' := by
  unfold dp
  have K := Lib.hid (number_any (.pointer (some ⟨b, 0, none⟩)) f w)
  have hsz := bs_size x
  cases g : num f
  · rw [g] at K
    have hE : Hid (addE s f x.length = 1) := by show _ = _; unfold addE; rw [g]; rfl
    have hS : Hid (addS s f x = s) := by show _ = _; unfold addS; rw [g]; simp
    replace h := Lib.hid h
    clear g
    go_enter Try.func40, Try.ntmps40
    go_wp2_with (go_at_call 49; (with_reducible refine K.out.mono ?_); rintro e w1 ⟨rfl, rfl⟩)
    go_ret
    exact ⟨by rw [hE.out]; rfl, m, by rw [hS.out]; exact h.out, Stp.refl _ _ _⟩
  · rw [g] at K
    have hf := num_lt g
    have g2 := num_iff.1 g
    obtain ⟨k, rfl⟩ := Int.eq_ofNat_of_zero_le g2.1
    have hk : k < 8 := by omega
    have g3 : (0 : Int) ≤ (k : Int) ∧ (k : Int) < 8 := ⟨g2.1, g2.2⟩
    have hlen := hok.len k hk
    obtain ⟨X, hX⟩ : ∃ x, Hid (x = s.data k) := ⟨_, rfl⟩
    have c0 := h.cd k hk
    have hrd := h.rd k hk
    rw [← hX.out] at c0 hrd hlen
    have hb := h.lt
    have e1 : IntKind.i64.wrap (16777216 - (X.length : Int)) = 16777216 - (X.length : Int) := by simp [IntKind.wrap, IntKind.signed, IntKind.bits]; omega
    have hE : Hid (addE s (k : Int) x.length = if 16777216 < X.length + x.length then 8 else 0) := by show _ = _; unfold addE; rw [g, hX.out]; rfl
    have hS : Hid (addS s (k : Int) x = if X.length + x.length ≤ 16777216 ∧ x ≠ [] then { s with data := upd s.data k (X ++ x), q := s.q ++ [⟨k, X.length, X.length + x.length⟩] } else s) := by
      show _ = _; unfold addS; rw [hX.out, g]; simp
    clear g hf
    by_cases h8 : 16777216 < X.length + x.length
    · have e2 : 16777216 - (X.length : Int) < (x.length : Int) := by omega
      have e3 : decide (16777216 - (X.length : Int) < (x.length : Int)) = true := decide_eq_true e2
      replace h := Lib.hid h
      replace hrd := Lib.hid hrd
      have h8' := Lib.hid h8
      clear h8
      go_enter Try.func40, Try.ntmps40
      go_wp2_with (go_at_call 49; (with_reducible refine K.out.mono ?_); rintro e w1 ⟨rfl, rfl⟩)
      go_ret
      exact ⟨by rw [hE.out, if_pos h8'.out]; rfl, m, by rw [hS.out, if_neg (by have := h8'.out; omega)]; exact h.out, Stp.refl _ _ _⟩
    · have e2 : ¬ 16777216 - (X.length : Int) < (x.length : Int) := by omega
      have e3 : decide (16777216 - (X.length : Int) < (x.length : Int)) = false := decide_eq_false e2
      replace h := Lib.hid h
      replace hrd := Lib.hid hrd
      have h8' := Lib.hid h8
      clear h8
      have hem : (bs x).toList.isEmpty = x.isEmpty := by rw [ByteArray.toList_eq, bs_list]
      cases hx0 : x.isEmpty
      case true =>
        rw [hx0] at hem
        have hx1 : Hid (x = []) := List.isEmpty_iff.1 hx0
        clear hx0
        go_enter Try.func40, Try.ntmps40
        go_wp2_with (go_at_call 49; (with_reducible refine K.out.mono ?_); rintro e w1 ⟨rfl, rfl⟩)
        go_ret
        exact ⟨by rw [hE.out, if_neg h8'.out]; rfl, m, by rw [hS.out, if_neg (by rw [hx1.out]; simp)]; exact h.out, Stp.refl _ _ _⟩
      case false =>
        rw [hx0] at hem
        have hx1 : Hid (x ≠ []) := fun q => by rw [q] at hx0; cases hx0
        clear hx0
        obtain ⟨i0, hi, hy0, hy1, hy2⟩ := Try.infoU8
        obtain ⟨j0, hj, hz0, hz1, hz2⟩ := Try.infoPd
        have hfz := h.out.fz (k * 2)
        have hSrc : Hid (Src Try.prog 1 9 (.string (bs x)) x.length (bytesV x) w) := by
          have := Src.ofString (P := Try.prog) w Try.underlying9 (bs x)
          rwa [bs_size, byteCells_bs] at this
        go_enter Try.func40, Try.ntmps40
        go_upto_region 8 with (go_at_call 49; (with_reducible refine K.out.mono ?_); rintro e w1 ⟨rfl, rfl⟩)
        go_upto_region 9 with (at_builtin; refine wpList_append_src _ (by rfl) _ _ 69 9 (by rfl) (b + 1) 5 i0 (.int .u8 0) 1 1 Try.underlying69 hi hy0 hy1 hy2 rfl _ _ _ (by rfl) hrd.out _ x.length _ (by rfl) hSrc.out (by have := h8'.out; unfold maxLen; omega) (by have := h8'.out; omega) (by omega) ?_; intro v' w1 hO1 hG1 hob1; obtain ⟨o1, cc1, hv1, _⟩ := ad_of_owns hO1; subst hv1; rw [ad_block, ad_block] at hob1; rw [ad_block] at hG1; rw [← bytesV_app, ← List.length_append] at hO1; have y0 := (Plan.grown_cells hG1 b (k * 2) hb (fun e => by have := h.out.dlt hk e.symm; omega)).trans c0; have y1 := (World.frozen?_of_block (a := ⟨b, k * 2, none⟩) (hG1.block b hb (fun e => by have := h.out.dlt hk e.symm; omega))).trans hfz; replace hO1 := Lib.hid hO1; replace hG1 := Lib.hid hG1; replace hob1 := Lib.hid hob1)
        have h1 := h.out.filed hk hG1.out hO1.out (hob1.out.imp id fun e => ⟨_, e, Nat.le_refl _⟩)
        obtain ⟨w2, hw2⟩ : ∃ W, W = w1.setCell ⟨b, k * 2, none⟩ (.slice (ad o1) (X ++ x).length cc1) := ⟨_, rfl⟩
        rw [← hw2] at h1
        obtain ⟨m1, hm1⟩ : ∃ q, q = ({ m with dA := upd m.dA k o1, dc := upd m.dc k cc1 } : Dm) := ⟨_, rfl⟩
        rw [← hm1] at h1
        obtain ⟨hD2, hS2⟩ := h1
        have hll : (X ++ x).length = X.length + x.length := List.length_append
        rw [hll] at hw2
        rw [← hw2]
        have c2 : w2.cell? ⟨b, k * 2, none⟩ = some (.slice (ad o1) (X.length + x.length) cc1) := by rw [hw2]; exact World.cell?_setCell_same _ _ _ y0
        have c16 : w2.cell? ⟨b, 16, none⟩ = some (.slice (ad m.lA) s.q.length m.lc) := by have := hD2.cl; rw [hm1] at this; exact this
        have z16 := hD2.fz 16
        have hO2 : w2.ownsRow (b + 1) 94 3 (.slice (ad m.lA) s.q.length m.lc) s.q.length (rowPd s.q) := by have := hD2.rl; rw [hm1] at this; exact this
        have hb2 := hD2.lt
        have nl : some b ≠ m.lA := fun e => by have := h.out.llt e.symm; omega
        have hlA : m1.lA = m.lA := by rw [hm1]
        obtain ⟨nq, hnq⟩ : ∃ n, Hid (n = s.q.length) := ⟨_, rfl⟩
        rw [← hnq.out] at c16 hO2 hq
        replace hD2 := Lib.hid hD2
        replace hS2 := Lib.hid hS2
        replace hO2 := Lib.hid hO2
        replace hm1 := Lib.hid hm1
        replace hlA := Lib.hid hlA
        replace hll := Lib.hid hll
        clear hw2 y0 y1 hO1 hG1 hob1 c0 hfz
        refine Plan.wp_region_plan (fun w' => w2.grownBy w' m.lA) 17 [(0, true), (1, true), (2, true), (3, true), (4, true), (5, true), (6, true), (7, true), (8, true), (9, true), (10, true), (11, true), (12, true), (13, false), (14, false), (15, true), (16, true), (17, false)] (by kernel_rfl) (by kernel_rfl) (Plan.grown_drew _ _) ?_
        (repeat (first | (refine Plan.plan_read (v := ?_) rfl rfl ?_ ?_; rotate_left; (focus ((intro wS hSw; have hkS := Plan.grown_cells hSw; go_simp); try with_reducible rfl)); simp only [Act.put, List.setIfInBounds_toArray, List.set_cons_zero, List.set_cons_succ]) | (refine Plan.plan_skip rfl rfl ?_; simp only [Act.put, List.setIfInBounds_toArray, List.set_cons_zero, List.set_cons_succ])))
        (refine Plan.plan_write rfl (fun K hK => ?_); try go_simp)
        refine hK.out _ _ (Plan.grown_alloc (Plan.grown_drew _ _) _) ?_
        clear hK K
        try simp only [Act.put, List.setIfInBounds_toArray, List.set_cons_zero, List.set_cons_succ]
        (repeat (first | (refine Plan.plan_read (v := ?_) rfl rfl ?_ ?_; rotate_left; (focus ((intro wS hSw; have hkS := Plan.grown_cells hSw; go_simp); try with_reducible rfl)); simp only [Act.put, List.setIfInBounds_toArray, List.set_cons_zero, List.set_cons_succ]) | (refine Plan.plan_skip rfl rfl ?_; simp only [Act.put, List.setIfInBounds_toArray, List.set_cons_zero, List.set_cons_succ])))
        refine Plan.plan_write rfl (fun K hK => ?_)
        refine step_append_any _ (by rfl) _ _ 73 (by rfl) (b + 1) 94 j0 _ 3 24 Try.underlying73 hj hz0 hz1 hz2 rfl (by omega) _ nq _ (by rfl) (hO2.out.alloc _) (_ + 1) (some ⟨w2.heap.size, 0, none⟩) 1 1 (pdC ⟨k, X.length, X.length + x.length⟩) (by rfl) ⟨rfl, fun _ => ⟨_, rfl, Nat.lt_succ_self _, cells_at (by rfl) _ _⟩⟩ (fun u hu => ?_) (by unfold maxLen; omega) (by omega) (by simp; omega) ?_
        · rcases List.mem_cons.1 hu with rfl | hu
          · rfl
          rcases List.mem_cons.1 hu with rfl | hu
          · rfl
          obtain rfl := List.mem_singleton.1 hu
          rfl
        intro v' w3 hO3 hG3 hob3
        obtain ⟨o3, cc3, hv3, _⟩ := ad_of_owns hO3
        subst hv3
        rw [ad_block, ad_block] at hob3
        rw [ad_block] at hG3
        have hG := Plan.grown_go (Plan.grown_alloc (Plan.grown_drew _ _) _) hG3
        refine hK.out _ _ hG ?_
        clear hK K
        try simp only [Act.put, List.setIfInBounds_toArray, List.set_cons_zero, List.set_cons_succ]
        have y0 := (Plan.grown_cells hG b 16 hb2 nl).trans c16
        have y1 := (World.frozen?_of_block (a := ⟨b, 16, none⟩) (hG.block b hb2 nl)).trans z16
        replace hO3 := Lib.hid hO3
        (repeat (first | (refine Plan.plan_read (v := ?_) rfl rfl ?_ ?_; rotate_left; (focus ((intro wS hSw; have hkS := Plan.grown_cells hSw; go_simp); try with_reducible rfl)); simp only [Act.put, List.setIfInBounds_toArray, List.set_cons_zero, List.set_cons_succ]) | (refine Plan.plan_skip rfl rfl ?_; simp only [Act.put, List.setIfInBounds_toArray, List.set_cons_zero, List.set_cons_succ])))
        (refine Plan.plan_last rfl (fun K hK => ?_); go_simp; refine hK.out _ _ ?_; clear hK K; try simp only [Act.put, List.setIfInBounds_toArray, List.set_cons_zero, List.set_cons_succ])
        replace hG := Lib.hid hG
        replace hob3 := Lib.hid hob3
        clear hG3
        go_wp2_with fail
        go_ret
        have hlq : (s.q ++ [(⟨k, X.length, X.length + x.length⟩ : Pd)]).length = nq + 1 := by rw [List.length_append, hnq.out]; rfl
        have hO4 : w3.ownsRow (b + 1) 94 3 (.slice (ad o3) (s.q ++ [(⟨k, X.length, X.length + x.length⟩ : Pd)]).length cc3) (s.q ++ [(⟨k, X.length, X.length + x.length⟩ : Pd)]).length (rowPd (s.q ++ [⟨k, X.length, X.length + x.length⟩])) := by
          rw [hlq, show rowPd (s.q ++ [(⟨k, X.length, X.length + x.length⟩ : Pd)]) = rowPd s.q ++ pdC ⟨k, X.length, X.length + x.length⟩ by simp [rowPd]]
          exact hO3.out
        obtain ⟨r1, r2⟩ := DiskAt.listed hD2.out (by rw [hlA.out]; exact hG.out) hO4 (by rw [hlA.out]; exact hob3.out.imp id fun e => ⟨_, e, by simp⟩)
        rw [hlq] at r1 r2
        refine ⟨by rw [hE.out, if_neg h8'.out]; rfl, _, ?_, hS2.out.trans r2⟩
        rw [hS.out, if_pos ⟨by have := h8'.out; omega, hx1.out⟩]
        exact r1
set_option maxHeartbeats 4000000 in
theorem append_any (b : Nat) (m : Dm) (s : St) (f : Int) (x : Bts) (w : World) (h : DiskAt w b m s) (hok : Ok s) (hq : s.q.length ≤ 999999) (hx : x.length ≤ 9223372036854775807) (ha : s.armed ≤ 9223372036854775807) (hkl : s.keep.length ≤ 9223372036854775807) :
    Calls Try.prog 16 #[dp b, .int .i64 f, .string (bs x)] w fun e w' => e = .returned (.int .i64 (append s f x).1) ∧ ∃ m', DiskAt w' b m' (append s f x).2 ∧ Stp b m w m' w' := by
  unfold dp
  have hn := h.cn
  cases hd : s.down
  case true =>
    rw [hd] at hn
    have hr : Hid (append s f x = (9, s)) := by show _ = _; unfold DK.append; rw [hd]; rfl
    replace h := Lib.hid h
    clear hd
    go_enter Try.func16, Try.ntmps16
    go_wp2_with fail
    go_ret
    exact ⟨by rw [hr.out]; rfl, m, by rw [hr.out]; exact h.out, Stp.refl _ _ _⟩
  case false =>
    rw [hd] at hn
    have K := due_any b m s w h ha
    unfold dp at K
    replace K := Lib.hid K
    have hA : ∀ wx m', DiskAt wx b m' (dueS s) → Calls Try.prog 40 #[.pointer (some ⟨b, 0, none⟩), .int .i64 f, .string (bs x)] wx fun e w' => e = .returned (.int .i64 (addE s f x.length)) ∧ ∃ m2, DiskAt w' b m2 (addS (dueS s) f x) ∧ Stp b m' wx m2 w' := fun wx m' h' =>
      add_any b m' (dueS s) f x wx h' hok.dueS (show s.q.length ≤ 1000000 by omega) hx
    replace hA := Lib.hid hA
    have hr : Hid (append s f x = if isDue s then (9, crash (addS (dueS s) f x) s.keep) else (addE s f x.length, addS (dueS s) f x)) := by show _ = _; unfold DK.append; rw [hd]; rfl
    have hokA := Lib.hid (hok.dueS.addS f x)
    have hkA : Hid ((addS (dueS s) f x).keep = s.keep) := by show _ = _; unfold addS; split <;> rfl
    have hqA : Hid ((addS (dueS s) f x).q.length ≤ 1000000) := by
      show _ ≤ _; unfold addS; split
      · show (s.q ++ _).length ≤ _; rw [List.length_append]; simp; omega
      · show s.q.length ≤ _; omega
    clear hd h hok
    go_enter Try.func16, Try.ntmps16
    go_wp2_with fail
    go_at_call 39
    (with_reducible refine K.out.mono ?_)
    rintro e w1 ⟨rfl, hD1, hS1⟩
    replace hA := Lib.hid (hA.out w1 m hD1)
    replace hS1 := Lib.hid hS1
    clear hD1
    go_wp2_with fail
    go_at_call 40
    (with_reducible refine hA.out.mono ?_)
    rintro e w2 ⟨rfl, m2, hD2, hS2⟩
    replace hS2 := Lib.hid (hS1.out.trans hS2)
    cases hdd : isDue s
    · rw [hdd] at hr
      replace hD2 := Lib.hid hD2
      clear hdd
      go_wp2_with fail
      go_ret
      exact ⟨by rw [hr.out]; rfl, m2, by rw [hr.out]; exact hD2.out, hS2.out⟩
    · rw [hdd] at hr
      have c20 := hD2.ck
      have K2 := crash_own hD2 hokA.out hqA.out (by rw [hkA.out]; exact hkl)
      rw [hkA.out] at c20 K2
      unfold dp at K2
      replace K2 := Lib.hid K2
      replace hD2 := Lib.hid hD2
      clear hdd
      go_wp2_with (go_at_call 23; (with_reducible refine K2.out.mono ?_); rintro e w3 ⟨rfl, m3, hD3, hS3⟩)
      go_ret
      exact ⟨by rw [hr.out]; rfl, m3, by rw [hr.out]; exact hD3, hS2.out.trans hS3⟩
end Go.Proofs.Ytmnimcdbfolhaaa
