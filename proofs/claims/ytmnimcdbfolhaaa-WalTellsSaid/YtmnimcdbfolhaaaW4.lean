/- The walk of slices.DeleteFunc at the pending appends, whatever the predicate. -/
import Derived.Test.YtmnimcdbfolhaaaW3
set_option linter.unusedSimpArgs false
set_option linter.unusedVariables false
namespace Go.Proofs.Ytmnimcdbfolhaaa
open Go.RowKit DK
attribute [local go_sem] alloc_drewN setCell_drewN shape_drewN
theorem Try.zeroPd (w : World) : (zeroValue 94).run Try.prog w = .ok (.agg #[.int .i64 0, .int .i64 0, .int .i64 0]) w := by kernel_rfl
theorem zeroPd_one : ∀ v ∈ (Value.agg #[.int .i64 0, .int .i64 0, .int .i64 0]).cells.toList, v.oneCell' = true := fun v hv => by
  have : v = .int .i64 0 := by simpa [Value.cells] using hv
  subst this
  rfl
theorem fidx_cases (pr : Pd → Bool) (q : List Pd) : (fidx pr q = -1 ∧ q.filter (fun p => !pr p) = q) ∨ ∃ (k : Nat) (p : Pd), q[k]? = some p ∧ fidx pr q = (k : Int) ∧ (q.take (k + 1)).filter (fun p => !pr p) = q.take k := by
  cases h : q.findIdx? pr with
  | none =>
    refine .inl ⟨by unfold fidx; rw [h], ?_⟩
    rw [List.findIdx?_eq_none_iff] at h
    exact List.filter_eq_self.2 fun x hx => by rw [h x hx]; rfl
  | some k =>
    obtain ⟨hlt, h1, h2⟩ := List.findIdx?_eq_some_iff_getElem.1 h
    refine .inr ⟨k, q[k], List.getElem?_eq_getElem hlt, by unfold fidx; rw [h], ?_⟩
    rw [List.take_add_one, List.filter_append, List.getElem?_eq_getElem hlt]
    have e1 : (q.take k).filter (fun p => !pr p) = q.take k := List.filter_eq_self.2 fun x hx => by
      obtain ⟨j, hj, rfl⟩ := List.mem_iff_getElem.1 hx
      rw [List.length_take] at hj
      have := h2 j (by omega)
      rw [List.getElem_take]
      simpa using this
    rw [e1]
    simp [h1]
/-- What is kept so far: the first i of the row are those of the first j that stay; from j on the row is as it was. -/
structure Kept (pr : Pd → Bool) (q R : List Pd) (i j : Nat) : Prop where
  len : R.length = q.length
  lt : i < j
  le : j ≤ q.length
  take : R.take i = (q.take j).filter (fun p => !pr p)
  drop : R.drop j = q.drop j
section
variable {pr : Pd → Bool} {q R : List Pd} {i j : Nat} {p : Pd}
theorem Kept.at_ (h : Kept pr q R i j) (hj : q[j]? = some p) : R[j]? = some p := by
  have : (R.drop j)[0]? = (q.drop j)[0]? := by rw [h.drop]
  simpa [List.getElem?_drop, hj] using this
theorem drop_next {A B : List Pd} {j : Nat} (h : A.drop j = B.drop j) : A.drop (j + 1) = B.drop (j + 1) := by
  rw [← List.drop_drop, ← List.drop_drop, h]
theorem Kept.skip (h : Kept pr q R i j) (hj : q[j]? = some p) (hp : pr p = true) : Kept pr q R i (j + 1) := by
  have hlt := (List.getElem?_eq_some_iff.1 hj).1
  refine ⟨h.len, by have := h.lt; omega, hlt, ?_, drop_next h.drop⟩
  rw [List.take_add_one, List.filter_append, ← h.take, hj]
  simp [hp]
theorem Kept.stay (h : Kept pr q R i j) (hj : q[j]? = some p) (hp : pr p = false) : Kept pr q (R.set i p) (i + 1) (j + 1) := by
  have hlt := (List.getElem?_eq_some_iff.1 hj).1
  have hi := h.lt
  refine ⟨by rw [List.length_set]; exact h.len, by omega, hlt, ?_, ?_⟩
  · rw [List.take_add_one (l := q), List.filter_append, ← h.take, hj, List.take_add_one, List.take_set_of_le (Nat.le_refl _), List.getElem?_set_self (by have := h.len; omega)]
    simp [hp]
  · rw [List.drop_set_of_lt (by omega)]
    exact drop_next h.drop
end
set_option maxRecDepth 100000 in
set_option maxHeartbeats 4000000 in
theorem delete_any (g : Nat) (lb : Array Value) (pr : Pd → Bool) (base : Nat) (o : Option Nat) (c : Nat) (q : List Pd) (w : World) (eg : ∀ args w, (callFunc g args).run Try.prog w = .ok (.enter g args) w)
    (hown : w.ownsRow base 94 3 (.slice (ad o) q.length c) q.length (rowPd q)) (hq : q.length ≤ 1000000) (hp : Pred g lb pr o w) :
    Calls Try.prog 66 #[.slice (ad o) q.length c, .func (.func g) #[] lb] w fun e w' => e = .returned (.slice (ad o) (q.filter (fun p => !pr p)).length c) ∧
      w'.ownsRow base 94 3 (.slice (ad o) (q.filter (fun p => !pr p)).length c) (q.filter (fun p => !pr p)).length (rowPd (q.filter (fun p => !pr p))) ∧ w.grownBy w' o := by
  have hpn : Pred g lb pr none w := fun wx p hg => hp wx p ⟨hg.os, hg.tape, hg.output, hg.size, fun k hk _ => hg.block k hk (by simp)⟩
  have K := Lib.hid (index_any g lb pr base o c q w eg hown hq hpn)
  obtain ⟨nq, hnq⟩ : ∃ n, Hid (n = q.length) := ⟨_, rfl⟩
  replace hp := Lib.hid hp
  clear hpn
  rw [← hnq.out] at hown hq ⊢ K
  rcases fidx_cases pr q with ⟨h1, h2⟩ | ⟨k, p0, h1, h2, h3⟩
  · rw [h1] at K
    rw [h2]
    replace hown := Lib.hid hown
    clear h1 h2
    go_enter Try.func66, Try.ntmps66
    go_wp2_with (go_at_call 82; (with_reducible refine K.out.mono ?_); rintro e w1 ⟨rfl, hb1⟩)
    go_ret
    rw [← hnq.out]
    exact ⟨rfl, row_below hown.out hb1, by have := grown_below (row := o) hb1; exact this⟩
  · rw [h2] at K
    have hkl : k < nq := by have := (List.getElem?_eq_some_iff.1 h1).1; have := hnq.out; omega
    obtain ⟨gg, rfl⟩ := ad_addr hown (by omega)
    replace hown := Lib.hid hown
    have hKept : Hid (Kept pr q q k (k + 1)) := ⟨rfl, Nat.lt_succ_self _, by have := hnq.out; omega, h3.symm, rfl⟩
    have hk1 : ((k : Int) == -1) = false := beq_eq_false_iff_ne.2 (by omega)
    have hk2 : ¬ (k : Int) = -1 := by omega
    have hk3 : IntKind.i64.wrap ((k : Int) + 1) = ((k + 1 : Nat) : Int) := by simp [IntKind.wrap, IntKind.signed, IntKind.bits]; omega
    rw [show ad (some gg) = some ⟨gg, 0, none⟩ from rfl] at hown K ⊢
    obtain ⟨F, hF⟩ : ∃ F, Hid (F = q.filter (fun p => !pr p)) := ⟨_, rfl⟩
    rw [← hF.out]
    clear h1 h2 h3
    go_enter Try.func66, Try.ntmps66
    go_wp2_with (go_at_call 82; (with_reducible refine K.out.mono ?_); rintro e w1 ⟨rfl, hb1⟩)
    have hown1 := Lib.hid (row_below hown.out hb1)
    have hg1 := Lib.hid (grown_below (row := some gg) hb1)
    clear K hb1 hown
    go_loopw [5, 6] (fun vi vj wr => ∃ (i j : Nat) (R : List Pd), vi = .int .i64 i ∧ vj = .int .i64 j ∧ Kept pr q R i j ∧ wr.ownsRow base 94 3 (.slice (some ⟨gg, 0, none⟩) nq c) nq (rowPd R) ∧ w.grownBy wr (some gg)) (fun _ j _ => nq - (intOf j).toNat)
    case atStart => exact ⟨k, k + 1, q, rfl, by first | rfl | go_num, hKept.out, hown1.out, hg1.out⟩
    case round =>
      clear hown1 hg1 hKept
      obtain ⟨i, j, R, rfl, rfl, hK, hO, hG⟩ := hrel
      have hij := hK.lt
      have hjn : j ≤ nq := by have := hK.le; have := hnq.out; omega
      by_cases hlt : j < nq
      · obtain ⟨p, hpj⟩ : ∃ p, q[j]? = some p := ⟨_, List.getElem?_eq_getElem (by have := hnq.out; omega)⟩
        have hlR : nq = R.length := by rw [hnq.out]; exact hK.len.symm
        obtain ⟨hg, p0, p1, p2⟩ := owns_pd hO hlR (hK.at_ hpj)
        have hki : (0 : Int) ≤ (j : Int) ∧ (j : Int) < (nq : Int) := by omega
        have hkI : (0 : Int) ≤ (i : Int) ∧ (i : Int) < (nq : Int) := by omega
        have hal : wr.grownBy (wr.alloc (.cells #[.int .i64 p.file, .int .i64 p.fr, .int .i64 p.un] 94)) (some gg) := World.grownBy_alloc _ _ _
        have hcall := hp.out (wr.alloc (.cells #[.int .i64 p.file, .int .i64 p.fr, .int .i64 p.un] 94)) p (Plan.grown_go hG hal)
        unfold pdV at hcall
        replace hK := Lib.hid hK
        replace hO := Lib.hid hO
        replace hG := Lib.hid hG
        replace hpj := Lib.hid hpj
        replace hlR := Lib.hid hlR
        replace hal := Lib.hid hal
        cases hpr : pr p
        · have hpr' := Lib.hid hpr
          rw [hpr] at hcall
          replace hcall := Lib.hid hcall
          clear hpr
          go_wp2_with (go_at_fn g; refine hcall.out.mono ?_; rintro e w2 ⟨rfl, hb2⟩; have hO2 := row_below (hO.out.alloc _) hb2; obtain ⟨ri, hri⟩ : ∃ r, R[i]? = some r := ⟨_, List.getElem?_eq_getElem (by have := hlR.out; omega)⟩; obtain ⟨_, x0, x1, x2⟩ := owns_pd hO2 hlR.out hri; have z0 := hO2.frozenAt (i * 3); have z1 := hO2.frozenAt (i * 3 + 1); have z2 := hO2.frozenAt (i * 3 + 2); replace hO2 := Lib.hid hO2; replace hb2 := Lib.hid hb2; have t0 := (hb2.out.cell (p := ⟨wr.heap.size, 0, none⟩) (by simp)).trans (show _ = some (Value.int .i64 p.file) by simp); have t1 := (hb2.out.cell (p := ⟨wr.heap.size, 1, none⟩) (by simp)).trans (show _ = some (Value.int .i64 p.fr) by simp); have t2 := (hb2.out.cell (p := ⟨wr.heap.size, 2, none⟩) (by simp)).trans (show _ = some (Value.int .i64 p.un) by simp))
          have s1 := hO2.out.stored (i * 3) (.int .i64 p.file)
          have s2 := s1.1.stored (i * 3 + 1) (.int .i64 p.fr)
          have s3 := s2.1.stored (i * 3 + 2) (.int .i64 p.un)
          have hi2 : i < R.length := by have := hlR.out; omega
          refine ⟨⟨i + 1, j + 1, R.set i p, by go_num, by go_num, hK.out.stay hpj.out hpr'.out, by rw [← rowPd_set R i p hi2]; exact s3.1, ?_⟩, by simp [intOf]; omega⟩
          exact Plan.grown_go (Plan.grown_go (Plan.grown_go (Plan.grown_go (Plan.grown_go hG.out hal.out) (grown_below hb2.out)) s1.2) s2.2) s3.2
        · have hpr' := Lib.hid hpr
          rw [hpr] at hcall
          replace hcall := Lib.hid hcall
          clear hpr
          go_wp2_with (go_at_fn g; refine hcall.out.mono ?_; rintro e w2 ⟨rfl, hb2⟩)
          exact ⟨⟨i, j + 1, R, rfl, by go_num, hK.out.skip hpj.out hpr'.out, row_below (hO.out.alloc _) hb2, Plan.grown_go (Plan.grown_go hG.out hal.out) (grown_below hb2)⟩, by simp [intOf]; omega⟩
      · obtain rfl : j = nq := by omega
        have hlR : j = R.length := by rw [hnq.out]; exact hK.len.symm
        have hFt : F = R.take i := by rw [hF.out, hK.take, hnq.out, List.take_length]
        have hfl : F.length = i := by rw [hFt, List.length_take]; omega
        have hcap := owns_room hO
        have hi1 : (0 : Int) ≤ (i : Int) ∧ (i : Int) ≤ (j : Int) := by omega
        have hi2 : (i : Int) ≤ (c : Int) := by omega
        obtain ⟨w2, hcl, hO2, hG2⟩ := run_clear_own (P := Try.prog) wr 73 0 94 (.agg #[.int .i64 0, .int .i64 0, .int .i64 0]) 3 Try.underlying73 Try.zeroPd rfl (fun v hv => zeroPd_one v hv) _ _ _ _ _ hO i (j - i) (c - i) (some ⟨gg, i * 3, none⟩) (fun _ => ⟨gg, rfl, rfl⟩) (by omega)
        replace hO := Lib.hid hO
        replace hO2 := Lib.hid hO2
        replace hG2 := Lib.hid hG2
        replace hlR := Lib.hid hlR
        replace hFt := Lib.hid hFt
        replace hfl := Lib.hid hfl
        go_wp2_with (simp only [hcl])
        go_ret
        have h0 := owns_take hO2.out (show i ≤ j by omega)
        have hl2 : ((rowPd R).take (i * 3)).length = i * 3 := by rw [rowPd_take, rowPd_len, List.length_take]; have := hlR.out; omega
        rw [List.append_assoc, List.take_left' hl2, rowPd_take, ← hFt.out] at h0
        rw [hfl.out]
        exact ⟨rfl, h0, Plan.grown_go hG hG2.out⟩
end Go.Proofs.Ytmnimcdbfolhaaa
