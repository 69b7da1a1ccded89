/- Joined of: RW1 RW2 RW3 RW4. -/
import Derived.Test.YtmnimcdbfolhaaaDQ
/- The small calls of the reference's disk: Down, may, Size, read, Read, Start, Lose, put, New. -/
set_option linter.unusedSimpArgs false
set_option linter.unusedVariables false
namespace Go.Proofs.Ytmnimcdbfolhaaa
open Go.RowKit DK
attribute [local go_sem] alloc_drewN setCell_drewN shape_drewN
namespace DK.RS
def upto (t : RS) (f k : Nat) : Bts := t.lasts f ++ (ofQ f (t.q.take k)).flatten
theorem upto_zero (t : RS) (f : Nat) : t.upto f 0 = t.lasts f := by simp [upto, ofQ]
theorem upto_all (t : RS) (f : Nat) : t.upto f t.q.length = t.all f := by unfold upto all; rw [List.take_length]
theorem ofQ_snoc (f : Nat) (q : List (Nat × Bts)) (p : Nat × Bts) : ofQ f (q ++ [p]) = if p.1 = f then ofQ f q ++ [p.2] else ofQ f q := by
  unfold ofQ
  rw [List.filter_append]
  by_cases h : p.1 = f <;> simp [h]
theorem upto_next {t : RS} {f k : Nat} {p : Nat × Bts} (h : t.q[k]? = some p) : t.upto f (k + 1) = if p.1 = f then t.upto f k ++ p.2 else t.upto f k := by
  unfold upto
  rw [List.take_add_one, h, Option.toList_some, ofQ_snoc]
  split <;> simp
theorem upto_le (t : RS) (f : Nat) {k : Nat} (h : k ≤ t.q.length) : (t.upto f k).length ≤ (t.all f).length := by
  have : ∀ j, k + j ≤ t.q.length → (t.upto f k).length ≤ (t.upto f (k + j)).length := by
    intro j
    induction j with
    | zero => intro _; exact Nat.le_refl _
    | succ j ih =>
      intro hj
      refine Nat.le_trans (ih (by omega)) ?_
      rw [← Nat.add_assoc, upto_next (List.getElem?_eq_getElem (show k + j < t.q.length by omega))]
      split
      · rw [List.length_append]; omega
      · exact Nat.le_refl _
  have h2 := this (t.q.length - k) (by omega)
  rw [show k + (t.q.length - k) = t.q.length by omega, upto_all] at h2
  exact h2
end DK.RS
structure ROk (t : RS) : Prop where
  len : ∀ f, f < 8 → (t.all f).length ≤ 16777216
  q : t.q.length ≤ 1000000
  armed : t.armed ≤ 9223372036854775807
  lost : t.lost ≤ 9223372036854775807
  keep : t.keep.length ≤ 1000000000000
theorem num_no {f : Int} (h : ¬ num f = true) : f < 0 ∨ 7 < f := by rw [num_iff] at h; omega
section
variable {w0 w w' : World} {b : Nat} {P : Nat → Prop} {t : RS}
theorem rdown_any (h : RT w0 b P w t) : Calls Try.prog 36 #[dp b] w fun e w' => e = .returned (.bool t.down) ∧ w = w' := by
  unfold dp
  obtain ⟨m, hD, _⟩ := h.at_
  obtain ⟨_, _, _, c3, _⟩ := rdO_cells hD.obj
  clear h hD
  go_enter Try.func36, Try.ntmps36
  go_wp2_with fail
  go_ret
  exact ⟨rfl, rfl⟩
theorem rmay_any (h : RT w0 b P w t) (f : Int) : Calls Try.prog 51 #[dp b, .int .i64 f] w fun e w' => e = .returned (.int .i64 (t.may f)) ∧ w = w' := by
  unfold dp RS.may
  obtain ⟨m, hD, _⟩ := h.at_
  obtain ⟨_, _, _, c3, _⟩ := rdO_cells hD.obj
  clear h hD
  cases hd : t.down
  · rw [hd] at c3
    rw [if_neg (by simp)]
    by_cases hn : num f = true
    · have g := num_iff.1 hn
      rw [if_pos hn]
      have g1 : decide (f < 0) = false := decide_eq_false (by omega)
      have g2 : decide (7 < f) = false := decide_eq_false (by omega)
      go_enter Try.func51, Try.ntmps51
      go_wp2_with fail
      go_ret
      exact ⟨rfl, rfl⟩
    · rw [if_neg hn]
      rcases num_no hn with h | h
      · have g1 : decide (f < 0) = true := decide_eq_true h
        go_enter Try.func51, Try.ntmps51
        go_wp2_with fail
        go_ret
        exact ⟨rfl, rfl⟩
      · have g1 : decide (f < 0) = false := decide_eq_false (by omega)
        have g2 : decide (7 < f) = true := decide_eq_true (by omega)
        go_enter Try.func51, Try.ntmps51
        go_wp2_with fail
        go_ret
        exact ⟨rfl, rfl⟩
  · rw [hd] at c3
    rw [if_pos rfl]
    go_enter Try.func51, Try.ntmps51
    go_wp2_with fail
    go_ret
    exact ⟨rfl, rfl⟩
theorem rstart_any (h : RT w0 b P w t) : Calls Try.prog 57 #[dp b] w fun e w' => e = .returned (.tuple #[]) ∧ RT w0 b P w' t.start ∧ Keep P w w' := by
  unfold dp
  obtain ⟨m, hD, hP⟩ := h.at_
  obtain ⟨_, _, _, c3, _, _, cf⟩ := rdO_cells hD.obj
  have f3 := cf 3
  have H := Lib.hid (h.word (i := 3) (v := .bool false) (t' := t.start) hD hP (fun c e => by injection e with e; rw [← e]; rfl) rfl rfl rfl)
  clear h hD cf
  go_enter Try.func57, Try.ntmps57
  go_wp2_with fail
  go_end0
  exact ⟨rfl, H.out⟩
theorem rlose_any (h : RT w0 b P w t) (n : Int) : Calls Try.prog 60 #[dp b, .int .i64 n] w fun e w' => e = .returned (.tuple #[]) ∧ RT w0 b P w' (t.lose n) ∧ Keep P w w' := by
  unfold dp
  obtain ⟨m, hD, hP⟩ := h.at_
  obtain ⟨_, _, c2, _, _, _, cf⟩ := rdO_cells hD.obj
  have f2 := cf 2
  have H := fun k : Nat => Lib.hid (h.word (i := 2) (v := .int .i64 (k : Int)) (t' := { t with lost := k }) hD hP (fun c e => by injection e with e; rw [← e]; rfl) rfl rfl rfl)
  clear h hD cf
  unfold RS.lose
  by_cases g : 0 < n
  · obtain ⟨k, rfl⟩ := Int.eq_ofNat_of_zero_le (Int.le_of_lt g)
    have g2 : 0 < k := by omega
    have e : (if (0 : Int) < (k : Int) then (k : Int) else 0) = ((k : Nat) : Int) := by split <;> omega
    go_enter Try.func60, Try.ntmps60
    go_wp2_with fail
    go_end0
    exact ⟨rfl, (H k).out⟩
  · have e : max n 0 = 0 := by omega
    have e2 : n.toNat = 0 := by omega
    rw [e2]
    go_enter Try.func60, Try.ntmps60
    go_wp2_with fail
    go_end0
    exact ⟨rfl, (H 0).out⟩
set_option maxHeartbeats 2000000 in
theorem rsize_any (h : RT w0 b P w t) (hk : ROk t) (f : Int) : Calls Try.prog 34 #[dp b, .int .i64 f] w fun e w' => e = .returned (.int .i64 (t.size f)) ∧ w = w' := by
  unfold dp RS.size
  obtain ⟨m, hD, hP⟩ := h.at_
  obtain ⟨c0, c1, _⟩ := rdO_cells hD.obj
  by_cases hn : num f = true
  case neg =>
    rw [if_neg hn]
    clear h hD
    rcases num_no hn with h | h
    · have g1 : decide (f < 0) = true := decide_eq_true h
      go_enter Try.func34, Try.ntmps34
      go_wp2_with fail
      go_ret
      exact ⟨rfl, rfl⟩
    · have g1 : decide (f < 0) = false := decide_eq_false (by omega)
      have g2 : decide (7 < f) = true := decide_eq_true (by omega)
      go_enter Try.func34, Try.ntmps34
      go_wp2_with fail
      go_ret
      exact ⟨rfl, rfl⟩
  case pos =>
  rw [if_pos hn]
  have g := num_iff.1 hn
  obtain ⟨k, rfl⟩ := Int.eq_ofNat_of_zero_le g.1
  rw [Int.toNat_natCast]
  have hk8 : k < 8 := by omega
  have g1 : decide ((k : Int) < 0) = false := decide_eq_false (by omega)
  have g2 : decide (7 < (k : Int)) = false := decide_eq_false (by omega)
  have g3 : (0 : Int) ≤ (k : Int) ∧ (k : Int) < 8 := g
  have l0 := (hD.last hk8).1
  have hlen := hk.len k hk8
  have hql := hk.q
  have z0 := bs_size (t.lasts k)
  obtain ⟨nq, hnq⟩ : ∃ n, Hid (n = t.q.length) := ⟨_, rfl⟩
  rw [← hnq.out] at c1 hql
  rw [show ad (some m.gA) = some ⟨m.gA, 0, none⟩ from rfl] at c0
  replace hD := Lib.hid hD
  clear hn g h
  go_enter Try.func34, Try.ntmps34
  go_wp2_with fail
  go_loop [5, 6] (fun u5 u6 => ∃ (j x : Nat), j ≤ nq ∧ u6 = .int .i64 j ∧ u5 = .int .i64 x ∧ x ≤ 16777216 ∧ Hid (x = (t.upto k j).length)) (fun _ u6 => nq - (intOf u6).toNat)
  case atStart => exact ⟨0, (t.lasts k).length, Nat.zero_le _, rfl, rfl, by have := t.upto_le k (k := 0) (Nat.zero_le _); rw [RS.upto_zero] at this; omega, by show _ = _; rw [RS.upto_zero]⟩
  case round =>
    obtain ⟨j, x, hj, rfl, rfl, hx, hX⟩ := hrel
    by_cases hlt : j < nq
    · obtain ⟨p, hpj⟩ : ∃ p, t.q[j]? = some p := ⟨_, List.getElem?_eq_getElem (by have := hnq.out; omega)⟩
      obtain ⟨gg, hgg, hg, p0, p1⟩ := hD.out.piece hpj
      have hki : (0 : Int) ≤ (j : Int) ∧ (j : Int) < (nq : Int) := by omega
      have hup := Lib.hid (RS.upto_next (f := k) hpj)
      have hle := t.upto_le k (k := j + 1) (by have := hnq.out; omega)
      have z1 := bs_size p.2
      rw [hgg, show ad (some gg) = some ⟨gg, 0, none⟩ from rfl] at c1
      clear hgg
      by_cases hf : p.1 = k
      · have e1 : ((p.1 : Int) == (k : Int)) = true := by rw [beq_iff_eq]; omega
        have e2 : (p.1 : Int) = (k : Int) := by omega
        have hn2 := hup.out
        rw [if_pos hf] at hn2
        rw [hn2, List.length_append, ← hX.out] at hle
        have e3 : IntKind.i64.wrap ((x : Int) + (p.2.length : Int)) = ((x + p.2.length : Nat) : Int) := by rw [IntKind.wrap_i64]; omega
        have hX2 : Hid (x + p.2.length = (t.upto k (j + 1)).length) := by show _ = _; rw [hn2, List.length_append, ← hX.out]
        clear hn2 hX hup hf
        go_wp2_with fail
        go_round
        case rel => exact ⟨j + 1, x + p.2.length, by omega, by go_num, by go_num, by omega, hX2⟩
        case measure => simp [intOf]; omega
      · have e1 : ((p.1 : Int) == (k : Int)) = false := by rw [beq_eq_false_iff_ne]; omega
        have e2 : ¬ (p.1 : Int) = (k : Int) := by omega
        have hn2 := hup.out
        rw [if_neg hf] at hn2
        have hX2 : Hid (x = (t.upto k (j + 1)).length) := by show _ = _; rw [hn2, ← hX.out]
        clear hn2 hX hup hf
        go_wp2_with fail
        go_round
        case rel => exact ⟨j + 1, x, by omega, by go_num, rfl, hx, hX2⟩
        case measure => simp [intOf]; omega
    · obtain rfl : j = nq := by omega
      have hX2 : Hid (x = (t.all k).length) := by show _ = _; rw [hX.out, hnq.out, RS.upto_all]
      clear hX
      go_wp2_with fail
      go_ret
      exact ⟨ret_int (by rw [hX2.out]), rfl⟩
set_option maxHeartbeats 2000000 in
theorem rbytes_any (h : RT w0 b P w t) (hk : ROk t) {k : Nat} (hk8 : k < 8) : Calls Try.prog 85 #[dp b, .int .i64 (k : Int)] w fun e w' => e = .returned (.string (bs (t.all k))) ∧ w = w' := by
  unfold dp
  obtain ⟨m, hD, hP⟩ := h.at_
  obtain ⟨c0, c1, _⟩ := rdO_cells hD.obj
  have g3 : (0 : Int) ≤ (k : Int) ∧ (k : Int) < 8 := by omega
  have l0 := (hD.last hk8).1
  have hlen := hk.len k hk8
  have hql := hk.q
  obtain ⟨nq, hnq⟩ : ∃ n, Hid (n = t.q.length) := ⟨_, rfl⟩
  rw [← hnq.out] at c1 hql
  rw [show ad (some m.gA) = some ⟨m.gA, 0, none⟩ from rfl] at c0
  replace hD := Lib.hid hD
  clear h
  go_enter Try.func85, Try.ntmps85
  go_wp2_with fail
  go_loop [5, 6] (fun u5 u6 => ∃ (j : Nat) (x : Bts), j ≤ nq ∧ u6 = .int .i64 j ∧ u5 = .string (bs x) ∧ Hid (x = t.upto k j)) (fun _ u6 => nq - (intOf u6).toNat)
  case atStart => exact ⟨0, t.lasts k, Nat.zero_le _, rfl, rfl, by show _ = _; rw [RS.upto_zero]⟩
  case round =>
    obtain ⟨j, x, hj, rfl, rfl, hX⟩ := hrel
    by_cases hlt : j < nq
    · obtain ⟨p, hpj⟩ : ∃ p, t.q[j]? = some p := ⟨_, List.getElem?_eq_getElem (by have := hnq.out; omega)⟩
      obtain ⟨gg, hgg, hg, p0, p1⟩ := hD.out.piece hpj
      have hki : (0 : Int) ≤ (j : Int) ∧ (j : Int) < (nq : Int) := by omega
      have hup := Lib.hid (RS.upto_next (f := k) hpj)
      have hle := t.upto_le k (k := j + 1) (by have := hnq.out; omega)
      have z1 := bs_size p.2
      have z2 := bs_size x
      rw [hgg, show ad (some gg) = some ⟨gg, 0, none⟩ from rfl] at c1
      clear hgg
      by_cases hf : p.1 = k
      · have e1 : ((p.1 : Int) == (k : Int)) = true := by rw [beq_iff_eq]; omega
        have e2 : (p.1 : Int) = (k : Int) := by omega
        have hn2 := hup.out
        rw [if_pos hf] at hn2
        have e3 := bs_app x p.2
        rw [hn2, List.length_append, ← hX.out] at hle
        have hX2 : Hid (x ++ p.2 = t.upto k (j + 1)) := by show _ = _; rw [hn2, ← hX.out]
        have z3 : ¬ (9223372036854775807 : Int) < (x.length : Int) + (p.2.length : Int) := by omega
        clear hn2 hX hup hf
        go_wp2_with fail
        go_round
        case rel => exact ⟨j + 1, x ++ p.2, by omega, by go_num, rfl, hX2⟩
        case measure => simp [intOf]; omega
      · have e1 : ((p.1 : Int) == (k : Int)) = false := by rw [beq_eq_false_iff_ne]; omega
        have e2 : ¬ (p.1 : Int) = (k : Int) := by omega
        have hn2 := hup.out
        rw [if_neg hf] at hn2
        have hX2 : Hid (x = t.upto k (j + 1)) := by show _ = _; rw [hn2, ← hX.out]
        clear hn2 hX hup hf
        go_wp2_with fail
        go_round
        case rel => exact ⟨j + 1, x, by omega, by go_num, rfl, hX2⟩
        case measure => simp [intOf]; omega
    · obtain rfl : j = nq := by omega
      have hX2 : Hid (x = t.all k) := by show _ = _; rw [hX.out, hnq.out, RS.upto_all]
      clear hX
      go_wp2_with fail
      go_ret
      exact ⟨by rw [hX2.out]; rfl, rfl⟩
end
end Go.Proofs.Ytmnimcdbfolhaaa

/- put, Read, Arm, New of the reference's disk. -/
namespace Go.Proofs.Ytmnimcdbfolhaaa
open Go.RowKit DK
attribute [local go_sem] alloc_drewN setCell_drewN shape_drewN
set_option maxRecDepth 100000 in
theorem Try.infoPc : ∃ i, Try.prog.info? 107 = some i ∧ i.zero = some (.agg #[.int .i64 0, .string ⟨#[]⟩]) ∧ i.size = 2 ∧ i.bytes = 24 := ⟨_, rfl, by kernel_rfl, by kernel_rfl, by kernel_rfl⟩
theorem eight_new (w : World) : (w.alloc (.cells (zeros (.string ⟨#[]⟩) 8) 9)).ownsRow w.heap.size 9 1 (.slice (ad (some w.heap.size)) 8 8) 8 (strV (eight RS.zero.lasts)) := by
  have h : strV (eight RS.zero.lasts) = (zeros (.string ⟨#[]⟩) 8).toList := rfl
  rw [h]
  exact ⟨rfl, .inr ⟨w.heap.size, 8, zeros (.string ⟨#[]⟩) 8, rfl, Nat.le_refl _, heap_alloc_new w _, Nat.le_refl _, by decide, rfl, rfl⟩⟩
section
variable {w0 w w' : World} {b : Nat} {P : Nat → Prop} {t : RS}
theorem rread_any (h : RT w0 b P w t) (hk : ROk t) (f : Int) : Calls Try.prog 73 #[dp b, .int .i64 f] w fun e w' => e = .returned (.tuple #[.string (bs (t.read f).1), .int .i64 (t.read f).2]) ∧ w = w' := by
  have K := rmay_any h f
  have K2 := fun (k : Nat) (hk8 : k < 8) => rbytes_any h hk hk8
  unfold dp at *
  clear h
  unfold RS.may at K
  unfold RS.read
  by_cases hd : t.down = true
  · rw [if_pos hd] at K ⊢
    clear hd
    replace K := Lib.hid K
    go_enter Try.func73, Try.ntmps73
    go_wp2_with (go_at_call 51; (with_reducible refine K.out.mono ?_); rintro e w1 ⟨rfl, rfl⟩)
    go_ret2
    exact ⟨rfl, rfl⟩
  · rw [if_neg hd] at K ⊢
    by_cases hn : num f = true
    · rw [if_pos hn] at K ⊢
      have g := num_iff.1 hn
      obtain ⟨k, rfl⟩ := Int.eq_ofNat_of_zero_le g.1
      have K3 := Lib.hid (K2 k (by omega))
      clear hd hn g K2
      replace K := Lib.hid K
      go_enter Try.func73, Try.ntmps73
      go_wp2_with (first | (go_at_call 51; (with_reducible refine K.out.mono ?_); rintro e w1 ⟨rfl, rfl⟩) | (go_at_call 85; (with_reducible refine K3.out.mono ?_); rintro e w1 ⟨rfl, rfl⟩))
      go_ret2
      exact ⟨rfl, rfl⟩
    · rw [if_neg hn] at K ⊢
      clear hd hn
      replace K := Lib.hid K
      go_enter Try.func73, Try.ntmps73
      go_wp2_with (go_at_call 51; (with_reducible refine K.out.mono ?_); rintro e w1 ⟨rfl, rfl⟩)
      go_ret2
      exact ⟨rfl, rfl⟩
set_option maxRecDepth 100000 in
theorem rnew_any (P : Nat → Prop) (w : World) (hb : Below w0.heap.size w0 w) (hP : ∀ k, P k → k < w.heap.size) : Calls Try.prog 26 #[] w fun e w' => e = .returned (dp (w.heap.size + 1)) ∧ RT w0 (w.heap.size + 1) P w' RS.zero ∧ Below w.heap.size w w' := by
  obtain ⟨i0, hi, hz0, hz1, hz2⟩ := info_parts (show (Try.prog.info? 9).map (fun i => (i.zero, i.size, i.bytes)) = some (some (.string ⟨#[]⟩), 1, 16) by kernel_rfl)
  have hm : ∀ wx : World, (Instr.makeSlice 22 (.int .i64 8) (.int .i64 8)).run Try.prog wx = .ok (.slice (some ⟨wx.heap.size, 0, none⟩) 8 8) (wx.alloc (.cells (zeros (.string ⟨#[]⟩) 8) 9)) := fun wx => run_make1 22 9 i0 (.string ⟨#[]⟩) Try.underlying22 hi hz0 hz1 rfl 8 8 (Nat.le_refl _) (by omega) (by omega) wx
  have hE := Lib.hid (eight_new w)
  unfold dp
  go_enter Try.func26, Try.ntmps26
  go_wp2_with (simp only [hm])
  go_ret
  obtain ⟨w1, hw1⟩ : ∃ x, x = w.alloc (.cells (zeros (.string ⟨#[]⟩) 8) 9) := ⟨_, rfl⟩
  have hz : w1.heap.size = w.heap.size + 1 := by rw [hw1]; simp
  have hb1 : Below w.heap.size w w1 := by rw [hw1]; exact below_new _ _
  have hE2 := hE.out
  rw [← hw1] at hE2
  rw [← hw1]
  clear hw1 hm hE
  have hw0 := hb.size
  obtain ⟨m0, hm0⟩ : ∃ m : Rm, m = ⟨w.heap.size, 8, none, 0, none, 0⟩ := ⟨_, rfl⟩
  have hb2 := hb1.alloc hb1.size (rdO m0 RS.zero)
  suffices h : RT w0 (w.heap.size + 1) P (w1.alloc (rdO m0 RS.zero)) RS.zero ∧ Below w.heap.size w (w1.alloc (rdO m0 RS.zero)) by rw [hm0] at h; exact ⟨rfl, h⟩
  have o1 : (w1.alloc (rdO m0 RS.zero)).heap[w.heap.size + 1]? = some (rdO m0 RS.zero) := by rw [← hz]; exact heap_alloc_new w1 _
  have o2 : ∀ k, k < w1.heap.size → (w1.alloc (rdO m0 RS.zero)).heap[k]? = w1.heap[k]? := fun k hk => Below.heap_alloc w1 _ k hk
  have o3 : (w1.alloc (rdO m0 RS.zero)).heap.size = w.heap.size + 2 := by simp [hz]
  refine ⟨⟨⟨m0, ⟨o1, ?_, ?_, ?_, ?_, ?_, ?_, ?_, by omega⟩, fun k hk q => ?_⟩, fun k hk => by have := hP k hk; omega, hb.trans (hb2.mono hb.size)⟩, hb2⟩
  · rw [hm0]
    rw [hm0] at o2
    exact row_heap (owns_low hE2 hw0) fun k e => o2 k (owns_low hE2 hw0 |>.lt k e).2
  · rw [hm0]; exact World.ownsRow_nil _ _ _ _
  · exact fun q => absurd q (by simp [RS.zero])
  · rw [hm0]; show w.heap.size ≠ w.heap.size + 1; omega
  · rw [hm0]; simp
  · rw [hm0]; simp
  · rw [hm0]; exact fun a e => by cases e
  · have := hP k hk
    rw [hm0] at q
    rcases q with q | q | q | ⟨a, q, _⟩
    · omega
    · have q : w.heap.size = k := q; omega
    · cases q
    · cases q
theorem rput_any (h : RT w0 b P w t) (hq : t.q.length ≤ 1000000) (k : Nat) (x : Bts) : Calls Try.prog 52 #[dp b, .int .i64 (k : Int), .string (bs x)] w fun e w' => e = .returned (.tuple #[]) ∧ RT w0 b P w' (t.put k x) ∧ Keep P w w' := by
  unfold dp RS.put
  obtain ⟨m, hD, hP⟩ := h.at_
  obtain ⟨_, c1, _, _, _, _, cf⟩ := rdO_cells hD.obj
  have f1 := cf 1
  clear cf
  have hem : (bs x).toList.isEmpty = x.isEmpty := by rw [ByteArray.toList_eq, bs_list]
  cases hx0 : x.isEmpty
  case true =>
    rw [hx0] at hem
    have hx1 : x = [] := List.isEmpty_iff.1 hx0
    rw [if_pos hx1]
    clear hx0 hx1 hD
    replace h := Lib.hid h
    go_enter Try.func52, Try.ntmps52
    go_wp2_with fail
    go_end0
    exact ⟨rfl, h.out, Keep.refl _ _⟩
  case false =>
    rw [hx0] at hem
    have hx1 : x ≠ [] := fun q => by rw [q] at hx0; cases hx0
    rw [if_neg hx1]
    obtain ⟨j0, hj, hz0, hz1, hz2⟩ := Try.infoPc
    have hb := hD.lt
    have hbb := h.below.size
    have nl : some b ≠ m.qA := fun e => hD.qb e.symm
    have hrow := Lib.hid hD.rq
    obtain ⟨nq, hnq⟩ : ∃ n, Hid (n = t.q.length) := ⟨_, rfl⟩
    rw [← hnq.out] at c1 hrow hq
    replace hD := Lib.hid hD
    replace h := Lib.hid h
    clear hx0 hx1
    go_enter Try.func52, Try.ntmps52
    go_wp2_with (at_builtin; refine wpList_append_any _ (by rfl) _ _ 96 (by rfl) w0.heap.size 107 j0 _ 2 24 Try.underlying96 hj hz0 hz1 hz2 rfl (by decide) _ nq _ (by rfl) (hrow.out.alloc _) (_ + 1) (some ⟨w.heap.size, 0, none⟩) 1 1 (pcC (k, x)) (by rfl) ⟨rfl, fun _ => ⟨_, rfl, Nat.lt_succ_self _, cells_at (by rfl) _ _⟩⟩ (fun u hu => by rcases List.mem_cons.1 hu with rfl | hu; rfl; obtain rfl := List.mem_singleton.1 hu; rfl) (by unfold maxLen; omega) (by omega) (by simp; omega) ?_; intro v' w3 hO3 hG3 hob3; obtain ⟨o3, cc3, hv3, _⟩ := ad_of_owns hO3; subst hv3; rw [ad_block, ad_block] at hob3; rw [ad_block] at hG3; have hG := Plan.grown_go (Plan.grown_alloc (grown_refl w m.qA) _) hG3; have y0 := (Plan.grown_cells hG b 1 hb nl).trans c1; have y1 := (World.frozen?_of_block (a := ⟨b, 1, none⟩) (hG.block b hb nl)).trans f1)
    go_end0
    have hl : (t.q ++ [(k, x)]).length = nq + 1 := by rw [List.length_append, hnq.out]; rfl
    have r := h.out.queue (c := cc3) (o := o3) (q := t.q ++ [(k, x)]) hD.out hP hG (fun g e => e) (by rw [hl, rowPc_snoc]; exact hO3) (fun g e => hob3.imp (fun q => q.symm.trans e) (fun q => by rw [q] at e; injection e with e; simp at e; omega))
    rw [hl] at r
    exact ⟨rfl, r⟩
set_option maxRecDepth 100000 in
theorem rarm_any (h : RT w0 b P w t) (n : Int) {A : Option Addr} {c : Nat} {keep : List Int} (hA : IntsAt w0 w0.heap.size A keep) (hkl : keep.length ≤ 1000000000000) :
    Calls Try.prog 62 #[dp b, .int .i64 n, .slice A keep.length c] w fun e w' => e = .returned (.tuple #[]) ∧ RT w0 b P w' (t.arm n keep) ∧ Keep P w w' := by
  unfold dp
  obtain ⟨m, hD, hP⟩ := h.at_
  obtain ⟨_, _, _, _, c4, c5, cf⟩ := rdO_cells hD.obj
  have f4 := cf 4
  have f5 := cf 5
  clear cf
  obtain ⟨i0, hi, hy0, hy1, hy2⟩ := Try.infoInt
  have hmx : max n 0 = ((n.toNat : Nat) : Int) := by omega
  have H := fun k : Nat => Lib.hid (h.word (i := 4) (v := .int .i64 (k : Int)) (t' := { t with armed := k }) hD hP (fun c e => by injection e with e; rw [← e]; rfl) rfl rfl rfl)
  unfold RS.arm
  obtain ⟨nn, hnn⟩ : ∃ x, n.toNat = x := ⟨_, rfl⟩
  rw [hnn] at hmx ⊢
  replace H := H nn
  have hlt := hD.lt
  obtain ⟨w1, hw1⟩ : ∃ W, W = w.setCell ⟨b, 4, none⟩ (.int .i64 (nn : Int)) := ⟨_, rfl⟩
  rw [← hw1] at H
  have hA1 := hA.below H.out.1.below
  obtain ⟨nk, hnk⟩ : ∃ x, Hid (x = keep.length) := ⟨_, rfl⟩
  have hr := reads_ints hA1
  rw [← hnk.out] at hr hkl ⊢
  replace hr := Lib.hid hr
  have hbb := H.out.1.below.size
  clear h hD hA hA1 hP c5 f5
  obtain ⟨m, hD, hP⟩ := H.out.1.at_
  obtain ⟨_, _, _, _, _, c5, cf⟩ := rdO_cells hD.obj
  have f5 := cf 5
  have hb1 := hD.lt
  clear cf
  have hO : (w1.alloc (.cells #[] 3)).ownsRow w1.heap.size 3 1 (.slice (some ⟨w1.heap.size, 0, none⟩) 0 0) 0 [] := World.ownsRow_made w1 #[] 0 (Nat.le_refl _) (Nat.zero_le _) rfl
  replace hO := Lib.hid hO
  replace hD := Lib.hid hD
  go_enter Try.func62, Try.ntmps62
  go_upto_region 1 with fail
  rw [← hw1]
  clear hw1
  go_wp2_with (at_builtin; refine wpList_append_any _ (by rfl) _ _ 43 (by rfl) w1.heap.size 3 i0 _ 1 8 Try.underlying43 hi hy0 hy1 hy2 rfl (by decide) _ 0 [] (by rfl) hO.out _ A nk c _ (by rfl) ((hr.out.more hbb).alloc (Nat.le_refl _) _) (fun u hu => by obtain ⟨x, _, rfl⟩ := List.mem_map.1 hu; rfl) (by unfold maxLen; omega) (by omega) (by simp) ?_; intro v' w2 hO2 hG2 hob2; have hB2 := (below_new w1 _).trans (below_own hO.out (by simp) hG2); have y0 := (hB2.cell (p := ⟨b, 5, none⟩) hb1).trans c5; have y1 := (hB2.frozen (p := ⟨b, 5, none⟩) hb1).trans f5; rw [List.nil_append, Nat.zero_add, hnk.out] at hO2; obtain ⟨A', c', e1, hA'⟩ := ints_of_owns hO2; have hl2 := hO2.lt; subst e1)
  go_end0
  have hbb1 := H.out.1.below.size
  have hk2 : ∀ a, A' = some a → w1.heap.size ≤ a.block ∧ a.block < w2.heap.size := fun a e => hl2 a.block (by rw [e]; rfl)
  have r := H.out.1.boxed (i := 5) (v := .slice A' keep.length c') (row := none) (m' := { m with kA := A', kc := c' }) (t' := { t with armed := nn, keep := keep }) hD.out hP (grown_below hB2) (fun g e => by cases e) (fun c e => by injection e with e; rw [← e]; rfl)
    (row_below hD.out.rl hB2) (row_below hD.out.rq hB2) hA' (.inl rfl) (fun k q => .inl q) (fun a e => ⟨.inr (hk2 a e).1, (hk2 a e).2⟩) hD.out.gq (fun a e => ⟨fun q => by have q : a.block = m.gA := q; have := hD.out.glt.2; have := (hk2 a e).1; omega, fun q => by have := (hD.out.qlt q).2; have := (hk2 a e).1; omega⟩)
  exact ⟨rfl, r.1, H.out.2.trans r.2⟩
end
end Go.Proofs.Ytmnimcdbfolhaaa

/- without, after, Crash of the reference's disk. -/
namespace Go.Proofs.Ytmnimcdbfolhaaa
open Go.RowKit DK
attribute [local go_sem] alloc_drewN setCell_drewN shape_drewN
section
variable {w0 w w' : World} {b : Nat} {P : Nat → Prop} {t : RS}
def wo (f : Nat) (q : List (Nat × Bts)) : List (Nat × Bts) := q.filter fun p => !decide (p.1 = f)
theorem wo_snoc (f : Nat) (q : List (Nat × Bts)) (p : Nat × Bts) : wo f (q ++ [p]) = if p.1 = f then wo f q else wo f q ++ [p] := by
  unfold wo
  rw [List.filter_append]
  by_cases h : p.1 = f <;> simp [h]
theorem wo_len (f : Nat) (q : List (Nat × Bts)) : (wo f q).length ≤ q.length := List.length_filter_le _ _
set_option maxRecDepth 100000 in
set_option maxHeartbeats 4000000 in
theorem rwithout_any (h : RT w0 b P w t) (hql : t.q.length ≤ 1000000) (k : Nat) : Calls Try.prog 87 #[dp b, .int .i64 (k : Int)] w fun e w' => ∃ o c, e = .returned (.slice (ad o) (wo k t.q).length c) ∧
    w'.ownsRow w.heap.size 107 2 (.slice (ad o) (wo k t.q).length c) (wo k t.q).length (rowPc (wo k t.q)) ∧ Below w.heap.size w w' := by
  unfold dp
  obtain ⟨m, hD, hP⟩ := h.at_
  obtain ⟨j0, hj, hz0, hz1, hz2⟩ := Try.infoPc
  obtain ⟨nq, hnq⟩ : ∃ n, Hid (n = t.q.length) := ⟨_, rfl⟩
  rw [← hnq.out] at hql
  replace hD := Lib.hid hD
  clear h
  go_enter Try.func87, Try.ntmps87
  go_wp2_with fail
  go_loopw [5, 6] (fun u5 u6 wr => ∃ (j : Nat) (o : Option Nat) (c n : Nat), j ≤ nq ∧ u6 = .int .i64 j ∧ u5 = .slice (ad o) n c ∧ n ≤ j ∧ Hid (n = (wo k (t.q.take j)).length) ∧ Hid (wr.ownsRow w.heap.size 107 2 (.slice (ad o) n c) n (rowPc (wo k (t.q.take j)))) ∧ Hid (Below w.heap.size w wr)) (fun _ u6 _ => nq - (intOf u6).toNat)
  case atStart => exact ⟨0, none, 0, 0, Nat.zero_le _, rfl, rfl, Nat.le_refl _, by show _ = _; simp [wo], World.ownsRow_nil _ _ _ _, Below.refl _ _⟩
  case round =>
    obtain ⟨j, o, c, n, hjn, rfl, rfl, hnj, hn, hO, hB⟩ := hrel
    have hD2 := hD.out.keep hB.out.size fun g hg _ => hB.out.block g hg
    obtain ⟨_, c1, _⟩ := rdO_cells hD2.obj
    rw [← hnq.out] at c1
    by_cases hlt : j < nq
    · obtain ⟨p, hpj⟩ : ∃ p, t.q[j]? = some p := ⟨_, List.getElem?_eq_getElem (by have := hnq.out; omega)⟩
      obtain ⟨gg, hgg, hg, p0, p1⟩ := hD2.piece hpj
      have hki : (0 : Int) ≤ (j : Int) ∧ (j : Int) < (nq : Int) := by omega
      have hup : wo k (t.q.take (j + 1)) = if p.1 = k then wo k (t.q.take j) else wo k (t.q.take j) ++ [p] := by rw [List.take_add_one, hpj, Option.toList_some, wo_snoc]
      rw [hgg, show ad (some gg) = some ⟨gg, 0, none⟩ from rfl] at c1
      clear hgg hD2
      have hwz := hB.out.size
      by_cases hf : p.1 = k
      · have e1 : ((p.1 : Int) == (k : Int)) = true := by rw [beq_iff_eq]; omega
        have e2 : (p.1 : Int) = (k : Int) := by omega
        rw [if_pos hf] at hup
        rw [← hup] at hn hO
        replace hup := Lib.hid hup
        clear hf
        go_wp2_with fail
        go_roundw
        case rel => exact ⟨j + 1, o, c, n, by omega, by go_num, rfl, by omega, hn, hO, hB⟩
        case measure => simp [intOf]; omega
      · have e1 : ((p.1 : Int) == (k : Int)) = false := by rw [beq_eq_false_iff_ne]; omega
        have e2 : ¬ (p.1 : Int) = (k : Int) := by omega
        rw [if_neg hf] at hup
        replace hup := Lib.hid hup
        clear hf
        go_wp2_with (at_builtin; refine wpList_append_any _ (by rfl) _ _ 96 (by rfl) w.heap.size 107 j0 _ 2 24 Try.underlying96 hj hz0 hz1 hz2 rfl (by decide) _ n _ (by rfl) (hO.out.alloc _) (_ + 1) (some ⟨wr.heap.size, 0, none⟩) 1 1 (pcC p) (by rfl) ⟨rfl, fun _ => ⟨_, rfl, Nat.lt_succ_self _, cells_at (by rfl) _ _⟩⟩ (fun u hu => by rcases List.mem_cons.1 hu with rfl | hu; rfl; obtain rfl := List.mem_singleton.1 hu; rfl) (by unfold maxLen; omega) (by omega) (by simp; omega) ?_; intro v' w3 hO3 hG3 hob3; obtain ⟨o3, cc3, hv3, _⟩ := ad_of_owns hO3; subst hv3)
        go_roundw
        case rel => exact ⟨j + 1, o3, cc3, n + 1, by omega, by go_num, rfl, by omega, by show _ = _; rw [hup.out, List.length_append, ← hn.out]; rfl, by show World.ownsRow _ _ _ _ _ _ _; rw [hup.out, rowPc_snoc]; exact hO3, hB.out.trans ((below_app hO.out hwz hG3).mono (Nat.le_refl _))⟩
        case measure => simp [intOf]; omega
    · obtain rfl : j = nq := by omega
      rw [hnq.out, List.take_length] at hn hO
      rw [hn.out] at hO ⊢
      clear hD2
      go_wp2_with fail
      go_ret
      exact ⟨o, c, rfl, hO.out, hB.out⟩
end
end Go.Proofs.Ytmnimcdbfolhaaa

/- after of the reference's disk. -/
namespace Go.Proofs.Ytmnimcdbfolhaaa
open Go.RowKit DK
attribute [local go_sem] alloc_drewN setCell_drewN shape_drewN
section
variable {w0 w w' : World} {b : Nat} {P : Nat → Prop} {t : RS}
theorem aft_next {keep : List Int} {f j x : Nat} {q : List (Nat × Bts)} {p : Nat × Bts} {s : Bts} (h : q[j]? = some p) : RS.aft keep f j (q.drop j) s x = if p.1 = f then
      (if 0 < RS.kept keep j p.2.length then RS.aft keep f (j + 1) (q.drop (j + 1)) (s ++ List.replicate x 0 ++ p.2.take (RS.kept keep j p.2.length)) (p.2.length - RS.kept keep j p.2.length) else RS.aft keep f (j + 1) (q.drop (j + 1)) s (x + p.2.length))
    else RS.aft keep f (j + 1) (q.drop (j + 1)) s x := by
  have hlt := (List.getElem?_eq_some_iff.1 h).1
  have e : q.drop j = p :: q.drop (j + 1) := by rw [List.drop_eq_getElem_cons hlt, (List.getElem?_eq_some_iff.1 h).2]
  conv => lhs; rw [e]
  rfl
set_option maxRecDepth 100000 in
set_option maxHeartbeats 16000000 in
theorem rafter_any (h : RT w0 b P w t) (hk : ROk t) {k : Nat} (hk8 : k < 8) {A : Option Addr} {c : Nat} {keep : List Int} (hA : IntsAt w w.heap.size A keep) (hkl : keep.length ≤ 9223372036854775807) :
    Calls Try.prog 78 #[dp b, .int .i64 (k : Int), .slice A keep.length c] w fun e w' => e = .returned (.string (bs (RS.aft keep k 0 t.q (t.lasts k) 0))) ∧ Below w.heap.size w w' := by
  unfold dp
  obtain ⟨m, hD, hP⟩ := h.at_
  have hql := hk.q
  have g3 : (0 : Int) ≤ (k : Int) ∧ (k : Int) < 8 := by omega
  obtain ⟨j0, hj, hu0, hu1, hu2⟩ := Try.infoU8
  obtain ⟨c0, _⟩ := rdO_cells hD.obj
  have l0 := (hD.last hk8).1
  have hlen := hk.len k hk8
  obtain ⟨nq, hnq⟩ : ∃ n, Hid (n = t.q.length) := ⟨_, rfl⟩
  rw [← hnq.out] at hql
  obtain ⟨nk, hnk⟩ : ∃ n, Hid (n = keep.length) := ⟨_, rfl⟩
  rw [← hnk.out] at hkl ⊢
  rw [show ad (some m.gA) = some ⟨m.gA, 0, none⟩ from rfl] at c0
  have hup0 := t.upto_le k (k := 0) (Nat.zero_le _)
  rw [RS.upto_zero] at hup0
  replace hup0 := Lib.hid hup0
  replace hD := Lib.hid hD
  replace hA := Lib.hid hA
  clear h
  go_enter Try.func78, Try.ntmps78
  go_wp2_with fail
  go_loopw [7, 8, 9] (fun u7 u8 u9 wr => ∃ (j : Nat) (x : Bts) (g : Nat) (o : Option Nat) (c : Nat), j ≤ nq ∧ u9 = .int .i64 j ∧ u7 = .string (bs x) ∧ u8 = .slice (ad o) g c ∧ Hid (RS.aft keep k 0 t.q (t.lasts k) 0 = RS.aft keep k j (t.q.drop j) x g) ∧ x.length + g ≤ (t.upto k j).length ∧ Hid (wr.ownsRow w.heap.size 5 1 (.slice (ad o) g c) g (bytesV (List.replicate g 0))) ∧ Hid (Below w.heap.size w wr)) (fun _ _ u9 _ => nq - (intOf u9).toNat)
  case atStart => exact ⟨0, t.lasts k, 0, none, 0, Nat.zero_le _, rfl, rfl, rfl, rfl, by rw [RS.upto_zero]; omega, World.ownsRow_nil _ _ _ _, Below.refl _ _⟩
  case round =>
    obtain ⟨j, x, g, o, c, hjn, rfl, rfl, rfl, hF, hxg, hO, hB⟩ := hrel
    clear c0 l0
    have hD2 := hD.out.keep hB.out.size fun g hg _ => hB.out.block g hg
    obtain ⟨_, c1, _⟩ := rdO_cells hD2.obj
    rw [← hnq.out] at c1
    have hwz := hB.out.size
    by_cases hlt : j < nq
    case neg =>
      obtain rfl : j = nq := by omega
      have hF2 : Hid (RS.aft keep k 0 t.q (t.lasts k) 0 = x) := by show _ = _; rw [hF.out, hnq.out, List.drop_length]; rfl
      clear hD2 hxg hF
      go_wp2_with fail
      go_ret
      exact ⟨by rw [hF2.out]; rfl, hB.out⟩
    case pos =>
    obtain ⟨p, hpj⟩ : ∃ p, t.q[j]? = some p := ⟨_, List.getElem?_eq_getElem (by have := hnq.out; omega)⟩
    obtain ⟨gg, hgg, hg, p0, p1⟩ := hD2.piece hpj
    have hki : (0 : Int) ≤ (j : Int) ∧ (j : Int) < (nq : Int) := by omega
    have hup := RS.upto_next (f := k) hpj
    have hle := t.upto_le k (k := j + 1) (by have := hnq.out; omega)
    have hnx := (aft_next (keep := keep) (f := k) (x := g) (s := x) hpj)
    rw [hgg, show ad (some gg) = some ⟨gg, 0, none⟩ from rfl] at c1
    have hB1 := Lib.hid (hB.out.alloc hwz (.cells #[.int .i64 p.1, .string (bs p.2)] 107))
    have hO1 := Lib.hid (hO.out.alloc (.cells #[.int .i64 p.1, .string (bs p.2)] 107))
    clear hgg hD2
    by_cases hf : p.1 = k
    case neg =>
      have e1 : ((p.1 : Int) == (k : Int)) = false := by rw [beq_eq_false_iff_ne]; omega
      have e2 : ¬ (p.1 : Int) = (k : Int) := by omega
      rw [if_neg hf] at hup hnx
      have hF2 : Hid (RS.aft keep k 0 t.q (t.lasts k) 0 = RS.aft keep k (j + 1) (t.q.drop (j + 1)) x g) := hF.out.trans hnx
      rw [← hup] at hxg
      clear hF hnx hup hf hpj hle
      go_wp2_with fail
      go_roundw
      case rel => exact ⟨j + 1, x, g, o, c, by omega, by go_num, rfl, rfl, hF2, hxg, hO1, hB1⟩
      case measure => simp [intOf]; omega
    case pos =>
    have e1 : ((p.1 : Int) == (k : Int)) = true := by rw [beq_iff_eq]; omega
    have e2 : (p.1 : Int) = (k : Int) := by omega
    rw [e2] at hB1 hO1
    rw [if_pos hf] at hup hnx
    obtain ⟨L, hL⟩ : ∃ L, p.2.length = L := ⟨_, rfl⟩
    obtain ⟨kp, hkpe⟩ : ∃ kp, RS.kept keep j p.2.length = kp := ⟨_, rfl⟩
    have z1 := bs_size p.2
    rw [hL] at z1
    rw [hkpe, hL] at hnx
    have hkp : kp ≤ L := by rw [← hkpe, ← hL]; unfold RS.kept; split <;> omega
    have hxl : x.length + g + L ≤ (t.upto k (j + 1)).length := by rw [hup, List.length_append, hL]; omega
    have hF2 : Hid (RS.aft keep k 0 t.q (t.lasts k) 0 = if 0 < kp then RS.aft keep k (j + 1) (t.q.drop (j + 1)) (x ++ List.replicate g 0 ++ p.2.take kp) (L - kp) else RS.aft keep k (j + 1) (t.q.drop (j + 1)) x (g + L)) := hF.out.trans hnx
    clear hF hnx hup hf hpj hxg
    by_cases hkj : j < nk
    case neg =>
      have h0 : kp = 0 := by rw [← hkpe]; unfold RS.kept; rw [List.getElem?_eq_none (by have := hnk.out; omega)]
      have e3 : ¬ (j : Int) < (nk : Int) := by omega
      have hA2 : RS.aft keep k 0 t.q (t.lasts k) 0 = RS.aft keep k (j + 1) (t.q.drop (j + 1)) x (g + (L - 0)) := by rw [hF2.out, h0]; rfl
      replace hA2 := Lib.hid hA2
      clear hF2 hkpe h0
      go_wp2_with fail
      go_loopw [8, 12] (fun u8 u12 wi => ∃ (i gg2 : Nat) (o2 : Option Nat) (c2 : Nat), 0 ≤ i ∧ i ≤ L ∧ u12 = .int .i64 i ∧ u8 = .slice (ad o2) gg2 c2 ∧ Hid (gg2 = g + (i - 0)) ∧ Hid (wi.ownsRow w.heap.size 5 1 (.slice (ad o2) gg2 c2) gg2 (bytesV (List.replicate gg2 0))) ∧ Hid (Below w.heap.size w wi) ∧ wi.cell? ⟨wr.heap.size, 1, none⟩ = some (.string (bs p.2)) ∧ o2 ≠ some wr.heap.size ∧ wr.heap.size < wi.heap.size) (fun _ u12 _ => L - (intOf u12).toNat)
      case atStart => exact ⟨0, g, o, c, Nat.le_refl _, Nat.zero_le _, rfl, rfl, by show _ = _; omega, hO1, hB1, by go_simp, by intro q; have := hO.out.lt _ (by rw [ad_block]; exact q); omega, by simp⟩
      case round =>
        obtain ⟨i, gg2, o2, c2, hi1, hi2, rfl, rfl, hg2, hO2, hB2, hp2, hne2, hz2⟩ := hrel
        have hwz2 := hB2.out.size
        by_cases hil : i < L
        · have e4 : (i : Int) < (L : Int) := by omega
          go_wp2_with (at_builtin; refine wpList_append_any _ (by rfl) _ _ 69 (by rfl) w.heap.size 5 j0 _ 1 1 Try.underlying69 hj hu0 hu1 hu2 rfl (by decide) _ gg2 _ (by rfl) (hO2.out.alloc _) (_ + 1) (some ⟨_, 0, none⟩) 1 1 [.int .u8 0] (by rfl) ⟨rfl, fun _ => ⟨_, rfl, Nat.lt_succ_self _, cells_at (by rfl) _ _⟩⟩ (fun u hu => by obtain rfl := List.mem_singleton.1 hu; rfl) (by have := hg2.out; unfold maxLen; omega) (by have := hg2.out; omega) (by simp; omega) ?_; intro v' w3 hO3 hG3 hob3; obtain ⟨o3, cc3, hv3, _⟩ := ad_of_owns hO3; subst hv3; rw [ad_block, ad_block] at hob3)
          go_roundw
          case rel =>
            rw [ad_block] at hG3
            have hGG := Plan.grown_go (Plan.grown_alloc (grown_refl wr o2) _) hG3
            refine ⟨i + 1, gg2 + 1, o3, cc3, by omega, by omega, by go_num, rfl, by show _ = _; have := hg2.out; omega, ?_, hB2.out.trans ((below_app hO2.out hwz2 (by rw [ad_block]; exact hG3)).mono (Nat.le_refl _)), (Plan.grown_cells hGG _ 1 hz2 (Ne.symm hne2)).trans hp2, fun q => ?_, Nat.lt_of_lt_of_le hz2 hGG.size⟩
            · show World.ownsRow _ _ _ _ _ _ _
              rw [show List.replicate (gg2 + 1) (0 : UInt8) = List.replicate gg2 0 ++ [0] from List.replicate_succ', bytesV_app]
              exact hO3
            · rcases hob3 with r | r
              · exact hne2 (r.symm.trans q)
              · rw [r] at q; injection q with q; simp at q; omega
          case measure => simp [intOf]; omega
        · have e4 : ¬ (i : Int) < (L : Int) := by omega
          obtain rfl : i = L := by omega
          go_wp2_with fail
          go_roundw
          case rel => exact ⟨j + 1, x, gg2, o2, c2, by omega, by go_num, rfl, rfl, by rw [hg2.out]; exact hA2.out, by rw [hg2.out]; omega, hO2, hB2⟩
          case measure => simp [intOf]; omega
    case pos =>
    obtain ⟨ke, hke⟩ : ∃ ke, keep[j]? = some ke := ⟨_, List.getElem?_eq_getElem (by have := hnk.out; omega)⟩
    obtain ⟨kb, koff, rfl, hkb, hkc⟩ := hA.out.at_ hke
    have hkc2 : wr.cell? ⟨kb, koff + j, none⟩ = some (.int .i64 ke) := (hB.out.cell (p := ⟨kb, koff + j, none⟩) hkb).trans hkc
    have hkb2 : kb < wr.heap.size := by omega
    have hmn : min (max ke 0) (L : Int) = (kp : Int) := by
      have hh := hkpe
      unfold RS.kept at hh
      rw [hke, hL] at hh
      dsimp only at hh
      omega
    have e3 : (j : Int) < (nk : Int) := by omega
    have e5 : (0 : Int) ≤ (j : Int) ∧ (j : Int) < (nk : Int) := by omega
    by_cases h0 : 0 < kp
    case neg =>
      obtain rfl : kp = 0 := by omega
      have hA2 : RS.aft keep k 0 t.q (t.lasts k) 0 = RS.aft keep k (j + 1) (t.q.drop (j + 1)) x (g + (L - 0)) := by rw [hF2.out]; rfl
      replace hA2 := Lib.hid hA2
      clear hF2 hkpe h0 hke
      go_upto_region 10 with fail
      obtain ⟨wd, hwd⟩ : ∃ W, W = wr.alloc (.cells #[.int .i64 k, .string (bs p.2)] 107) := ⟨_, rfl⟩
      have d1 : wd.cell? ⟨wr.heap.size, 1, none⟩ = some (.string (bs p.2)) := by rw [hwd, World.cell?_alloc_new]; rfl
      have d2 : wd.cell? ⟨kb, koff + j, none⟩ = some (.int .i64 ke) := by rw [hwd]; exact (World.cell?_alloc_lt wr _ ⟨kb, koff + j, none⟩ hkb2).trans hkc2
      have d3 : kb < wd.heap.size := by rw [hwd]; simp; omega
      have d4 : wr.heap.size < wd.heap.size := by rw [hwd]; simp
      rw [← hwd] at hB1 hO1 ⊢
      clear hwd
      refine Plan.wp_region_tree (.rd 0 (.rd 1 (.rd 2 (.rd 3 (.rd 4 (.rd 5 (.rd 6 (.rd 7 (.rd 8 (.rd 9 .done)))))))))) (by kernel_rfl) (by kernel_rfl) ?_
      (repeat (first | (refine Plan.tree_read (v := ?_) rfl rfl ?_ ?_; rotate_left; (focus ((intro wS hSw; have hkS := (bcell hSw).1; go_simp); try with_reducible rfl)); simp only [Act.put, List.setIfInBounds_toArray, List.set_cons_zero, List.set_cons_succ]) | (refine Plan.tree_skip rfl rfl ?_; simp only [Act.put, List.setIfInBounds_toArray, List.set_cons_zero, List.set_cons_succ])))
      refine Plan.tree_done ?_
      replace hO1 := Lib.hid (show wd.drew.ownsRow w.heap.size 5 1 (.slice (ad o) g c) g (bytesV (List.replicate g 0)) from hO1.out)
      replace hB1 := Lib.hid hB1.out.drew
      have d1 : wd.drew.cell? ⟨wr.heap.size, 1, none⟩ = some (.string (bs p.2)) := d1
      have d4 : wr.heap.size < wd.drew.heap.size := d4
      obtain ⟨wd, hwd⟩ : ∃ W, W = wd.drew := ⟨_, rfl⟩
      rw [← hwd] at hB1 hO1 d1 d4 ⊢
      clear hwd
      go_wp2_with fail
      go_loopw [8, 12] (fun u8 u12 wi => ∃ (i gg2 : Nat) (o2 : Option Nat) (c2 : Nat), 0 ≤ i ∧ i ≤ L ∧ u12 = .int .i64 i ∧ u8 = .slice (ad o2) gg2 c2 ∧ Hid (gg2 = g + (i - 0)) ∧ Hid (wi.ownsRow w.heap.size 5 1 (.slice (ad o2) gg2 c2) gg2 (bytesV (List.replicate gg2 0))) ∧ Hid (Below w.heap.size w wi) ∧ wi.cell? ⟨wr.heap.size, 1, none⟩ = some (.string (bs p.2)) ∧ o2 ≠ some wr.heap.size ∧ wr.heap.size < wi.heap.size) (fun _ u12 _ => L - (intOf u12).toNat)
      case atStart => exact ⟨0, g, o, c, Nat.le_refl _, Nat.zero_le _, rfl, rfl, by show _ = _; omega, hO1, hB1, d1, by intro q; have := hO.out.lt _ (by rw [ad_block]; exact q); omega, d4⟩
      case round =>
        obtain ⟨i, gg2, o2, c2, hi1, hi2, rfl, rfl, hg2, hO2, hB2, hp2, hne2, hz2⟩ := hrel
        have hwz2 := hB2.out.size
        by_cases hil : i < L
        · have e4 : (i : Int) < (L : Int) := by omega
          go_wp2_with (at_builtin; refine wpList_append_any _ (by rfl) _ _ 69 (by rfl) w.heap.size 5 j0 _ 1 1 Try.underlying69 hj hu0 hu1 hu2 rfl (by decide) _ gg2 _ (by rfl) (hO2.out.alloc _) (_ + 1) (some ⟨_, 0, none⟩) 1 1 [.int .u8 0] (by rfl) ⟨rfl, fun _ => ⟨_, rfl, Nat.lt_succ_self _, cells_at (by rfl) _ _⟩⟩ (fun u hu => by obtain rfl := List.mem_singleton.1 hu; rfl) (by have := hg2.out; unfold maxLen; omega) (by have := hg2.out; omega) (by simp; omega) ?_; intro v' w3 hO3 hG3 hob3; obtain ⟨o3, cc3, hv3, _⟩ := ad_of_owns hO3; subst hv3; rw [ad_block, ad_block] at hob3)
          go_roundw
          case rel =>
            rw [ad_block] at hG3
            have hGG := Plan.grown_go (Plan.grown_alloc (grown_refl wr o2) _) hG3
            refine ⟨i + 1, gg2 + 1, o3, cc3, by omega, by omega, by go_num, rfl, by show _ = _; have := hg2.out; omega, ?_, hB2.out.trans ((below_app hO2.out hwz2 (by rw [ad_block]; exact hG3)).mono (Nat.le_refl _)), (Plan.grown_cells hGG _ 1 hz2 (Ne.symm hne2)).trans hp2, fun q => ?_, Nat.lt_of_lt_of_le hz2 hGG.size⟩
            · show World.ownsRow _ _ _ _ _ _ _
              rw [show List.replicate (gg2 + 1) (0 : UInt8) = List.replicate gg2 0 ++ [0] from List.replicate_succ', bytesV_app]
              exact hO3
            · rcases hob3 with r | r
              · exact hne2 (r.symm.trans q)
              · rw [r] at q; injection q with q; simp at q; omega
          case measure => simp [intOf]; omega
        · have e4 : ¬ (i : Int) < (L : Int) := by omega
          obtain rfl : i = L := by omega
          go_wp2_with fail
          go_roundw
          case rel => exact ⟨j + 1, x, gg2, o2, c2, by omega, by go_num, rfl, rfl, by rw [hg2.out]; exact hA2.out, by rw [hg2.out]; omega, hO2, hB2⟩
          case measure => simp [intOf]; omega
    case pos =>
      have e6 : (0 : Int) < (kp : Int) := by omega
      rw [if_pos h0] at hF2
      have hA2 : Hid (RS.aft keep k 0 t.q (t.lasts k) 0 = RS.aft keep k (j + 1) (t.q.drop (j + 1)) (x ++ List.replicate g 0 ++ p.2.take kp) (0 + (L - kp))) := by show _ = _; rw [Nat.zero_add]; exact hF2.out
      obtain ⟨Z, hZ⟩ : ∃ Z, Hid (List.replicate g (0 : UInt8) = Z) := ⟨_, rfl⟩
      obtain ⟨Y, hY⟩ : ∃ Y, Hid (p.2.take kp = Y) := ⟨_, rfl⟩
      obtain ⟨S1, hS1⟩ : ∃ Y, Hid (x ++ Z = Y) := ⟨_, rfl⟩
      obtain ⟨S2, hS2⟩ : ∃ W, Hid (S1 ++ Y = W) := ⟨_, rfl⟩
      have hlZ : Z.length = g := by rw [← hZ.out, List.length_replicate]
      have hlY : Y.length = kp := by rw [← hY.out, List.length_take, hL, Nat.min_eq_left hkp]
      have hl1 : S1.length = x.length + g := by rw [← hS1.out, List.length_append, hlZ]
      have hl2 : S2.length = x.length + g + kp := by rw [← hS2.out, List.length_append, hl1, hlY]
      have b1 : bs x ++ bs Z = bs S1 := by rw [bs_app, hS1.out]
      have b2 : bs S1 ++ bs Y = bs S2 := by rw [bs_app, hS2.out]
      have b3 := bs_cut p.2 0 kp (by omega)
      rw [List.drop_zero, hY.out] at b3
      have z3 := bs_size x
      have z4 := bs_size S1
      have z5 := bs_size Z
      have z6 := bs_size Y
      rw [hlZ] at z5
      rw [hlY] at z6
      rw [hl1] at z4
      have v1 : ¬ 9223372036854775807 < x.length + g := by omega
      have v2 : ¬ 9223372036854775807 < x.length + g + kp := by omega
      rw [hZ.out, hS1.out, hY.out, hS2.out] at hA2
      have e7 : (0 : Int) ≤ (kp : Int) ∧ (kp : Int) ≤ (L : Int) := by omega
      clear hF2 hkpe hke
      go_upto_region 10 with fail
      obtain ⟨wd, hwd⟩ : ∃ W, W = wr.alloc (.cells #[.int .i64 k, .string (bs p.2)] 107) := ⟨_, rfl⟩
      have d1 : wd.cell? ⟨wr.heap.size, 1, none⟩ = some (.string (bs p.2)) := by rw [hwd, World.cell?_alloc_new]; rfl
      have d2 : wd.cell? ⟨kb, koff + j, none⟩ = some (.int .i64 ke) := by rw [hwd]; exact (World.cell?_alloc_lt wr _ ⟨kb, koff + j, none⟩ hkb2).trans hkc2
      have d3 : kb < wd.heap.size := by rw [hwd]; simp; omega
      have d4 : wr.heap.size < wd.heap.size := by rw [hwd]; simp
      rw [← hwd] at hB1 hO1 ⊢
      clear hwd
      refine Plan.wp_region_tree (.rd 0 (.rd 1 (.rd 2 (.rd 3 (.rd 4 (.rd 5 (.rd 6 (.rd 7 (.rd 8 (.rd 9 .done)))))))))) (by kernel_rfl) (by kernel_rfl) ?_
      (repeat (first | (refine Plan.tree_read (v := ?_) rfl rfl ?_ ?_; rotate_left; (focus ((intro wS hSw; have hkS := (bcell hSw).1; go_simp); try with_reducible rfl)); simp only [Act.put, List.setIfInBounds_toArray, List.set_cons_zero, List.set_cons_succ]) | (refine Plan.tree_skip rfl rfl ?_; simp only [Act.put, List.setIfInBounds_toArray, List.set_cons_zero, List.set_cons_succ])))
      refine Plan.tree_done ?_
      replace hO1 := Lib.hid (show wd.drew.ownsRow w.heap.size 5 1 (.slice (ad o) g c) g (bytesV (List.replicate g 0)) from hO1.out)
      replace hB1 := Lib.hid hB1.out.drew
      have d1 : wd.drew.cell? ⟨wr.heap.size, 1, none⟩ = some (.string (bs p.2)) := d1
      have d4 : wr.heap.size < wd.drew.heap.size := d4
      obtain ⟨wd, hwd⟩ : ∃ W, W = wd.drew := ⟨_, rfl⟩
      rw [← hwd] at hB1 hO1 d1 d4 ⊢
      clear hwd
      go_upto_region 12 with fail
      have hcv2 : ∀ wS : World, Below wd.heap.size wd wS → (convert 69 9 (.slice (ad o) g c)).run Try.prog wS = .ok (.string (bs Z)) wS := fun wS hS => by
        have := conv_own (w := wS) (x := Z) (o := o) (c := c) (by rw [hlZ, ← hZ.out]; exact row_below hO1.out hS)
        rw [hlZ] at this; exact this
      refine Plan.wp_region_tree (.rd 0 (.rd 1 (.rd 2 (.rd 3 (.rd 4 (.rd 5 (.rd 6 (.rd 7 (.rd 8 (.rd 9 .done)))))))))) (by kernel_rfl) (by kernel_rfl) ?_
      (repeat (first | (refine Plan.tree_read (v := ?_) rfl rfl ?_ ?_; rotate_left; (focus ((intro wS hSw; have hkS := (bcell hSw).1; have hcS := hcv2 wS hSw; go_simp); try with_reducible rfl)); simp only [Act.put, List.setIfInBounds_toArray, List.set_cons_zero, List.set_cons_succ]) | (refine Plan.tree_skip rfl rfl ?_; simp only [Act.put, List.setIfInBounds_toArray, List.set_cons_zero, List.set_cons_succ])))
      refine Plan.tree_done ?_
      clear hcv2
      replace hB1 := Lib.hid hB1.out.drew
      have d1 : wd.drew.cell? ⟨wr.heap.size, 1, none⟩ = some (.string (bs p.2)) := d1
      have d4 : wr.heap.size < wd.drew.heap.size := d4
      obtain ⟨wd, hwd⟩ : ∃ W, W = wd.drew := ⟨_, rfl⟩
      rw [← hwd] at hB1 d1 d4 ⊢
      clear hwd
      go_wp2_with fail
      go_loopw [8, 12] (fun u8 u12 wi => ∃ (i gg2 : Nat) (o2 : Option Nat) (c2 : Nat), kp ≤ i ∧ i ≤ L ∧ u12 = .int .i64 i ∧ u8 = .slice (ad o2) gg2 c2 ∧ Hid (gg2 = 0 + (i - kp)) ∧ Hid (wi.ownsRow w.heap.size 5 1 (.slice (ad o2) gg2 c2) gg2 (bytesV (List.replicate gg2 0))) ∧ Hid (Below w.heap.size w wi) ∧ wi.cell? ⟨wr.heap.size, 1, none⟩ = some (.string (bs p.2)) ∧ o2 ≠ some wr.heap.size ∧ wr.heap.size < wi.heap.size) (fun _ u12 _ => L - (intOf u12).toNat)
      case atStart => exact ⟨kp, 0, none, 0, Nat.le_refl _, hkp, rfl, rfl, by show _ = _; omega, World.ownsRow_nil _ _ _ _, hB1, d1, by simp, d4⟩
      case round =>
        obtain ⟨i, gg2, o2, c2, hi1, hi2, rfl, rfl, hg2, hO2, hB2, hp2, hne2, hz2⟩ := hrel
        have hwz2 := hB2.out.size
        by_cases hil : i < L
        · have e4 : (i : Int) < (L : Int) := by omega
          go_wp2_with (at_builtin; refine wpList_append_any _ (by rfl) _ _ 69 (by rfl) w.heap.size 5 j0 _ 1 1 Try.underlying69 hj hu0 hu1 hu2 rfl (by decide) _ gg2 _ (by rfl) (hO2.out.alloc _) (_ + 1) (some ⟨_, 0, none⟩) 1 1 [.int .u8 0] (by rfl) ⟨rfl, fun _ => ⟨_, rfl, Nat.lt_succ_self _, cells_at (by rfl) _ _⟩⟩ (fun u hu => by obtain rfl := List.mem_singleton.1 hu; rfl) (by have := hg2.out; unfold maxLen; omega) (by have := hg2.out; omega) (by simp; omega) ?_; intro v' w3 hO3 hG3 hob3; obtain ⟨o3, cc3, hv3, _⟩ := ad_of_owns hO3; subst hv3; rw [ad_block, ad_block] at hob3)
          go_roundw
          case rel =>
            rw [ad_block] at hG3
            have hGG := Plan.grown_go (Plan.grown_alloc (grown_refl wr o2) _) hG3
            refine ⟨i + 1, gg2 + 1, o3, cc3, by omega, by omega, by go_num, rfl, by show _ = _; have := hg2.out; omega, ?_, hB2.out.trans ((below_app hO2.out hwz2 (by rw [ad_block]; exact hG3)).mono (Nat.le_refl _)), (Plan.grown_cells hGG _ 1 hz2 (Ne.symm hne2)).trans hp2, fun q => ?_, Nat.lt_of_lt_of_le hz2 hGG.size⟩
            · show World.ownsRow _ _ _ _ _ _ _
              rw [show List.replicate (gg2 + 1) (0 : UInt8) = List.replicate gg2 0 ++ [0] from List.replicate_succ', bytesV_app]
              exact hO3
            · rcases hob3 with r | r
              · exact hne2 (r.symm.trans q)
              · rw [r] at q; injection q with q; simp at q; omega
          case measure => simp [intOf]; omega
        · have e4 : ¬ (i : Int) < (L : Int) := by omega
          obtain rfl : i = L := by omega
          go_wp2_with fail
          go_roundw
          case rel => exact ⟨j + 1, S2, gg2, o2, c2, by omega, by go_num, rfl, rfl, by rw [hg2.out]; exact hA2.out, by rw [hg2.out, hl2]; omega, hO2, hB2⟩
          case measure => simp [intOf]; omega
end
end Go.Proofs.Ytmnimcdbfolhaaa

