/- Joined of: RW5 RW6 RW7 RW8 RW9. -/
import Derived.Test.YtmnimcdbfolhaaaG03
/- Crash, comes of the reference's disk. -/
set_option linter.unusedSimpArgs false
set_option linter.unusedVariables false
namespace Go.Proofs.Ytmnimcdbfolhaaa
open Go.RowKit DK
attribute [local go_sem] alloc_drewN setCell_drewN shape_drewN
section
variable {w0 w w' : World} {b : Nat} {P : Nat → Prop} {t : RS}
def aftL (keep : List Int) (t : RS) (j : Nat) : List Bts := (List.range j).map fun f => RS.aft keep f 0 t.q (t.lasts f) 0
theorem aftL_next (keep : List Int) (t : RS) (j : Nat) : strV (aftL keep t (j + 1)) = strV (aftL keep t j) ++ [.string (bs (RS.aft keep j 0 t.q (t.lasts j) 0))] := by
  unfold aftL strV
  rw [List.range_succ]
  simp
theorem ROk.down (h : ROk t) : ROk { t with down := true, armed := 0 } := ⟨h.len, h.q, by simp, h.lost, h.keep⟩
set_option maxRecDepth 100000 in
set_option maxHeartbeats 8000000 in
theorem rcrash_any (h : RT w0 b P w t) (hk : ROk t) {A : Option Addr} {c : Nat} {keep : List Int} (hA : IntsAt w w.heap.size A keep) (hAb : 0 < keep.length → ∀ a, A = some a → a.block ≠ b) (hkl : keep.length ≤ 9223372036854775807) :
    Calls Try.prog 56 #[dp b, .slice A keep.length c] w fun e w' => e = .returned (.tuple #[]) ∧ RT w0 b P w' (t.crash keep) ∧ Keep P w w' := by
  unfold dp RS.crash
  obtain ⟨m, hD, hP⟩ := h.at_
  obtain ⟨_, _, _, c3, c4, _, cf⟩ := rdO_cells hD.obj
  have f3 := cf 3
  have f4 := cf 4
  clear cf
  cases hd : t.down
  case true =>
    rw [hd] at c3
    rw [if_pos rfl]
    clear hD
    replace h := Lib.hid h
    go_enter Try.func56, Try.ntmps56
    go_wp2_with fail
    refine bodyPost_ret (results_none rfl _ _ _) rfl ?_
    exact ⟨rfl, h.out, Keep.refl _ _⟩
  case false =>
  rw [hd] at c3
  rw [if_neg (by simp)]
  have H1 := h.word (i := 3) (v := .bool true) (t' := { t with down := true }) hD hP (fun c e => by injection e with e; rw [← e]; rfl) rfl rfl rfl
  have hlt := hD.lt
  obtain ⟨w1, hw1⟩ : ∃ W, W = w.setCell ⟨b, 3, none⟩ (.bool true) := ⟨_, rfl⟩
  rw [← hw1] at H1
  have n4 : w1.cell? ⟨b, 4, none⟩ = some (.int .i64 t.armed) := by rw [hw1]; exact (World.cell?_setCell_other w ⟨b, 3, none⟩ ⟨b, 4, none⟩ _ (by simp)).trans c4
  clear hD hP
  obtain ⟨m, hD, hP⟩ := H1.1.at_
  obtain ⟨_, _, _, _, d4, _, df⟩ := rdO_cells hD.obj
  have g4 := df 4
  clear df n4
  have H2 := H1.1.word (i := 4) (v := .int .i64 0) (t' := { t with down := true, armed := 0 }) hD hP (fun c e => by injection e with e; rw [← e]; rfl) rfl rfl rfl
  obtain ⟨w2, hw2⟩ : ∃ W, W = w1.setCell ⟨b, 4, none⟩ (.int .i64 0) := ⟨_, rfl⟩
  rw [← hw2] at H2
  clear hD hP
  obtain ⟨m, hD, hP⟩ := H2.1.at_
  obtain ⟨e0, e1, _, _, _, _, ef⟩ := rdO_cells hD.obj
  have y0 := ef 0
  have y1 := ef 1
  clear ef
  have hA2 : IntsAt w2 w2.heap.size A keep := by
    rcases Nat.eq_zero_or_pos keep.length with q | q
    · exact fun z => absurd z (by omega)
    · exact ints_heap hA (by rw [hw2, hw1]; simp) fun a e _ => by rw [hw2, hw1, Below.heap_setCell _ _ _ _ (hAb q a e), Below.heap_setCell _ _ _ _ (hAb q a e)]
  have hkp : Keep P w w2 := H1.2.trans H2.2
  have hk2 := hk.down
  have H := H2.1
  have hlt2 := hD.lt
  have KA := Lib.hid fun (j : Nat) (hj : j < 8) (wx : World) (hb : Below w2.heap.size w2 wx) => rafter_any (H.below_ hb) hk2 (c := c) hj ((hA2.below hb).more hb.size) hkl
  unfold dp at KA
  obtain ⟨i0, hi, hz0, hz1, hz2⟩ := info_parts (show (Try.prog.info? 9).map (fun i => (i.zero, i.size, i.bytes)) = some (some (.string ⟨#[]⟩), 1, 16) by kernel_rfl)
  obtain ⟨nk, hnk⟩ : ∃ n, Hid (n = keep.length) := ⟨_, rfl⟩
  rw [← hnk.out] at hkl KA ⊢
  replace H := Lib.hid H
  replace hD := Lib.hid hD
  replace hkp := Lib.hid hkp
  clear H1 H2 hA hA2 h hk hk2 hAb hd
  go_enter Try.func56, Try.ntmps56
  go_upto_region 3 with fail
  rw [← hw1, ← hw2]
  clear hw1 hw2 c3 c4 f3 f4 d4 g4
  go_wp2_with fail
  go_loopw [4, 5] (fun u4 u5 wr => ∃ (j : Nat) (o : Option Nat) (c : Nat), j ≤ 8 ∧ u5 = .int .i64 j ∧ u4 = .slice (ad o) j c ∧ Hid (wr.ownsRow w2.heap.size 9 1 (.slice (ad o) j c) j (strV (aftL keep t j))) ∧ Hid (Below w2.heap.size w2 wr)) (fun _ u5 _ => 8 - (intOf u5).toNat)
  case atStart => exact ⟨0, none, 0, by omega, rfl, rfl, World.ownsRow_nil _ _ _ _, Below.refl _ _⟩
  case round =>
    obtain ⟨j, o, c2, hj, rfl, rfl, hO, hB⟩ := hrel
    have hwz := hB.out.size
    by_cases hlt8 : j < 8
    · have q1 : (j : Int) < 8 := by omega
      have KA2 := Lib.hid (KA.out j hlt8 wr hB.out)
      go_wp2_with (first | (go_at_call 78; (with_reducible refine KA2.out.mono ?_); rintro e wx ⟨rfl, hbx⟩; replace hbx := Lib.hid hbx; have hOx := Lib.hid (row_below hO.out hbx.out); have hzx := hbx.out.size) | (at_builtin; refine wpList_append_any _ (by rfl) _ _ 22 (by rfl) w2.heap.size 9 i0 _ 1 16 Try.underlying22 hi hz0 hz1 hz2 rfl (by decide) _ j _ (by rfl) (hOx.out.alloc _) (_ + 1) (some ⟨_, 0, none⟩) 1 1 [.string (bs (RS.aft keep j 0 t.q (t.lasts j) 0))] (by rfl) ⟨rfl, fun _ => ⟨_, rfl, Nat.lt_succ_self _, cells_at (by rfl) _ _⟩⟩ (fun u hu => by obtain rfl := List.mem_singleton.1 hu; rfl) (by unfold maxLen; omega) (by omega) (by simp; omega) ?_; intro v' w3 hO3 hG3 hob3; obtain ⟨o3, cc3, hv3, _⟩ := ad_of_owns hO3; subst hv3))
      go_roundw
      case rel => exact ⟨j + 1, o3, cc3, by omega, by go_num, rfl, by show World.ownsRow _ _ _ _ _ _ _; rw [aftL_next]; exact hO3, hB.out.trans ((hbx.out.mono hwz).trans ((below_app hOx.out (by omega) hG3)))⟩
      case measure => simp [intOf]; omega
    · obtain rfl : j = 8 := by omega
      have f0 : wr.cell? ⟨b, 0, none⟩ = some (.slice (ad (some m.gA)) 8 m.gc) := (hB.out.cell (p := ⟨b, 0, none⟩) hlt2).trans e0
      have f1 : wr.frozen? ⟨b, 0, none⟩ = false := (hB.out.frozen (p := ⟨b, 0, none⟩) hlt2).trans y0
      have hDr := hD.out.keep hwz fun k hk _ => hB.out.block k hk
      have hob := H.out.below.size
      have hO' := hO.out
      obtain ⟨g, rfl⟩ := ad_addr hO' (by omega)
      have hgl := hO'.lt g rfl
      have heq : aftL keep t 8 = eight fun f => RS.aft keep f 0 t.q (t.lasts f) 0 := rfl
      rw [heq] at hO'
      have r := H.out.boxed (i := 0) (v := .slice (ad (some g)) 8 c2) (row := none) (m' := { m with gA := g, gc := c2 }) (t' := { t with lasts := fun f => RS.aft keep f 0 t.q (t.lasts f) 0, down := true, armed := 0 }) hD.out hP (grown_below hB.out) (fun g e => by cases e) (fun c e => by injection e with e; rw [← e]; rfl)
        (owns_low hO' hob) hDr.rq hDr.rk (.inr hgl.1) (fun k q => .inl q) (fun a e => ⟨.inl e, (hDr.kb a e).2.1⟩) (fun e => by have e : m.qA = some g := e; have := (hD.out.qlt e).2; omega) (fun a e => ⟨fun q => by have q : a.block = g := q; have := (hD.out.kb a e).2.1; omega, (hDr.kb a e).2.2.2.2⟩)
      obtain ⟨w4, hw4⟩ : ∃ W, W = wr.setCell ⟨b, 0, none⟩ (.slice (ad (some g)) 8 c2) := ⟨_, rfl⟩
      rw [← hw4] at r
      obtain ⟨m4, hD4, hP4⟩ := r.1.at_
      obtain ⟨_, a1, _, _, _, _, af⟩ := rdO_cells hD4.obj
      have x1 := af 1
      have r2 := r.1.queue (w' := w4) (row := none) (o := none) (c := 0) (q := []) hD4 hP4 (grown_refl w4 none) (fun g e => by cases e) (World.ownsRow_nil _ _ _ _) (fun k e => by cases e)
      replace r := Lib.hid r
      replace r2 := Lib.hid r2
      replace hDr := Lib.hid hDr
      clear af hO' heq hD4 hO
      go_upto_region 9 with fail
      rw [← hw4]
      clear hw4
      go_wp2_with fail
      go_end0
      exact ⟨rfl, r2.out.1, (hkp.out.trans r.out.2).trans r2.out.2⟩
theorem ROk.less (h : ROk t) (n : Nat) (hn : n ≤ t.armed) : ROk { t with armed := n } := ⟨h.len, h.q, Nat.le_trans hn h.armed, h.lost, h.keep⟩
theorem put_all (t : RS) (k : Nat) (x : Bts) (f : Nat) : (t.put k x).all f = if k = f then t.all f ++ x else t.all f := by
  unfold RS.put
  by_cases hx : x = []
  · rw [if_pos hx, hx]; split <;> simp
  · rw [if_neg hx]
    unfold RS.all
    dsimp only
    rw [RS.ofQ_snoc]
    split <;> simp
theorem ROk.put (h : ROk t) {k : Nat} {x : Bts} (hl : (t.all k).length + x.length ≤ 16777216) (hq : t.q.length ≤ 999999) : ROk (t.put k x) := by
  refine ⟨fun f hf => ?_, ?_, ?_, ?_, ?_⟩
  · rw [put_all]
    split
    · subst k; rw [List.length_append]; exact hl
    · exact h.len f hf
  all_goals unfold RS.put; split
  · omega
  · show (t.q ++ _).length ≤ _; rw [List.length_append]; simp; omega
  · exact h.armed
  · exact h.armed
  · exact h.lost
  · exact h.lost
  · exact h.keep
  · exact h.keep
end
end Go.Proofs.Ytmnimcdbfolhaaa

/- comes, Append of the reference's disk. -/
namespace Go.Proofs.Ytmnimcdbfolhaaa
open Go.RowKit DK
attribute [local go_sem] alloc_drewN setCell_drewN shape_drewN
section
variable {w0 w w' : World} {b : Nat} {P : Nat → Prop} {t : RS}
theorem rcrash_own (h : RT w0 b P w t) (hk : ROk t) : ∃ A c, w.cell? ⟨b, 5, none⟩ = some (.slice A t.keep.length c) ∧
    Calls Try.prog 56 #[dp b, .slice A t.keep.length c] w fun e w' => e = .returned (.tuple #[]) ∧ RT w0 b P w' (t.crash t.keep) ∧ Keep P w w' := by
  obtain ⟨m, hD, hP⟩ := h.at_
  obtain ⟨_, _, _, _, _, c5, _⟩ := rdO_cells hD.obj
  exact ⟨m.kA, m.kc, c5, rcrash_any h hk hD.rk (fun _ a e => (hD.kb a e).2.2.1) (by have := hk.keep; omega)⟩
theorem comes_stay {f : Int} {x : Bts} (h : t.down = true ∨ t.armed = 0) : t.comes f x = t := by unfold RS.comes; rw [if_pos h]
theorem comes_less {f : Int} {x : Bts} (h : ¬ (t.down = true ∨ t.armed = 0)) (h2 : 1 < t.armed) : t.comes f x = { t with armed := t.armed - 1 } := by unfold RS.comes; rw [if_neg h, if_pos h2]
theorem comes_now {f : Int} {x : Bts} (h : ¬ (t.down = true ∨ t.armed = 0)) (h2 : ¬ 1 < t.armed) : t.comes f x = RS.crash (if RS.fits t f x then RS.put { t with armed := 0 } f.toNat x else { t with armed := 0 }) t.keep := by
  unfold RS.comes; rw [if_neg h, if_neg h2, show t.armed - 1 = 0 by omega]
theorem put_keep (t : RS) (k : Nat) (x : Bts) : (t.put k x).keep = t.keep := by unfold RS.put; split <;> rfl
set_option maxRecDepth 100000 in
set_option maxHeartbeats 8000000 in
theorem rcomes_any (h : RT w0 b P w t) (hk : ROk t) (hq : t.q.length ≤ 999999) (f : Int) (x : Bts) (hx : x.length ≤ 4611686018427387904) :
    Calls Try.prog 50 #[dp b, .int .i64 f, .string (bs x)] w fun e w' => e = .returned (.tuple #[]) ∧ RT w0 b P w' (t.comes f x) ∧ Keep P w w' := by
  unfold dp
  obtain ⟨m, hD, hP⟩ := h.at_
  obtain ⟨_, _, _, c3, c4, _, cf⟩ := rdO_cells hD.obj
  have f4 := cf 4
  have hsz := bs_size x
  clear cf
  by_cases hst : t.down = true ∨ t.armed = 0
  case pos =>
    rw [comes_stay hst]
    clear hD
    replace h := Lib.hid h
    rcases hst with g | g
    · rw [g] at c3
      clear g
      go_enter Try.func50, Try.ntmps50
      go_wp2_with fail
      refine bodyPost_ret (results_none rfl _ _ _) rfl ?_
      exact ⟨rfl, h.out, Keep.refl _ _⟩
    · rw [g] at c4
      have c4 : w.cell? ⟨b, 4, none⟩ = some (.int .i64 0) := c4
      clear g
      cases hd : t.down <;> rw [hd] at c3 <;> clear hd
      all_goals go_enter Try.func50, Try.ntmps50
      all_goals go_wp2_with fail
      all_goals refine bodyPost_ret (results_none rfl _ _ _) rfl ?_
      all_goals exact ⟨rfl, h.out, Keep.refl _ _⟩
  case neg =>
  have hd : t.down = false := by cases e : t.down; rfl; exact absurd (.inl e) hst
  have ha : 0 < t.armed := by rcases Nat.eq_zero_or_pos t.armed with e | e; exact absurd (.inr e) hst; exact e
  rw [hd] at c3
  have q1 : ((t.armed : Int) == 0) = false := by rw [beq_eq_false_iff_ne]; omega
  have q2 : ¬ (t.armed : Int) = 0 := by omega
  have q3 : (t.armed : Int) - 1 = ((t.armed - 1 : Nat) : Int) := by omega
  have q4 : IntKind.i64.wrap ((t.armed - 1 : Nat) : Int) = ((t.armed - 1 : Nat) : Int) := by rw [IntKind.wrap_i64]; have := hk.armed; omega
  have H1 := fun n : Nat => h.word (i := 4) (v := .int .i64 (n : Int)) (t' := { t with armed := n }) hD hP (fun c e => by injection e with e; rw [← e]; rfl) rfl rfl rfl
  have hlt := hD.lt
  obtain ⟨n1, hn1⟩ : ∃ n, t.armed - 1 = n := ⟨_, rfl⟩
  rw [hn1] at q3 q4
  replace H1 := H1 n1
  obtain ⟨w1, hw1⟩ : ∃ W, W = w.setCell ⟨b, 4, none⟩ (.int .i64 (n1 : Int)) := ⟨_, rfl⟩
  rw [← hw1] at H1
  have hk1 : ROk { t with armed := n1 } := hk.less n1 (by omega)
  clear hD hP h
  obtain ⟨m1, hD1, hP1⟩ := H1.1.at_
  have d4 : w1.cell? ⟨b, 4, none⟩ = some (.int .i64 (n1 : Int)) := (rdO_cells hD1.obj).2.2.2.2.1
  by_cases hn : 0 < n1
  case pos =>
    rw [comes_less hst (by omega), hn1]
    have q5 : (0 : Int) < (n1 : Int) := by omega
    replace H1 := Lib.hid H1
    clear hD1 hk1 hst ha hd
    go_enter Try.func50, Try.ntmps50
    go_upto_region 2 with fail
    rw [← hw1]
    clear hw1 c4 f4
    go_wp2_with fail
    refine bodyPost_ret (results_none rfl _ _ _) rfl ?_
    exact ⟨rfl, H1.out⟩
  case neg =>
  obtain rfl : n1 = 0 := by omega
  replace hw1 : w1 = w.setCell ⟨b, 4, none⟩ (.int .i64 0) := hw1
  replace d4 : w1.cell? ⟨b, 4, none⟩ = some (.int .i64 0) := d4
  rw [comes_now hst (by omega)]
  have hsame : ∀ k, RS.all { t with armed := 0 } k = t.all k := fun _ => rfl
  by_cases hnm : num f = true
  case neg =>
    have hft : RS.fits t f x = false := by unfold RS.fits; rw [Bool.eq_false_iff.2 hnm]; rfl
    rw [hft, if_neg (by simp)]
    obtain ⟨A, cc, c5, KC⟩ := rcrash_own H1.1 hk1
    dsimp only at c5 KC
    unfold dp at KC
    replace KC := Lib.hid KC
    replace H1 := Lib.hid H1
    clear hD1 hk1 hst ha hd hft
    rcases num_no hnm with g | g
    · have g1 : decide ((0 : Int) ≤ f) = false := decide_eq_false (by omega)
      go_enter Try.func50, Try.ntmps50
      go_upto_region 2 with fail
      rw [← hw1]
      clear hw1 c4 f4
      go_wp2_with (go_at_call 56; (with_reducible refine KC.out.mono ?_); rintro e w3 ⟨rfl, h3, k3⟩)
      go_end0
      exact ⟨rfl, h3, H1.out.2.trans k3⟩
    · have g1 : decide ((0 : Int) ≤ f) = true := decide_eq_true (by omega)
      have g2 : decide (f ≤ (7 : Int)) = false := decide_eq_false (by omega)
      go_enter Try.func50, Try.ntmps50
      go_upto_region 2 with fail
      rw [← hw1]
      clear hw1 c4 f4
      go_wp2_with (go_at_call 56; (with_reducible refine KC.out.mono ?_); rintro e w3 ⟨rfl, h3, k3⟩)
      go_end0
      exact ⟨rfl, h3, H1.out.2.trans k3⟩
  case pos =>
  have g := num_iff.1 hnm
  obtain ⟨k, rfl⟩ := Int.eq_ofNat_of_zero_le g.1
  have hk8 : k < 8 := by omega
  have g1 : decide ((0 : Int) ≤ (k : Int)) = true := decide_eq_true (by omega)
  have g2 : decide ((k : Int) ≤ (7 : Int)) = true := decide_eq_true (by omega)
  have KS := rsize_any H1.1 hk1 (k : Int)
  have hS : RS.size { t with armed := 0 } (k : Int) = ((t.all k).length : Int) := by unfold RS.size; rw [if_pos hnm]; rfl
  rw [hS] at KS
  have hlen := hk.len k hk8
  obtain ⟨L, hL⟩ : ∃ L, (t.all k).length = L := ⟨_, rfl⟩
  have hft : RS.fits t (k : Int) x = decide (L + x.length ≤ 16777216) := by unfold RS.fits; rw [hnm, Int.toNat_natCast, hL]; rfl
  rw [hL] at KS hlen
  have q6 : IntKind.i64.wrap ((L : Int) + (x.length : Int)) = (L : Int) + (x.length : Int) := by rw [IntKind.wrap_i64]; omega
  unfold dp at KS
  replace KS := Lib.hid KS
  rw [hft, Int.toNat_natCast]
  by_cases hfit : L + x.length ≤ 16777216
  case neg =>
    rw [decide_eq_false hfit, if_neg (by simp)]
    have q7 : decide ((L : Int) + (x.length : Int) ≤ 16777216) = false := decide_eq_false (by omega)
    have q8 : ¬ (L : Int) + (x.length : Int) ≤ 16777216 := by omega
    obtain ⟨A, cc, c5, KC⟩ := rcrash_own H1.1 hk1
    dsimp only at c5 KC
    unfold dp at KC
    replace KC := Lib.hid KC
    replace H1 := Lib.hid H1
    clear hD1 hk1 hst ha hd hft hfit
    go_enter Try.func50, Try.ntmps50
    go_upto_region 2 with fail
    rw [← hw1]
    clear hw1 c4 f4
    go_wp2_with (first | (go_at_call 34; (with_reducible refine KS.out.mono ?_); rintro e w3 ⟨rfl, rfl⟩) | (go_at_call 56; (with_reducible refine KC.out.mono ?_); rintro e w3 ⟨rfl, h3, k3⟩))
    go_end0
    exact ⟨rfl, h3, H1.out.2.trans k3⟩
  case pos =>
    rw [decide_eq_true hfit, if_pos rfl]
    have q7 : decide ((L : Int) + (x.length : Int) ≤ 16777216) = true := decide_eq_true (by omega)
    have q8 : (L : Int) + (x.length : Int) ≤ 16777216 := by omega
    have KP := rput_any H1.1 (show t.q.length ≤ 1000000 by omega) k x
    have hk2 : ROk (RS.put { t with armed := 0 } k x) := hk1.put (by rw [hsame, hL]; exact hfit) hq
    unfold dp at KP
    replace KP := Lib.hid KP
    replace H1 := Lib.hid H1
    replace hk2 := Lib.hid hk2
    clear hD1 hk1 hst ha hd hft hfit
    go_enter Try.func50, Try.ntmps50
    go_upto_region 2 with fail
    rw [← hw1]
    clear hw1 c4 f4
    go_wp2_with (go_at_call 34; (with_reducible refine KS.out.mono ?_); rintro e w3 ⟨rfl, rfl⟩)
    go_at_call 52
    (with_reducible refine KP.out.mono ?_)
    rintro e w2 ⟨rfl, h2, k2⟩
    obtain ⟨A, cc, c5, KC⟩ := rcrash_own h2 hk2.out
    rw [put_keep] at c5 KC
    unfold dp at KC
    replace KC := Lib.hid KC
    replace k2 := Lib.hid k2
    clear h2
    go_wp2_with (go_at_call 56; (with_reducible refine KC.out.mono ?_); rintro e w3 ⟨rfl, h3, k3⟩)
    go_end0
    exact ⟨rfl, h3, (H1.out.2.trans k2.out).trans k3⟩
end
end Go.Proofs.Ytmnimcdbfolhaaa

/- Append, Flush of the reference's disk. -/
namespace Go.Proofs.Ytmnimcdbfolhaaa
open Go.RowKit DK
attribute [local go_sem] alloc_drewN setCell_drewN shape_drewN
section
variable {w0 w w' : World} {b : Nat} {P : Nat → Prop} {t : RS}
theorem append_is (t : RS) (f : Int) (x : Bts) : t.append f x = if (t.comes f x).down then (9, t.comes f x) else if num f then (if 16777216 < ((t.comes f x).all f.toNat).length + x.length then (8, t.comes f x) else (0, RS.put (t.comes f x) f.toNat x)) else (1, t.comes f x) := rfl
set_option maxRecDepth 100000 in
set_option maxHeartbeats 8000000 in
theorem rappend_any (h : RT w0 b P w t) (hk : ROk t) (hq : t.q.length ≤ 999999) (f : Int) (x : Bts) (hx : x.length ≤ 4611686018427387904) (hk1 : ROk (t.comes f x)) :
    Calls Try.prog 28 #[dp b, .int .i64 f, .string (bs x)] w fun e w' => e = .returned (.int .i64 (t.append f x).1) ∧ RT w0 b P w' (t.append f x).2 ∧ Keep P w w' := by
  have KC := rcomes_any h hk hq f x hx
  rw [append_is]
  obtain ⟨t1, ht1⟩ : ∃ t1, t.comes f x = t1 := ⟨_, rfl⟩
  rw [ht1] at KC hk1 ⊢
  have hsz := bs_size x
  unfold dp at KC ⊢
  replace KC := Lib.hid KC
  clear h ht1 hk hq
  cases hd : t1.down
  case true =>
    rw [if_pos rfl]
    go_enter Try.func28, Try.ntmps28
    go_wp2_with fail
    go_at_call 50
    (with_reducible refine KC.out.mono ?_)
    rintro e w1 ⟨rfl, h1, k1⟩
    have KM := rmay_any h1 f
    unfold dp RS.may at KM
    rw [if_pos hd] at KM
    replace KM := Lib.hid KM
    replace h1 := Lib.hid h1
    clear hd
    go_wp2_with (go_at_call 51; (with_reducible refine KM.out.mono ?_); rintro e w2 ⟨rfl, rfl⟩)
    go_ret
    exact ⟨rfl, h1.out, k1⟩
  case false =>
  rw [if_neg (by simp)]
  by_cases hn : num f = true
  case neg =>
    rw [if_neg hn]
    go_enter Try.func28, Try.ntmps28
    go_wp2_with fail
    go_at_call 50
    (with_reducible refine KC.out.mono ?_)
    rintro e w1 ⟨rfl, h1, k1⟩
    have KM := rmay_any h1 f
    unfold dp RS.may at KM
    rw [if_neg (by rw [hd]; simp), if_neg hn] at KM
    replace KM := Lib.hid KM
    replace h1 := Lib.hid h1
    clear hd hn
    go_wp2_with (go_at_call 51; (with_reducible refine KM.out.mono ?_); rintro e w2 ⟨rfl, rfl⟩)
    go_ret
    exact ⟨rfl, h1.out, k1⟩
  case pos =>
  have g := num_iff.1 hn
  obtain ⟨k, rfl⟩ := Int.eq_ofNat_of_zero_le g.1
  have hk8 : k < 8 := by omega
  rw [if_pos hn, Int.toNat_natCast]
  have hS : t1.size (k : Int) = ((t1.all k).length : Int) := by unfold RS.size; rw [if_pos hn]; rfl
  have hlen := hk1.len k hk8
  obtain ⟨L, hL⟩ : ∃ L, (t1.all k).length = L := ⟨_, rfl⟩
  rw [hL] at hS hlen ⊢
  have q6 : IntKind.i64.wrap ((L : Int) + (x.length : Int)) = (L : Int) + (x.length : Int) := by rw [IntKind.wrap_i64]; omega
  have hmay : t1.may (k : Int) = 0 := by unfold RS.may; rw [if_neg (by rw [hd]; simp), if_pos hn]
  by_cases hfit : 16777216 < L + x.length
  case pos =>
    rw [if_pos hfit]
    have q8 : (16777216 : Int) < (L : Int) + (x.length : Int) := by omega
    go_enter Try.func28, Try.ntmps28
    go_wp2_with fail
    go_at_call 50
    (with_reducible refine KC.out.mono ?_)
    rintro e w1 ⟨rfl, h1, k1⟩
    have KM := rmay_any h1 (k : Int)
    have KS := rsize_any h1 hk1 (k : Int)
    unfold dp at KM KS
    rw [hmay] at KM
    rw [hS] at KS
    replace KM := Lib.hid KM
    replace KS := Lib.hid KS
    replace h1 := Lib.hid h1
    clear hd hn hmay hS hfit
    go_wp2_with (first | (go_at_call 51; (with_reducible refine KM.out.mono ?_); rintro e w2 ⟨rfl, rfl⟩) | (go_at_call 34; (with_reducible refine KS.out.mono ?_); rintro e w2 ⟨rfl, rfl⟩))
    go_ret
    exact ⟨rfl, h1.out, k1⟩
  case neg =>
    rw [if_neg hfit]
    have q8 : ¬ (16777216 : Int) < (L : Int) + (x.length : Int) := by omega
    go_enter Try.func28, Try.ntmps28
    go_wp2_with fail
    go_at_call 50
    (with_reducible refine KC.out.mono ?_)
    rintro e w1 ⟨rfl, h1, k1⟩
    have KM := rmay_any h1 (k : Int)
    have KS := rsize_any h1 hk1 (k : Int)
    have KP := rput_any h1 hk1.q k x
    unfold dp at KM KS KP
    rw [hmay] at KM
    rw [hS] at KS
    replace KM := Lib.hid KM
    replace KS := Lib.hid KS
    replace KP := Lib.hid KP
    clear hd hn hmay hS hfit h1
    go_wp2_with (first | (go_at_call 51; (with_reducible refine KM.out.mono ?_); rintro e w2 ⟨rfl, rfl⟩) | (go_at_call 34; (with_reducible refine KS.out.mono ?_); rintro e w2 ⟨rfl, rfl⟩) | (go_at_call 52; (with_reducible refine KP.out.mono ?_); rintro e w2 ⟨rfl, h2, k2⟩))
    go_ret
    exact ⟨rfl, h2, k1.trans k2⟩
theorem flush_is (t : RS) (f : Int) : t.flush f = if (t.comes 0 []).down then (9, t.comes 0 []) else if num f then (if 0 < (t.comes 0 []).lost then (13, { t.comes 0 [] with lost := (t.comes 0 []).lost - 1 }) else (0, { t.comes 0 [] with lasts := upd (t.comes 0 []).lasts f.toNat ((t.comes 0 []).all f.toNat), q := wo f.toNat (t.comes 0 []).q })) else (1, t.comes 0 []) := rfl
theorem wo_drop (h : ROk t) (l : Nat → Bts) (q : List (Nat × Bts)) (hl : ∀ f, f < 8 → (RS.all { t with lasts := l, q := q } f).length ≤ 16777216) (hq : q.length ≤ 1000000) : ROk { t with lasts := l, q := q } := ⟨hl, hq, h.armed, h.lost, h.keep⟩
set_option maxRecDepth 100000 in
set_option maxHeartbeats 8000000 in
theorem rflush_any (h : RT w0 b P w t) (hk : ROk t) (hq : t.q.length ≤ 999999) (f : Int) (hk1 : ROk (t.comes 0 [])) :
    Calls Try.prog 76 #[dp b, .int .i64 f] w fun e w' => e = .returned (.int .i64 (t.flush f).1) ∧ RT w0 b P w' (t.flush f).2 ∧ Keep P w w' := by
  have KC := rcomes_any h hk hq 0 [] (by simp)
  rw [flush_is]
  obtain ⟨t1, ht1⟩ : ∃ t1, t.comes 0 [] = t1 := ⟨_, rfl⟩
  rw [ht1] at KC hk1 ⊢
  have KC : Calls Try.prog 50 #[dp b, .int .i64 0, .string ⟨#[]⟩] w fun e w' => e = .returned (.tuple #[]) ∧ RT w0 b P w' t1 ∧ Keep P w w' := KC
  unfold dp at KC ⊢
  replace KC := Lib.hid KC
  clear h ht1 hk hq
  cases hd : t1.down
  case true =>
    rw [if_pos rfl]
    go_enter Try.func76, Try.ntmps76
    go_wp2_with fail
    go_at_call 50
    (with_reducible refine KC.out.mono ?_)
    rintro e w1 ⟨rfl, h1, k1⟩
    have KM := rmay_any h1 f
    unfold dp RS.may at KM
    rw [if_pos hd] at KM
    replace KM := Lib.hid KM
    replace h1 := Lib.hid h1
    clear hd
    go_wp2_with (go_at_call 51; (with_reducible refine KM.out.mono ?_); rintro e w2 ⟨rfl, rfl⟩)
    go_ret
    exact ⟨rfl, h1.out, k1⟩
  case false =>
  rw [if_neg (by simp)]
  by_cases hn : num f = true
  case neg =>
    rw [if_neg hn]
    go_enter Try.func76, Try.ntmps76
    go_wp2_with fail
    go_at_call 50
    (with_reducible refine KC.out.mono ?_)
    rintro e w1 ⟨rfl, h1, k1⟩
    have KM := rmay_any h1 f
    unfold dp RS.may at KM
    rw [if_neg (by rw [hd]; simp), if_neg hn] at KM
    replace KM := Lib.hid KM
    replace h1 := Lib.hid h1
    clear hd hn
    go_wp2_with (go_at_call 51; (with_reducible refine KM.out.mono ?_); rintro e w2 ⟨rfl, rfl⟩)
    go_ret
    exact ⟨rfl, h1.out, k1⟩
  case pos =>
  have g := num_iff.1 hn
  obtain ⟨k, rfl⟩ := Int.eq_ofNat_of_zero_le g.1
  have hk8 : k < 8 := by omega
  have g3 : (0 : Int) ≤ (k : Int) ∧ (k : Int) < 8 := by omega
  rw [if_pos hn, Int.toNat_natCast]
  have hmay : t1.may (k : Int) = 0 := by unfold RS.may; rw [if_neg (by rw [hd]; simp), if_pos hn]
  by_cases hlo : 0 < t1.lost
  case pos =>
    rw [if_pos hlo]
    obtain ⟨l, hl⟩ : ∃ l, t1.lost = l + 1 := ⟨t1.lost - 1, by omega⟩
    have hlm := hk1.lost
    rw [hl] at hlm ⊢
    rw [Nat.add_sub_cancel]
    go_enter Try.func76, Try.ntmps76
    go_wp2_with fail
    go_at_call 50
    (with_reducible refine KC.out.mono ?_)
    rintro e w1 ⟨rfl, h1, k1⟩
    have KM := rmay_any h1 (k : Int)
    unfold dp at KM
    rw [hmay] at KM
    replace KM := Lib.hid KM
    obtain ⟨m, hD, hP⟩ := h1.at_
    obtain ⟨_, _, c2, _, _, _, cf⟩ := rdO_cells hD.obj
    have f2 := cf 2
    clear cf
    rw [hl] at c2
    have q1 : (0 : Int) < ((l + 1 : Nat) : Int) := by omega
    have q2 : ((l + 1 : Nat) : Int) - 1 = (l : Int) := by omega
    have q3 : IntKind.i64.wrap (l : Int) = (l : Int) := by rw [IntKind.wrap_i64]; omega
    have H2 := Lib.hid (h1.word (i := 2) (v := .int .i64 (l : Int)) (t' := { t1 with lost := l }) hD hP (fun c e => by injection e with e; rw [← e]; rfl) rfl rfl rfl)
    clear hd hn hmay hl hlo hD h1
    go_wp2_with (go_at_call 51; (with_reducible refine KM.out.mono ?_); rintro e w2 ⟨rfl, rfl⟩)
    go_ret
    exact ⟨rfl, H2.out.1, k1.trans H2.out.2⟩
  case neg =>
    rw [if_neg hlo]
    have hl0 : t1.lost = 0 := by omega
    obtain ⟨X, hX⟩ : ∃ X, t1.all k = X := ⟨_, rfl⟩
    rw [hX]
    go_enter Try.func76, Try.ntmps76
    go_wp2_with fail
    go_at_call 50
    (with_reducible refine KC.out.mono ?_)
    rintro e w1 ⟨rfl, h1, k1⟩
    have KM := rmay_any h1 (k : Int)
    have h1d := h1.below_ (Below.refl _ _).drew
    have KB := rbytes_any h1d hk1 hk8
    unfold dp at KM KB
    rw [hmay] at KM
    replace KM := Lib.hid KM
    obtain ⟨m, hD, hP⟩ := h1d.at_
    obtain ⟨c0, _, c2, _⟩ := rdO_cells hD.obj
    rw [hl0] at c2
    replace c2 : w1.cell? ⟨b, 2, none⟩ = some (.int .i64 0) := c2
    rw [show ad (some m.gA) = some ⟨m.gA, 0, none⟩ from rfl] at c0
    obtain ⟨l0, lf⟩ := hD.last hk8
    have H2 := h1d.file hk8 (t1.all k) hD hP
    replace h1 := Lib.hid h1
    replace hD := Lib.hid hD
    replace k1 := Lib.hid k1
    rw [hX] at KB H2
    replace KB := Lib.hid KB
    replace H2 := Lib.hid H2
    clear hd hn hmay hlo hl0
    go_upto_region 8 with (go_at_call 51; (with_reducible refine KM.out.mono ?_); rintro e w2 ⟨rfl, rfl⟩)
    refine Plan.wp_region_treeS (fun wx => wx.cell? ⟨b, 0, none⟩ = some (.slice (some ⟨m.gA, 0, none⟩) 8 m.gc)) (.rd 0 (.rd 1 (.rd 2 (.rd 3 (.rd 4 (.rd 5 (.rd 6 (.wr 7 (.rd 8 (.wr 9 .done)))))))))) (by kernel_rfl) (by kernel_rfl) c0 ?_
    (repeat (refine Plan.tree_read (v := ?_) rfl rfl ?_ ?_; rotate_left; (focus ((intro wS hSw; (try dsimp only at hSw); go_simp); try with_reducible rfl)); simp only [Act.put, List.setIfInBounds_toArray, List.set_cons_zero, List.set_cons_succ]))
    (refine Plan.tree_write rfl (fun K hK => ?_); try go_simp)
    go_at_call 85
    refine KB.out.mono ?_
    rintro e wb ⟨rfl, rfl⟩
    (refine hK.out _ _ (c0) ?_; clear hK K; try simp only [Act.put, List.setIfInBounds_toArray, List.set_cons_zero, List.set_cons_succ])
    (repeat (refine Plan.tree_read (v := ?_) rfl rfl ?_ ?_; rotate_left; (focus ((intro wS hSw; (try dsimp only at hSw); go_simp); try with_reducible rfl)); simp only [Act.put, List.setIfInBounds_toArray, List.set_cons_zero, List.set_cons_succ]))
    (refine Plan.tree_write rfl (fun K hK => ?_); try go_simp)
    obtain ⟨w4, hw4⟩ : ∃ W, W = (w1.setCell ⟨m.gA, k, none⟩ (.string (bs X))).drew := ⟨_, rfl⟩
    have H3 : RT w0 b P w4 { t1 with lasts := upd t1.lasts k X } ∧ RDisk w4 w0.heap.size b m { t1 with lasts := upd t1.lasts k X } ∧ Keep P w1 w4 := by rw [hw4]; exact ⟨H2.out.1, H2.out.2.1, (Keep.of_below (Below.refl _ _).drew).trans H2.out.2.2⟩
    rw [← hw4]
    obtain ⟨e0, e1, _, _, _, _, ef⟩ := rdO_cells H3.2.1.obj
    have f1 := ef 1
    have hlt := H3.1.blt
    have KW := rwithout_any H3.1 (show t1.q.length ≤ 1000000 from hk1.q) k
    unfold dp at KW
    dsimp only at KW e1
    replace KW := Lib.hid KW
    replace H3 := Lib.hid H3
    (refine hK.out _ _ (e0) ?_; clear hK K; try simp only [Act.put, List.setIfInBounds_toArray, List.set_cons_zero, List.set_cons_succ])
    refine Plan.tree_done ?_
    clear hw4 H2 KB ef c0 l0 lf
    go_wp2_with (go_at_call 87; (with_reducible refine KW.out.mono ?_); rintro e w5 ⟨o, c, rfl, hO, hB⟩; have y0 := (hB.cell (p := ⟨b, 1, none⟩) hlt).trans e1; have y1 := (hB.frozen (p := ⟨b, 1, none⟩) hlt).trans f1; replace hO := Lib.hid hO; replace hB := Lib.hid hB)
    go_ret
    have hob := H3.out.1.below.size
    have r := H3.out.1.queue (o := o) (c := c) (q := wo k t1.q) H3.out.2.1 hP (grown_below (row := none) hB.out) (fun g e => by cases e) (owns_low hO.out hob) (fun j e => .inr (hO.out.lt j (by rw [ad_block]; exact e)).1)
    exact ⟨rfl, r.1, (k1.out.trans H3.out.2.2).trans r.2⟩
end
end Go.Proofs.Ytmnimcdbfolhaaa

/- Turn of the reference's disk. -/
namespace Go.Proofs.Ytmnimcdbfolhaaa
open Go.RowKit DK
attribute [local go_sem] alloc_drewN setCell_drewN shape_drewN
section
variable {w0 w w' : World} {b : Nat} {P : Nat → Prop} {t : RS}
theorem turn_is (t : RS) (f g : Int) : t.turn f g = if (t.comes 0 []).down then (9, t.comes 0 []) else if num f = true ∧ num g = true ∧ f ≠ g then (if ((t.comes 0 []).all g.toNat).length ≠ ((t.comes 0 []).lasts g.toNat).length then (10, t.comes 0 []) else (0, { t.comes 0 [] with lasts := upd (upd (t.comes 0 []).lasts f.toNat ((t.comes 0 []).lasts g.toNat)) g.toNat [], q := wo f.toNat (t.comes 0 []).q })) else (1, t.comes 0 []) := rfl
set_option maxRecDepth 100000 in
set_option maxHeartbeats 8000000 in
theorem rturn_any (h : RT w0 b P w t) (hk : ROk t) (hq : t.q.length ≤ 999999) (f g : Int) (hk1 : ROk (t.comes 0 [])) :
    Calls Try.prog 80 #[dp b, .int .i64 f, .int .i64 g] w fun e w' => e = .returned (.int .i64 (t.turn f g).1) ∧ RT w0 b P w' (t.turn f g).2 ∧ Keep P w w' := by
  have KC := rcomes_any h hk hq 0 [] (by simp)
  rw [turn_is]
  obtain ⟨t1, ht1⟩ : ∃ t1, t.comes 0 [] = t1 := ⟨_, rfl⟩
  rw [ht1] at KC hk1 ⊢
  have KC : Calls Try.prog 50 #[dp b, .int .i64 0, .string ⟨#[]⟩] w fun e w' => e = .returned (.tuple #[]) ∧ RT w0 b P w' t1 ∧ Keep P w w' := KC
  have KM : ∀ (f : Int) (wx : World), RT w0 b P wx t1 → Calls Try.prog 51 #[dp b, .int .i64 f] wx fun e w' => e = .returned (.int .i64 (t1.may f)) ∧ wx = w' := fun f wx hx => rmay_any hx f
  unfold dp at KC KM ⊢
  replace KC := Lib.hid KC
  replace KM := Lib.hid KM
  clear h ht1 hk hq
  by_cases hm1 : t1.may f = 0
  case neg =>
    have hr : (if t1.down = true then (9, t1) else if num f = true ∧ num g = true ∧ f ≠ g then (if (t1.all g.toNat).length ≠ (t1.lasts g.toNat).length then (10, t1) else (0, { t1 with lasts := upd (upd t1.lasts f.toNat (t1.lasts g.toNat)) g.toNat [], q := wo f.toNat t1.q })) else (1, t1)) = (t1.may f, t1) := by
      unfold RS.may at hm1 ⊢
      by_cases hd : t1.down = true
      · rw [if_pos hd, if_pos hd]
      · rw [if_neg hd] at hm1 ⊢
        rw [if_neg hd]
        by_cases hn : num f = true
        · rw [if_pos hn] at hm1; exact absurd rfl hm1
        · rw [if_neg (fun q => hn q.1), if_neg hn]
    rw [hr]
    clear hr
    obtain ⟨v, hv⟩ : ∃ v, t1.may f = v := ⟨_, rfl⟩
    rw [hv] at hm1 ⊢
    have q1 : (v == 0) = false := by rw [beq_eq_false_iff_ne]; exact hm1
    go_enter Try.func80, Try.ntmps80
    go_wp2_with fail
    go_at_call 50
    (with_reducible refine KC.out.mono ?_)
    rintro e w1 ⟨rfl, h1, k1⟩
    have KM1 := KM.out f w1 h1
    rw [hv] at KM1
    replace KM1 := Lib.hid KM1
    replace h1 := Lib.hid h1
    clear hv
    go_wp2_with (go_at_call 51; (with_reducible refine KM1.out.mono ?_); rintro e w2 ⟨rfl, rfl⟩)
    go_ret
    exact ⟨rfl, h1.out, k1⟩
  case pos =>
  have hd : t1.down = false := by cases e : t1.down; rfl; unfold RS.may at hm1; rw [e, if_pos rfl] at hm1; exact absurd hm1 (by decide)
  have hn : num f = true := by
    unfold RS.may at hm1
    rw [if_neg (by rw [hd]; simp)] at hm1
    by_cases q : num f = true
    · exact q
    · rw [if_neg q] at hm1; exact absurd hm1 (by decide)
  rw [if_neg (by rw [hd]; simp)]
  by_cases hn2 : num g = true
  case neg =>
    have hm2 : t1.may g = 1 := by unfold RS.may; rw [if_neg (by rw [hd]; simp), if_neg hn2]
    rw [if_neg (fun q => hn2 q.2.1)]
    go_enter Try.func80, Try.ntmps80
    go_wp2_with fail
    go_at_call 50
    (with_reducible refine KC.out.mono ?_)
    rintro e w1 ⟨rfl, h1, k1⟩
    have KM1 := KM.out f w1 h1
    have KM2 := KM.out g w1 h1
    rw [hm1] at KM1
    rw [hm2] at KM2
    replace KM1 := Lib.hid KM1
    replace KM2 := Lib.hid KM2
    replace h1 := Lib.hid h1
    clear hm1 hm2 hd hn hn2
    go_wp2_with (go_at_call 51; first | ((with_reducible refine KM1.out.mono ?_); rintro e w2 ⟨rfl, rfl⟩) | ((with_reducible refine KM2.out.mono ?_); rintro e w2 ⟨rfl, rfl⟩))
    go_ret
    exact ⟨rfl, h1.out, k1⟩
  case pos =>
  have hm2 : t1.may g = 0 := by unfold RS.may; rw [if_neg (by rw [hd]; simp), if_pos hn2]
  by_cases hfg : f = g
  case pos =>
    subst hfg
    rw [if_neg (fun q => q.2.2 rfl)]
    go_enter Try.func80, Try.ntmps80
    go_wp2_with fail
    go_at_call 50
    (with_reducible refine KC.out.mono ?_)
    rintro e w1 ⟨rfl, h1, k1⟩
    have KM1 := KM.out f w1 h1
    rw [hm1] at KM1
    replace KM1 := Lib.hid KM1
    replace h1 := Lib.hid h1
    clear hm1 hm2 hd hn hn2
    go_wp2_with (go_at_call 51; ((with_reducible refine KM1.out.mono ?_); rintro e w2 ⟨rfl, rfl⟩))
    go_ret
    exact ⟨rfl, h1.out, k1⟩
  case neg =>
  rw [if_pos ⟨hn, hn2, hfg⟩]
  have g1 := num_iff.1 hn
  have g2 := num_iff.1 hn2
  obtain ⟨i, rfl⟩ := Int.eq_ofNat_of_zero_le g1.1
  obtain ⟨j, rfl⟩ := Int.eq_ofNat_of_zero_le g2.1
  have hi8 : i < 8 := by omega
  have hj8 : j < 8 := by omega
  rw [Int.toNat_natCast, Int.toNat_natCast]
  have hS : t1.size (j : Int) = ((t1.all j).length : Int) := by unfold RS.size; rw [if_pos hn2]; rfl
  obtain ⟨L, hL⟩ : ∃ L, (t1.all j).length = L := ⟨_, rfl⟩
  obtain ⟨Y, hY⟩ : ∃ Y, t1.lasts j = Y := ⟨_, rfl⟩
  rw [hL] at hS ⊢
  rw [hY]
  have hYs := bs_size Y
  have q2 : ((i : Int) == (j : Int)) = false := by rw [beq_eq_false_iff_ne]; exact hfg
  have g3 : (0 : Int) ≤ (i : Int) ∧ (i : Int) < 8 := g1
  have g4 : (0 : Int) ≤ (j : Int) ∧ (j : Int) < 8 := g2
  by_cases hle : L ≠ Y.length
  case pos =>
    rw [if_pos hle]
    have q3 : ((L : Int) == (Y.length : Int)) = false := by rw [beq_eq_false_iff_ne]; omega
    have q4 : ¬ (L : Int) = (Y.length : Int) := by omega
    go_enter Try.func80, Try.ntmps80
    go_wp2_with fail
    go_at_call 50
    (with_reducible refine KC.out.mono ?_)
    rintro e w1 ⟨rfl, h1, k1⟩
    have KM1 := KM.out i w1 h1
    have KM2 := KM.out j w1 h1
    rw [hm1] at KM1
    rw [hm2] at KM2
    replace KM1 := Lib.hid KM1
    replace KM2 := Lib.hid KM2
    have h1d := h1.below_ (Below.refl _ _).drew
    have KS := rsize_any h1d hk1 (j : Int)
    unfold dp at KS
    rw [hS] at KS
    replace KS := Lib.hid KS
    obtain ⟨m, hD, hP⟩ := h1d.at_
    obtain ⟨c0, _⟩ := rdO_cells hD.obj
    rw [show ad (some m.gA) = some ⟨m.gA, 0, none⟩ from rfl] at c0
    obtain ⟨l0, _⟩ := hD.last hj8
    rw [hY] at l0
    replace h1 := Lib.hid h1
    replace hD := Lib.hid hD
    clear hm1 hm2 hd hn hn2 hle
    go_upto_region 10 with (go_at_call 51; first | ((with_reducible refine KM1.out.mono ?_); rintro e w2 ⟨rfl, rfl⟩) | ((with_reducible refine KM2.out.mono ?_); rintro e w2 ⟨rfl, rfl⟩))
    refine Plan.wp_region_treeS (fun wx => wx.cell? ⟨b, 0, none⟩ = some (.slice (some ⟨m.gA, 0, none⟩) 8 m.gc) ∧ wx.cell? ⟨m.gA, j, none⟩ = some (.string (bs Y))) (.rd 0 (.rd 1 (.rd 3 (.rd 4 (.rd 5 (.rd 6 (.rd 7 (.rd 8 (.rd 9 (.rd 10 (.wr 2 (.rd 11 .done)))))))))))) (by kernel_rfl) (by kernel_rfl) ⟨c0, l0⟩ ?_
    (repeat (refine Plan.tree_read (v := ?_) rfl rfl ?_ ?_; rotate_left; (focus ((intro wS hSw; (try dsimp only at hSw); go_simp); try with_reducible rfl)); simp only [Act.put, List.setIfInBounds_toArray, List.set_cons_zero, List.set_cons_succ]))
    (refine Plan.tree_write rfl (fun K hK => ?_); try go_simp)
    go_at_call 34
    refine KS.out.mono ?_
    rintro e wb ⟨rfl, rfl⟩
    (refine hK.out _ _ (⟨c0, l0⟩) ?_; clear hK K; try simp only [Act.put, List.setIfInBounds_toArray, List.set_cons_zero, List.set_cons_succ])
    (repeat (refine Plan.tree_read (v := ?_) rfl rfl ?_ ?_; rotate_left; (focus ((intro wS hSw; (try dsimp only at hSw); go_simp); try with_reducible rfl)); simp only [Act.put, List.setIfInBounds_toArray, List.set_cons_zero, List.set_cons_succ]))
    refine Plan.tree_done ?_
    go_wp2_with fail
    go_ret
    exact ⟨rfl, h1.out.below_ (Below.refl _ _).drew, k1.trans (Keep.of_below (Below.refl _ _).drew)⟩
  case neg =>
    rw [if_neg hle]
    have q3 : ((L : Int) == (Y.length : Int)) = true := by rw [beq_iff_eq]; omega
    have q4 : (L : Int) = (Y.length : Int) := by omega
    go_enter Try.func80, Try.ntmps80
    go_wp2_with fail
    go_at_call 50
    (with_reducible refine KC.out.mono ?_)
    rintro e w1 ⟨rfl, h1, k1⟩
    have KM1 := KM.out i w1 h1
    have KM2 := KM.out j w1 h1
    rw [hm1] at KM1
    rw [hm2] at KM2
    replace KM1 := Lib.hid KM1
    replace KM2 := Lib.hid KM2
    have h1d := h1.below_ (Below.refl _ _).drew
    have KS := rsize_any h1d hk1 (j : Int)
    unfold dp at KS
    rw [hS] at KS
    replace KS := Lib.hid KS
    obtain ⟨m, hD, hP⟩ := h1d.at_
    obtain ⟨c0, _⟩ := rdO_cells hD.obj
    rw [show ad (some m.gA) = some ⟨m.gA, 0, none⟩ from rfl] at c0
    obtain ⟨l0, _⟩ := hD.last hj8
    obtain ⟨l1, f1⟩ := hD.last hi8
    rw [hY] at l0
    have H2 := (h1d.below_ (Below.refl _ _).drew).file hi8 Y (hD.keep (Nat.le_refl _) fun _ _ _ => rfl) hP
    replace h1 := Lib.hid h1
    replace hD := Lib.hid hD
    replace H2 := Lib.hid H2
    replace k1 := Lib.hid k1
    clear hm1 hm2 hd hn hn2 hle
    go_upto_region 10 with (go_at_call 51; first | ((with_reducible refine KM1.out.mono ?_); rintro e w2 ⟨rfl, rfl⟩) | ((with_reducible refine KM2.out.mono ?_); rintro e w2 ⟨rfl, rfl⟩))
    refine Plan.wp_region_treeS (fun wx => wx.cell? ⟨b, 0, none⟩ = some (.slice (some ⟨m.gA, 0, none⟩) 8 m.gc) ∧ wx.cell? ⟨m.gA, j, none⟩ = some (.string (bs Y))) (.rd 0 (.rd 1 (.rd 3 (.rd 4 (.rd 5 (.rd 6 (.rd 7 (.rd 8 (.rd 9 (.rd 10 (.wr 2 (.rd 11 .done)))))))))))) (by kernel_rfl) (by kernel_rfl) ⟨c0, l0⟩ ?_
    (repeat (refine Plan.tree_read (v := ?_) rfl rfl ?_ ?_; rotate_left; (focus ((intro wS hSw; (try dsimp only at hSw); go_simp); try with_reducible rfl)); simp only [Act.put, List.setIfInBounds_toArray, List.set_cons_zero, List.set_cons_succ]))
    (refine Plan.tree_write rfl (fun K hK => ?_); try go_simp)
    go_at_call 34
    refine KS.out.mono ?_
    rintro e wb ⟨rfl, rfl⟩
    (refine hK.out _ _ (⟨c0, l0⟩) ?_; clear hK K; try simp only [Act.put, List.setIfInBounds_toArray, List.set_cons_zero, List.set_cons_succ])
    (repeat (refine Plan.tree_read (v := ?_) rfl rfl ?_ ?_; rotate_left; (focus ((intro wS hSw; (try dsimp only at hSw); go_simp); try with_reducible rfl)); simp only [Act.put, List.setIfInBounds_toArray, List.set_cons_zero, List.set_cons_succ]))
    refine Plan.tree_done ?_
    go_upto_region 12 with fail
    refine Plan.wp_region_treeS (fun wx => wx.cell? ⟨b, 0, none⟩ = some (.slice (some ⟨m.gA, 0, none⟩) 8 m.gc) ∧ wx.cell? ⟨m.gA, j, none⟩ = some (.string (bs Y))) (.rd 0 (.rd 1 (.rd 2 (.rd 3 (.rd 4 (.rd 5 (.rd 6 (.rd 7 (.rd 8 (.rd 9 (.rd 10 (.rd 11 (.rd 12 (.wr 13 .done)))))))))))))) (by kernel_rfl) (by kernel_rfl) ⟨c0, l0⟩ ?_
    (repeat (refine Plan.tree_read (v := ?_) rfl rfl ?_ ?_; rotate_left; (focus ((intro wS hSw; (try dsimp only at hSw); go_simp); try with_reducible rfl)); simp only [Act.put, List.setIfInBounds_toArray, List.set_cons_zero, List.set_cons_succ]))
    (refine Plan.tree_write rfl (fun K hK => ?_); try go_simp)
    obtain ⟨w4, hw4⟩ : ∃ W, W = (w1.setCell ⟨m.gA, i, none⟩ (.string (bs Y))).drew.drew := ⟨_, rfl⟩
    have H3 : RT w0 b P w4 { t1 with lasts := upd t1.lasts i Y } ∧ RDisk w4 w0.heap.size b m { t1 with lasts := upd t1.lasts i Y } ∧ Keep P w1 w4 := by rw [hw4]; exact ⟨H2.out.1, H2.out.2.1, (Keep.of_below (Below.refl _ _).drew.drew).trans H2.out.2.2⟩
    rw [← hw4]
    obtain ⟨e0, _⟩ := rdO_cells H3.2.1.obj
    obtain ⟨l2, f2⟩ := H3.2.1.last hj8
    replace l2 : w4.cell? ⟨m.gA, j, none⟩ = some (.string (bs Y)) := by
      have e : (upd t1.lasts i Y) j = Y := by rw [upd_other _ _ (fun q => hfg (by omega))]; exact hY
      rw [l2]; show some (Value.string (bs (upd t1.lasts i Y j))) = _; rw [e]
    rw [show ad (some m.gA) = some ⟨m.gA, 0, none⟩ from rfl] at e0
    (refine hK.out _ _ (⟨e0, l2⟩) ?_; clear hK K; try simp only [Act.put, List.setIfInBounds_toArray, List.set_cons_zero, List.set_cons_succ])
    refine Plan.tree_done ?_
    have H4 := H3.1.file hj8 [] H3.2.1 hP
    rw [show bs [] = ⟨#[]⟩ from rfl] at H4
    replace H3 := Lib.hid H3
    clear H2 c0 l0 l1 f1 hw4
    obtain ⟨w5, hw5⟩ : ∃ W, W = w4.setCell ⟨m.gA, j, none⟩ (.string ⟨#[]⟩) := ⟨_, rfl⟩
    rw [← hw5] at H4
    obtain ⟨_, e1, _, _, _, _, ef⟩ := rdO_cells H4.2.1.obj
    have f5 := ef 1
    have hlt := H4.1.blt
    have KW := rwithout_any H4.1 (show t1.q.length ≤ 1000000 from hk1.q) i
    unfold dp at KW
    dsimp only at KW e1
    replace KW := Lib.hid KW
    replace H4 := Lib.hid H4
    go_upto_region 14 with fail
    rw [← hw5]
    clear hw5 ef e0 l2 f2
    go_wp2_with (go_at_call 87; (with_reducible refine KW.out.mono ?_); rintro e w6 ⟨o, c, rfl, hO, hB⟩; have y0 := (hB.cell (p := ⟨b, 1, none⟩) hlt).trans e1; have y1 := (hB.frozen (p := ⟨b, 1, none⟩) hlt).trans f5; replace hO := Lib.hid hO; replace hB := Lib.hid hB)
    go_ret
    have hob := H4.out.1.below.size
    have r := H4.out.1.queue (o := o) (c := c) (q := wo i t1.q) H4.out.2.1 hP (grown_below (row := none) hB.out) (fun g e => by cases e) (owns_low hO.out hob) (fun j e => .inr (hO.out.lt j (by rw [ad_block]; exact e)).1)
    exact ⟨rfl, r.1, ((k1.out.trans H3.out.2.2).trans H4.out.2.2).trans r.2⟩
end
end Go.Proofs.Ytmnimcdbfolhaaa

/- Cut of the reference's disk. -/
namespace Go.Proofs.Ytmnimcdbfolhaaa
open Go.RowKit DK
attribute [local go_sem] alloc_drewN setCell_drewN shape_drewN
section
variable {w0 w w' : World} {b : Nat} {P : Nat → Prop} {t : RS}
theorem cut_is (t : RS) (f n : Int) : t.cut f n = if (t.comes 0 []).down then (9, t.comes 0 []) else if num f = true ∧ 0 ≤ n ∧ n ≤ ((t.comes 0 []).all f.toNat).length then (0, { t.comes 0 [] with lasts := upd (t.comes 0 []).lasts f.toNat (((t.comes 0 []).lasts f.toNat).take n.toNat), q := RS.cutQ f.toNat (n.toNat - ((t.comes 0 []).lasts f.toNat).length) (t.comes 0 []).q }) else (1, t.comes 0 []) := rfl
theorem cutQ_at' {f r j : Nat} {q : List (Nat × Bts)} {p : Nat × Bts} (h : q[j]? = some p) : RS.cutQ f r (q.drop j) = if p.1 = f then (if p.2.take r = [] then RS.cutQ f (r - min r p.2.length) (q.drop (j + 1)) else (p.1, p.2.take r) :: RS.cutQ f (r - min r p.2.length) (q.drop (j + 1))) else (if p.2 = [] then RS.cutQ f r (q.drop (j + 1)) else p :: RS.cutQ f r (q.drop (j + 1))) := by
  have hlt := (List.getElem?_eq_some_iff.1 h).1
  have e : q.drop j = p :: q.drop (j + 1) := by rw [List.drop_eq_getElem_cons hlt, (List.getElem?_eq_some_iff.1 h).2]
  conv => lhs; rw [e]
  rfl
set_option maxRecDepth 100000 in
set_option maxHeartbeats 16000000 in
theorem rcut_any (h : RT w0 b P w t) (hk : ROk t) (hq : t.q.length ≤ 999999) (f n : Int) (hk1 : ROk (t.comes 0 [])) :
    Calls Try.prog 75 #[dp b, .int .i64 f, .int .i64 n] w fun e w' => e = .returned (.int .i64 (t.cut f n).1) ∧ RT w0 b P w' (t.cut f n).2 ∧ Keep P w w' := by
  have KC := rcomes_any h hk hq 0 [] (by simp)
  rw [cut_is]
  obtain ⟨t1, ht1⟩ : ∃ t1, t.comes 0 [] = t1 := ⟨_, rfl⟩
  rw [ht1] at KC hk1 ⊢
  have KC : Calls Try.prog 50 #[dp b, .int .i64 0, .string ⟨#[]⟩] w fun e w' => e = .returned (.tuple #[]) ∧ RT w0 b P w' t1 ∧ Keep P w w' := KC
  have KM : ∀ (wx : World), RT w0 b P wx t1 → Calls Try.prog 51 #[dp b, .int .i64 f] wx fun e w' => e = .returned (.int .i64 (t1.may f)) ∧ wx = w' := fun wx hx => rmay_any hx f
  have KS : ∀ (wx : World), RT w0 b P wx t1 → Calls Try.prog 34 #[dp b, .int .i64 f] wx fun e w' => e = .returned (.int .i64 (t1.size f)) ∧ wx = w' := fun wx hx => rsize_any hx hk1 f
  unfold dp at KC KM KS ⊢
  replace KC := Lib.hid KC
  replace KM := Lib.hid KM
  replace KS := Lib.hid KS
  clear h ht1 hk hq
  by_cases hm1 : t1.may f = 0
  case neg =>
    have hr : (if t1.down = true then (9, t1) else if num f = true ∧ 0 ≤ n ∧ n ≤ (t1.all f.toNat).length then (0, { t1 with lasts := upd t1.lasts f.toNat ((t1.lasts f.toNat).take n.toNat), q := RS.cutQ f.toNat (n.toNat - (t1.lasts f.toNat).length) t1.q }) else (1, t1)) = (t1.may f, t1) := by
      unfold RS.may at hm1 ⊢
      by_cases hd : t1.down = true
      · rw [if_pos hd, if_pos hd]
      · rw [if_neg hd] at hm1 ⊢
        rw [if_neg hd]
        by_cases hn : num f = true
        · rw [if_pos hn] at hm1; exact absurd rfl hm1
        · rw [if_neg (fun q => hn q.1), if_neg hn]
    rw [hr]
    clear hr
    obtain ⟨v, hv⟩ : ∃ v, t1.may f = v := ⟨_, rfl⟩
    rw [hv] at hm1 ⊢
    have q1 : (v == 0) = false := by rw [beq_eq_false_iff_ne]; exact hm1
    go_enter Try.func75, Try.ntmps75
    go_wp2_with fail
    go_at_call 50
    (with_reducible refine KC.out.mono ?_)
    rintro e w1 ⟨rfl, h1, k1⟩
    have KM1 := KM.out w1 h1
    rw [hv] at KM1
    replace KM1 := Lib.hid KM1
    replace h1 := Lib.hid h1
    clear hv
    go_wp2_with (go_at_call 51; (with_reducible refine KM1.out.mono ?_); rintro e w2 ⟨rfl, rfl⟩)
    go_ret
    exact ⟨rfl, h1.out, k1⟩
  case pos =>
  have hd : t1.down = false := by cases e : t1.down; rfl; unfold RS.may at hm1; rw [e, if_pos rfl] at hm1; exact absurd hm1 (by decide)
  have hn : num f = true := by
    unfold RS.may at hm1
    rw [if_neg (by rw [hd]; simp)] at hm1
    by_cases q : num f = true
    · exact q
    · rw [if_neg q] at hm1; exact absurd hm1 (by decide)
  rw [if_neg (by rw [hd]; simp)]
  have g := num_iff.1 hn
  obtain ⟨k, rfl⟩ := Int.eq_ofNat_of_zero_le g.1
  have hk8 : k < 8 := by omega
  have g3 : (0 : Int) ≤ (k : Int) ∧ (k : Int) < 8 := g
  rw [Int.toNat_natCast]
  have hS : t1.size (k : Int) = ((t1.all k).length : Int) := by unfold RS.size; rw [if_pos hn]; rfl
  have hlen := hk1.len k hk8
  have hup0 := t1.upto_le k (k := 0) (Nat.zero_le _)
  rw [RS.upto_zero] at hup0
  by_cases hn0 : n < 0
  case pos =>
    have q1 : decide (n < 0) = true := decide_eq_true hn0
    rw [if_neg (fun q => by omega)]
    go_enter Try.func75, Try.ntmps75
    go_wp2_with fail
    go_at_call 50
    (with_reducible refine KC.out.mono ?_)
    rintro e w1 ⟨rfl, h1, k1⟩
    have KM1 := KM.out w1 h1
    rw [hm1] at KM1
    replace KM1 := Lib.hid KM1
    replace h1 := Lib.hid h1
    clear hm1 hd hn hup0 hlen
    go_wp2_with (go_at_call 51; (with_reducible refine KM1.out.mono ?_); rintro e w2 ⟨rfl, rfl⟩)
    go_ret
    exact ⟨rfl, h1.out, k1⟩
  case neg =>
  have q1 : decide (n < 0) = false := decide_eq_false hn0
  obtain ⟨n, rfl⟩ := Int.eq_ofNat_of_zero_le (Int.not_lt.1 hn0)
  obtain ⟨L, hL⟩ : ∃ L, (t1.all k).length = L := ⟨_, rfl⟩
  rw [hL] at hS hlen hup0 ⊢
  rw [Int.toNat_natCast]
  by_cases hnl : L < n
  case pos =>
    have q2 : (L : Int) < (n : Int) := by omega
    rw [if_neg (fun q => by omega)]
    go_enter Try.func75, Try.ntmps75
    go_wp2_with fail
    go_at_call 50
    (with_reducible refine KC.out.mono ?_)
    rintro e w1 ⟨rfl, h1, k1⟩
    have KM1 := KM.out w1 h1
    have KS1 := KS.out w1 h1
    rw [hm1] at KM1
    rw [hS] at KS1
    replace KM1 := Lib.hid KM1
    replace KS1 := Lib.hid KS1
    replace h1 := Lib.hid h1
    clear hm1 hd hn hup0 hlen hn0 hnl hS
    go_wp2_with (first | (go_at_call 51; (with_reducible refine KM1.out.mono ?_); rintro e w2 ⟨rfl, rfl⟩) | (go_at_call 34; (with_reducible refine KS1.out.mono ?_); rintro e w2 ⟨rfl, rfl⟩))
    go_ret
    exact ⟨rfl, h1.out, k1⟩
  case neg =>
  have q2 : ¬ (L : Int) < (n : Int) := by omega
  rw [if_pos ⟨hn, by omega, by omega⟩]
  obtain ⟨X, hX⟩ : ∃ X, t1.lasts k = X := ⟨_, rfl⟩
  rw [hX] at hup0 ⊢
  have zX := bs_size X
  have hcx := bs_cut X 0 (min n X.length) (by omega)
  rw [List.drop_zero] at hcx
  obtain ⟨Y, hY⟩ : ∃ Y, X.take n = Y := ⟨_, rfl⟩
  have hY2 : X.take (min n X.length) = Y := by rw [← hY]; apply List.ext_getElem? ; intro i; simp only [List.getElem?_take]; split <;> split <;> first | rfl | omega | (rw [List.getElem?_eq_none (by omega)]) 
  rw [hY2] at hcx
  rw [hY]
  obtain ⟨mn, hmn⟩ : ∃ mn, min n X.length = mn := ⟨_, rfl⟩
  rw [hmn] at hcx
  have v1 : min (n : Int) (X.length : Int) = (mn : Int) := by omega
  have v2 : (0 : Int) ≤ (mn : Int) ∧ (mn : Int) ≤ (X.length : Int) := by omega
  obtain ⟨r0, hr0⟩ : ∃ r, n - X.length = r := ⟨_, rfl⟩
  rw [hr0]
  have v3 : IntKind.i64.wrap ((n : Int) - (X.length : Int)) = (n : Int) - (X.length : Int) := by rw [IntKind.wrap_i64]; omega
  have v4 : max ((n : Int) - (X.length : Int)) 0 = (r0 : Int) := by omega
  have hr0l : r0 ≤ 16777216 := by omega
  obtain ⟨j0, hj, hz0, hz1, hz2⟩ := Try.infoPc
  go_enter Try.func75, Try.ntmps75
  go_wp2_with fail
  go_at_call 50
  (with_reducible refine KC.out.mono ?_)
  rintro e w1 ⟨rfl, h1, k1⟩
  have KM1 := KM.out w1 h1
  have KS1 := KS.out w1 h1
  rw [hm1] at KM1
  rw [hS] at KS1
  replace KM1 := Lib.hid KM1
  replace KS1 := Lib.hid KS1
  have h1d := h1.below_ (Below.refl _ _).drew
  obtain ⟨m, hD, hP⟩ := h1.at_
  have hDd : RDisk w1.drew w0.heap.size b m t1 := hD.keep (Nat.le_refl _) fun _ _ _ => rfl
  obtain ⟨c0, _⟩ := rdO_cells hD.obj
  rw [show ad (some m.gA) = some ⟨m.gA, 0, none⟩ from rfl] at c0
  obtain ⟨l0, f0⟩ := hD.last hk8
  rw [hX] at l0
  have H2 := h1d.file hk8 Y hDd hP
  have hql := hk1.q
  obtain ⟨nq, hnq⟩ : ∃ n, Hid (n = t1.q.length) := ⟨_, rfl⟩
  rw [← hnq.out] at hql
  replace hlen := hk1.len k hk8
  rw [hL] at hlen
  replace h1 := Lib.hid h1
  replace hD := Lib.hid hD
  replace H2 := Lib.hid H2
  replace k1 := Lib.hid k1
  replace hY2 := Lib.hid hY2
  replace hY := Lib.hid hY
  replace hX := Lib.hid hX
  clear hm1 hd hn hnl hS hup0 hn0 hDd h1d KM KS hmn hr0
  go_upto_region 8 with (first | (go_at_call 51; (with_reducible refine KM1.out.mono ?_); rintro e w2 ⟨rfl, rfl⟩) | (go_at_call 34; (with_reducible refine KS1.out.mono ?_); rintro e w2 ⟨rfl, rfl⟩))
  have hglt := hD.out.glt.2
  have hblt := hD.out.lt
  refine Plan.wp_region_below 24 [(0, true), (1, true), (2, true), (3, true), (4, true), (5, true), (6, true), (7, true), (8, true), (9, true), (10, true), (11, true), (12, true), (13, true), (14, true), (15, true), (16, true), (17, true), (18, true), (19, true), (20, true), (21, true), (22, true), (23, true), (24, false)] (by kernel_rfl) (by kernel_rfl) ?_
  (repeat (first | (refine Plan.plan_read (v := ?_) rfl rfl ?_ ?_; rotate_left; (focus ((intro wS hSw; have hkS := (bcell hSw).1; go_simp); try with_reducible rfl)); simp only [Act.put, List.setIfInBounds_toArray, List.set_cons_zero, List.set_cons_succ]) | (refine Plan.plan_skip rfl rfl ?_; simp only [Act.put, List.setIfInBounds_toArray, List.set_cons_zero, List.set_cons_succ])))
  (refine Plan.plan_last rfl (fun K hK => ?_); go_simp; refine hK.out _ _ ?_; clear hK K; try simp only [Act.put, List.setIfInBounds_toArray, List.set_cons_zero, List.set_cons_succ])
  obtain ⟨w4, hw4⟩ : ∃ W, W = (w1.setCell ⟨m.gA, k, none⟩ (.string (bs Y))).drew := ⟨_, rfl⟩
  have H3 : RT w0 b P w4 { t1 with lasts := upd t1.lasts k Y } ∧ RDisk w4 w0.heap.size b m { t1 with lasts := upd t1.lasts k Y } ∧ Keep P w1 w4 := by rw [hw4]; exact ⟨H2.out.1, H2.out.2.1, (Keep.of_below (Below.refl _ _).drew).trans H2.out.2.2⟩
  rw [← hw4]
  have hlt := H3.1.blt
  replace H3 := Lib.hid H3
  clear H2 c0 l0 f0 hw4 v1 v2 hcx zX v3 v4 hglt hblt
  go_wp2_with fail
  go_loopw [8, 9, 10] (fun u8 u9 u10 wr => ∃ (j r : Nat) (O : List (Nat × Bts)) (no : Nat) (o : Option Nat) (c : Nat), j ≤ nq ∧ u10 = .int .i64 j ∧ u8 = .int .i64 r ∧ u9 = .slice (ad o) no c ∧ Hid (no = O.length) ∧ no ≤ j ∧ Hid (RS.cutQ k r0 t1.q = O ++ RS.cutQ k r (t1.q.drop j)) ∧ r ≤ 16777216 ∧ Hid (wr.ownsRow w4.heap.size 107 2 (.slice (ad o) no c) no (rowPc O)) ∧ Hid (Below w4.heap.size w4 wr)) (fun _ _ u10 _ => nq - (intOf u10).toNat)
  case atStart => exact ⟨0, r0, [], 0, none, 0, Nat.zero_le _, rfl, rfl, rfl, rfl, Nat.le_refl _, rfl, hr0l, World.ownsRow_nil _ _ _ _, Below.refl _ _⟩
  case round =>
    obtain ⟨j, r, O, no, o, c, hjn, rfl, rfl, rfl, hno, hnoj, hF, hr, hO, hB⟩ := hrel
    have hD2 := H3.out.2.1.keep hB.out.size fun g hg _ => hB.out.block g hg
    obtain ⟨_, c1, _, _, _, _, cf⟩ := rdO_cells hD2.obj
    have cf1 := cf 1
    clear cf
    dsimp only at c1
    rw [← hnq.out] at c1
    have hwz := hB.out.size
    by_cases hlt2 : j < nq
    case neg =>
      obtain rfl : j = nq := by omega
      have hF2 : RS.cutQ k r0 t1.q = O := by rw [hF.out, hnq.out, List.drop_length]; show O ++ [] = O; rw [List.append_nil]
      have hob := H3.out.1.below.size
      have r := Lib.hid (H3.out.1.queue (o := o) (c := c) (q := O) H3.out.2.1 hP (grown_below (row := none) hB.out) (fun g e => by cases e) (by rw [← hno.out]; exact owns_low hO.out hob) (fun j e => .inr (hO.out.lt j (by rw [ad_block]; exact e)).1))
      rw [← hno.out] at r
      replace hF2 := Lib.hid hF2
      clear hD2 hF
      go_wp2_with fail
      go_ret
      rw [hF2.out]
      exact ⟨rfl, r.out.1, (k1.out.trans H3.out.2.2).trans r.out.2⟩
    case pos =>
    obtain ⟨p, hpj⟩ : ∃ p, t1.q[j]? = some p := ⟨_, List.getElem?_eq_getElem (by have := hnq.out; omega)⟩
    obtain ⟨gg, hgg, hg, p0, p1⟩ := hD2.piece hpj
    have hki : (0 : Int) ≤ (j : Int) ∧ (j : Int) < (nq : Int) := by omega
    have hup := RS.upto_next (f := k) hpj
    have hle := t1.upto_le k (k := j + 1) (by have := hnq.out; omega)
    have hnx := cutQ_at' (f := k) (r := r) hpj
    rw [hgg, show ad (some gg) = some ⟨gg, 0, none⟩ from rfl] at c1
    clear hgg hD2 hpj cf1
    by_cases hf : p.1 = k
    case neg =>
      have e1 : ((p.1 : Int) == (k : Int)) = false := by rw [beq_eq_false_iff_ne]; omega
      have e2 : ¬ (p.1 : Int) = (k : Int) := by omega
      rw [if_neg hf] at hnx
      have hem : (bs p.2).toList.isEmpty = p.2.isEmpty := by rw [ByteArray.toList_eq, bs_list]
      clear hup hle hf
      cases hx0 : p.2.isEmpty
      case true =>
        rw [hx0] at hem
        rw [if_pos (List.isEmpty_iff.1 hx0)] at hnx
        have hF2 : Hid (RS.cutQ k r0 t1.q = O ++ RS.cutQ k r (t1.q.drop (j + 1))) := by show _ = _; rw [hF.out, hnx]
        have hBx := Lib.hid (hB.out.alloc hwz (.cells #[.int .i64 p.1, .string (bs p.2)] 107))
        have hOx := Lib.hid (hO.out.alloc (.cells #[.int .i64 p.1, .string (bs p.2)] 107))
        clear hF hnx hx0
        go_wp2_with fail
        go_roundw
        case rel => exact ⟨j + 1, r, O, no, o, c, by omega, by go_num, rfl, rfl, hno, by omega, hF2, hr, hOx, hBx⟩
        case measure => simp [intOf]; omega
      case false =>
        rw [hx0] at hem
        rw [if_neg (fun q => by rw [q] at hx0; cases hx0)] at hnx
        have hF2 : Hid (RS.cutQ k r0 t1.q = O ++ [p] ++ RS.cutQ k r (t1.q.drop (j + 1))) := by show _ = _; rw [hF.out, hnx, List.append_assoc]; rfl
        clear hF hnx hx0
        go_upto_region 18 with fail
        obtain ⟨wq, hwq⟩ : ∃ W, W = wr.alloc (.cells #[.int .i64 p.1, .string (bs p.2)] 107) := ⟨_, rfl⟩
        have hBq : Below wr.heap.size wr wq := by rw [hwq]; exact below_new _ _
        have k0 : wq.cell? ⟨wr.heap.size, 0, none⟩ = some (.int .i64 p.1) := by rw [hwq]; go_simp
        have k1 : wq.cell? ⟨wr.heap.size, 1, none⟩ = some (.string (bs p.2)) := by rw [hwq]; go_simp
        have hzq : wr.heap.size < wq.heap.size := by rw [hwq]; simp
        have hOq := Lib.hid (row_below hO.out hBq)
        replace hBq := Lib.hid hBq
        rw [← hwq]
        clear hwq
        go_wp2_with (at_builtin; refine wpList_append_any _ (by rfl) _ _ 96 (by rfl) w4.heap.size 107 j0 _ 2 24 Try.underlying96 hj hz0 hz1 hz2 rfl (by decide) _ no _ (by rfl) (hOq.out.alloc _) (_ + 1) (some ⟨wq.heap.size, 0, none⟩) 1 1 (pcC p) (by rfl) ⟨rfl, fun _ => ⟨_, rfl, Nat.lt_succ_self _, cells_at (by rfl) _ _⟩⟩ (fun u hu => by rcases List.mem_cons.1 hu with rfl | hu; rfl; obtain rfl := List.mem_singleton.1 hu; rfl) (by unfold maxLen; omega) (by omega) (by simp; omega) ?_; intro v' w3 hO3 hG3 hob3; obtain ⟨o3, cc3, hv3, _⟩ := ad_of_owns hO3; subst hv3)
        go_roundw
        case rel => exact ⟨j + 1, r, O ++ [p], no + 1, o3, cc3, by omega, by go_num, by first | rfl | go_num, rfl, by show _ = _; rw [List.length_append, ← hno.out]; rfl, by omega, hF2, by omega, by show World.ownsRow _ _ _ _ _ _ _; rw [rowPc_snoc]; exact hO3, hB.out.trans ((hBq.out.mono hwz).trans (below_app hOq.out (by omega) hG3))⟩
        case measure => simp [intOf]; omega
    case pos =>
    have e1 : ((p.1 : Int) == (k : Int)) = true := by rw [beq_iff_eq]; omega
    have e2 : (p.1 : Int) = (k : Int) := by omega
    rw [if_pos hf] at hup hnx
    obtain ⟨M, hM⟩ : ∃ M, p.2.length = M := ⟨_, rfl⟩
    rw [hup, List.length_append, hM] at hle
    have hML : M ≤ 16777216 := by omega
    have z1 := bs_size p.2
    rw [hM] at z1 hnx
    obtain ⟨mk, hmk⟩ : ∃ x, min r M = x := ⟨_, rfl⟩
    have hcz := bs_cut p.2 0 mk (by omega)
    obtain ⟨Z, hZ⟩ : ∃ Z, p.2.take r = Z := ⟨_, rfl⟩
    have hZ2 : p.2.take mk = Z := by
      rcases Nat.le_total r M with q | q
      · rw [← hmk, Nat.min_eq_left q]; exact hZ
      · rw [← hmk, Nat.min_eq_right q, ← hZ, List.take_of_length_le (by omega), List.take_of_length_le (by omega)]
    rw [List.drop_zero, hZ2] at hcz
    rw [hZ, hmk] at hnx
    have hZl : Z.length = mk := by rw [← hZ2, List.length_take, hM]; omega
    have z2 := bs_size Z
    rw [hZl] at z2
    have v1 : min (r : Int) (M : Int) = (mk : Int) := by omega
    have v2 : (0 : Int) ≤ (mk : Int) ∧ (mk : Int) ≤ (M : Int) := by omega
    have v3 : (r : Int) - (mk : Int) = ((r - mk : Nat) : Int) := by omega
    have v4 : IntKind.i64.wrap ((r - mk : Nat) : Int) = ((r - mk : Nat) : Int) := by rw [IntKind.wrap_i64]; omega
    have hem : (bs Z).toList.isEmpty = Z.isEmpty := by rw [ByteArray.toList_eq, bs_list]
    have hpe : (p.1, Z) = (k, Z) := by rw [hf]
    clear hup hle hf hmk hZ hZ2
    cases hx0 : Z.isEmpty
    case true =>
      rw [hx0] at hem
      rw [if_pos (List.isEmpty_iff.1 hx0)] at hnx
      have hF2 : Hid (RS.cutQ k r0 t1.q = O ++ RS.cutQ k (r - mk) (t1.q.drop (j + 1))) := by show _ = _; rw [hF.out, hnx]
      have hBx0 := below_new wr (.cells #[.int .i64 k, .string (bs Z)] 107)
      have hBx := Lib.hid (hB.out.trans (hBx0.mono hwz))
      have hOx := Lib.hid (row_below hO.out hBx0)
      clear hF hnx hx0 hBx0
      go_wp2_with fail
      go_roundw
      case rel => exact ⟨j + 1, r - mk, O, no, o, c, by omega, by go_num, by first | rfl | go_num, rfl, hno, by omega, hF2, by omega, hOx, hBx⟩
      case measure => simp [intOf]; omega
    case false =>
      rw [hx0] at hem
      rw [if_neg (fun q => by rw [q] at hx0; cases hx0), hpe] at hnx
      have hF2 : Hid (RS.cutQ k r0 t1.q = O ++ [(k, Z)] ++ RS.cutQ k (r - mk) (t1.q.drop (j + 1))) := by show _ = _; rw [hF.out, hnx, List.append_assoc]; rfl
      clear hF hnx hx0 hpe
      go_upto_region 18 with fail
      obtain ⟨wq, hwq⟩ : ∃ W, W = wr.alloc (.cells #[.int .i64 k, .string (bs Z)] 107) := ⟨_, rfl⟩
      have hBq : Below wr.heap.size wr wq := by rw [hwq]; exact below_new _ _
      have k0 : wq.cell? ⟨wr.heap.size, 0, none⟩ = some (.int .i64 k) := by rw [hwq]; go_simp
      have k1 : wq.cell? ⟨wr.heap.size, 1, none⟩ = some (.string (bs (k, Z).2)) := by rw [hwq]; go_simp
      have hzq : wr.heap.size < wq.heap.size := by rw [hwq]; simp
      have hOq := Lib.hid (row_below hO.out hBq)
      replace hBq := Lib.hid hBq
      rw [← hwq]
      clear hwq
      go_wp2_with (at_builtin; refine wpList_append_any _ (by rfl) _ _ 96 (by rfl) w4.heap.size 107 j0 _ 2 24 Try.underlying96 hj hz0 hz1 hz2 rfl (by decide) _ no _ (by rfl) (hOq.out.alloc _) (_ + 1) (some ⟨wq.heap.size, 0, none⟩) 1 1 (pcC (k, Z)) (by rfl) ⟨rfl, fun _ => ⟨_, rfl, Nat.lt_succ_self _, cells_at (by rfl) _ _⟩⟩ (fun u hu => by rcases List.mem_cons.1 hu with rfl | hu; rfl; obtain rfl := List.mem_singleton.1 hu; rfl) (by unfold maxLen; omega) (by omega) (by simp; omega) ?_; intro v' w3 hO3 hG3 hob3; obtain ⟨o3, cc3, hv3, _⟩ := ad_of_owns hO3; subst hv3)
      go_roundw
      case rel => exact ⟨j + 1, r - mk, O ++ [(k, Z)], no + 1, o3, cc3, by omega, by go_num, by first | rfl | go_num, rfl, by show _ = _; rw [List.length_append, ← hno.out]; rfl, by omega, hF2, by omega, by show World.ownsRow _ _ _ _ _ _ _; rw [rowPc_snoc]; exact hO3, hB.out.trans ((hBq.out.mono hwz).trans (below_app hOq.out (by omega) hG3))⟩
      case measure => simp [intOf]; omega
end
end Go.Proofs.Ytmnimcdbfolhaaa

