/- The walk of found. -/
import Derived.Test.YtmnimcdbfolhaaaX4
import Derived.Test.YtmnimcdbfolhaaaL1
set_option linter.unusedSimpArgs false
set_option linter.unusedVariables false
namespace Go.Proofs.Ytmnimcdbfolhaaa
open Go.RowKit DK
attribute [local go_sem] alloc_drewN setCell_drewN shape_drewN
theorem Keep.cells4 {P : Nat → Prop} {w w' : World} (k : Keep P w w') {N : Nat} {o : Obj} (h : w.heap[N]? = some o) (hp : P N) : w'.heap[N]? = some o := by
  have hl : N < w.heap.size := (Array.getElem?_eq_some_iff.1 h).1
  exact (k.block N hl hp).trans h
theorem pfx_len {a b : List Bts} (h : pfx a b = true) : b.length ≤ a.length := by
  obtain ⟨t, rfl⟩ := pfx_iff.1 h
  simp
set_option maxRecDepth 100000 in
set_option maxHeartbeats 8000000 in
theorem found_any {w0 w : World} {b n : Nat} {P : Nat → Prop} {s : St} (hp : HopeC) (H : HasP w0 b P n w s) (hn : n ≤ 99999) (hA : StrsP P w hp.AA hp.all) (hH : StrsP P w hp.HA hp.hs) (hF : StrsP P w hp.FA hp.fr) (lA : hp.all.length ≤ 100000) (lH : hp.hs.length ≤ 100000) (lF : hp.fr.length ≤ 100000)
    (h1 : pfx hp.all (rowsOf (s.data 2)) = true) (h2 : pfx (rowsOf (s.data 2)) hp.hs = true) :
    Calls Try.prog 38 #[dp b, hp.val] w fun e w' => e = .returned (.bool true) ∧ Below w0.heap.size w0 w' := by
  obtain ⟨AA, ac, all, HA, hcc, hs, FA, fc, fr, T⟩ := hp
  unfold HopeC.val
  dsimp only at hA hH hF lA lH lF h1 h2 ⊢
  obtain ⟨RR, hRR⟩ : ∃ R, rowsOf (s.data 2) = R := ⟨_, rfl⟩
  rw [hRR] at h1 h2
  have lR := pfx_len h1
  obtain ⟨NA, hNA⟩ : ∃ m, all.length = m := ⟨_, rfl⟩
  obtain ⟨NH, hNH⟩ : ∃ m, hs.length = m := ⟨_, rfl⟩
  obtain ⟨NF, hNF⟩ : ∃ m, fr.length = m := ⟨_, rfl⟩
  obtain ⟨NR, hNR⟩ : ∃ m, RR.length = m := ⟨_, rfl⟩
  rw [hNA, hNH, hNF]
  rw [hNA] at lA lR
  rw [hNH] at lH
  rw [hNF] at lF
  rw [hNR] at lR
  obtain ⟨N, hN⟩ : ∃ N, w.heap.size = N := ⟨_, rfl⟩
  obtain ⟨w1, hw1⟩ : ∃ W, W = w.alloc (.cells #[.slice AA NA ac, .slice HA NH hcc, .slice FA NF fc, .bool T] 64) := ⟨_, rfl⟩
  have hb1 : Below w.heap.size w w1 := by rw [hw1]; exact below_new _ _
  have hz1 : w1.heap.size = N + 1 := by rw [hw1]; simp [hN]
  have hX1 : w1.heap[N]? = some (.cells #[.slice AA NA ac, .slice HA NH hcc, .slice FA NF fc, .bool T] 64 (0, 0)) := by rw [hw1, ← hN]; exact World.alloc_heap_new _ _
  have H1 := H.with_ hb1 (Q := fun k => k = N) (fun k q => by omega)
  have k1 : Keep P w w1 := Keep.of_below hb1
  have KS := Lib.hid (H1.start rfl)
  rw [hw1] at KS
  unfold dp at KS ⊢
  replace hw1 := Lib.hid hw1
  go_enter Try.func38, Try.ntmps38
  go_wp2_with fail
  go_at_call 24
  refine KS.out.mono ?_
  rintro e w2 ⟨rfl, H2, k2⟩
  rw [← hw1.out] at k2
  clear hw1
  have KL := Lib.hid (H2.lose 0 (by omega) rfl)
  unfold dp at KL
  go_wp2_with fail
  go_at_call 59
  refine KL.out.mono ?_
  rintro e w3 ⟨rfl, H3, k3⟩
  have KR := Lib.hid (H3.arm (A := none) (c := 0) (keep := []) 0 (by omega) (Apart.nil _ _ _ _) (by simp) rfl)
  unfold dp at KR
  go_wp2_with fail
  go_at_call 61
  refine KR.out.mono ?_
  rintro e w4 ⟨rfl, H4, k4⟩
  have hU : Up (DK.arm (DK.lose (DK.start s) 0) 0 []) := ⟨rfl, rfl, rfl⟩
  have KO := Lib.hid (open_yes H4 2 (by omega) (open_up hU (f := 2) (by omega)) (R := RR) hRR)
  unfold dp at KO
  go_wp2_with fail
  go_at_call 17
  refine KO.out.mono ?_
  rintro e w5 ⟨lx, rfl, hW5, k5, -⟩
  have kk := ((k2.trans k3).trans k4).trans k5
  have hX5 := kk.cells4 hX1 (.inr rfl)
  have kP := k1.trans (kk.sub fun k q => .inl q)
  have sA5 := hA.keep kP
  have sH5 := hH.keep kP
  have sF5 := hF.keep kP
  have hz5 := kk.size
  have KA := Lib.hid (all_any hW5 (by omega))
  unfold StrsNew at KA
  rw [hNR] at KA
  clear KS KL KR KO H1 H2 H3 H4 k2 k3 k4 k5 hX1 hU
  unfold lp at KA ⊢
  go_wp2_with fail
  go_at_call 25
  refine KA.out.mono ?_
  rintro e w6 ⟨hb6, o6, c6, rfl, hO6⟩
  clear KA
  have hX6 := (hb6.block N (by omega)).trans hX5
  have sA6 := sA5.below hb6
  have sH6 := sH5.below hb6
  have sF6 := sF5.below hb6
  have hz6 : N < w6.heap.size := by have := hb6.size; omega
  replace hW5 := Lib.hid hW5
  obtain ⟨x0, x1, x2, x3, xf⟩ := c4of hX6
  have sO6 : StrsAt w6 w6.heap.size (ad o6) RR := (strs_of_owns (l := RR) (by rw [hNR]; exact hO6)).at_
  cases T
  · have hb7 : Below w6.heap.size w6 w6 := Below.refl _ _
    go_upto_region 10 with fail
    obtain ⟨w7, hw7⟩ : ∃ W, W = w6 := ⟨_, rfl⟩
    have hb7 : Below w6.heap.size w6 w7 := by rw [hw7]; exact Below.refl _ _
    rw [← hw7]
    clear hw7
    have hW5 := hW5.out
    clear x0 x1 x2 x3 xf
    have sA7 := (sA6.below hb7).at_
    have sH7 := (sH6.below hb7).at_
    have sO7 : StrsAt w7 w7.heap.size (ad o6) RR := sO6.on hb7
    have hX7 := (hb7.block N (by omega)).trans hX6
    obtain ⟨y0, y1, y2, y3, yf⟩ := c4of hX7
    have KB := Lib.hid (begins_any AA ac all (ad o6) c6 RR w7 sA7 sO7 (by omega) (by omega))
    rw [hNA, hNR, h1] at KB
    go_wp2_with (first | (go_at_call 13; refine KB.out.mono ?_; rintro e w8 ⟨rfl, hb8⟩; have KC := Lib.hid (begins_any (ad o6) c6 RR HA hcc hs w8 (sO7.on hb8) (sH7.on hb8) (by omega) (by omega)); rw [hNH, hNR, h2] at KC; obtain ⟨z0, z1, z2, z3, zf⟩ := c4of ((hb8.block N (by have := hb7.size; omega)).trans hX7); clear KB) | (go_at_call 13; refine KC.out.mono ?_; rintro e w9 ⟨rfl, hb9⟩) | fail)
    go_ret
    exact ⟨rfl, hW5.below.trans ((((hb6.trans (hb7.mono hb6.size)).trans (hb8.mono (Nat.le_trans hb6.size hb7.size))).trans (hb9.mono (Nat.le_trans hb6.size (Nat.le_trans hb7.size hb8.size)))).mono hW5.below.size)⟩
  · have KM := Lib.hid (same_any (ad o6) c6 RR FA fc fr w6 sO6 sF6.at_ (by omega) (by omega))
    rw [hNF, hNR] at KM
    obtain ⟨g, hg⟩ : ∃ g, same RR fr = g := ⟨_, rfl⟩
    rw [hg] at KM
    cases g
    · go_upto_region 10 with (first | (go_at_call 14; refine KM.out.mono ?_; rintro e w7 ⟨rfl, hb7⟩) | fail)
      have hW5 := hW5.out
      clear x0 x1 x2 x3 xf
      have sA7 := (sA6.below hb7).at_
      have sH7 := (sH6.below hb7).at_
      have sO7 : StrsAt w7 w7.heap.size (ad o6) RR := sO6.on hb7
      have hX7 := (hb7.block N (by omega)).trans hX6
      obtain ⟨y0, y1, y2, y3, yf⟩ := c4of hX7
      have KB := Lib.hid (begins_any AA ac all (ad o6) c6 RR w7 sA7 sO7 (by omega) (by omega))
      rw [hNA, hNR, h1] at KB
      go_wp2_with (first | (go_at_call 13; refine KB.out.mono ?_; rintro e w8 ⟨rfl, hb8⟩; have KC := Lib.hid (begins_any (ad o6) c6 RR HA hcc hs w8 (sO7.on hb8) (sH7.on hb8) (by omega) (by omega)); rw [hNH, hNR, h2] at KC; obtain ⟨z0, z1, z2, z3, zf⟩ := c4of ((hb8.block N (by have := hb7.size; omega)).trans hX7); clear KB) | (go_at_call 13; refine KC.out.mono ?_; rintro e w9 ⟨rfl, hb9⟩) | fail)
      go_ret
      exact ⟨rfl, hW5.below.trans ((((hb6.trans (hb7.mono hb6.size)).trans (hb8.mono (Nat.le_trans hb6.size hb7.size))).trans (hb9.mono (Nat.le_trans hb6.size (Nat.le_trans hb7.size hb8.size)))).mono hW5.below.size)⟩
    · go_wp2_with (first | (go_at_call 14; refine KM.out.mono ?_; rintro e w7 ⟨rfl, hb7⟩) | fail)
      go_ret
      exact ⟨rfl, hW5.out.below.trans ((hb6.trans (hb7.mono hb6.size)).mono hW5.out.below.size)⟩
end Go.Proofs.Ytmnimcdbfolhaaa
