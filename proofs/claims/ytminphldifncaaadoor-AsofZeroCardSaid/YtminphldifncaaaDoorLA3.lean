/- AsofZero answers true for every input. -/
import Derived.Test.YtminphldifncaaaDoorA8
set_option linter.unusedSimpArgs false
set_option linter.unusedVariables false
namespace Go.Proofs.YtminphldifncaaaDoor
open Go.RowKit LG
attribute [local go_sem] alloc_drewN setCell_drewN shape_drewN

set_option maxRecDepth 100000 in
set_option maxHeartbeats 1000000 in
theorem zero_any' (l : List Et) (C : Option Addr) (cc : Nat) (owner day known : Int) (w : World) (hT : Tabs w) (hC : EntsAt w w.heap.size C l) (hl : l.length ≤ 9223372036854775807) (hI : LitsIn l) :
    Calls Tryd.prog 4 #[.slice C l.length cc, .int .i64 owner, .int .i64 day, .int .i64 known] w fun e w' => e = .returned (.bool true) ∧ Below w.heap.size w w' := by
  go_enter Tryd.func4, Tryd.ntmps4
  go_wp2_with fail
  go_at_call 9
  refine (small_any w hT).mono ?_
  rintro e1 w1 ⟨rfl, hb1⟩
  by_cases g1 : 40 < l.length
  · have d1 : decide ((40 : Int) < (l.length : Int)) = true := decide_eq_true (by omega)
    go_wp2_with fail
    go_ret
    exact ⟨rfl, hb1⟩
  have d1 : decide ((40 : Int) < (l.length : Int)) = false := decide_eq_false (by omega)
  by_cases g2 : owner < 0
  · have d2 : decide (owner < 0) = true := decide_eq_true g2
    go_wp2_with fail
    go_ret
    exact ⟨rfl, hb1⟩
  have d2 : decide (owner < 0) = false := decide_eq_false g2
  have KP := Lib.hid (posts_any l C cc w1 (hC.below hb1) hb1.size hl hI)
  have hled := posts_led l
  have hlen := posts_len l
  have hin := posts_in hI
  generalize postsR l = a at KP hled hlen hin
  have hsm := small_le hled.ok (by omega)
  have hz1 := hled.account (by omega) day known
  have hab := fun f => sumF_abs f a
  go_wp2_with fail
  go_at_call 11
  refine KP.out.mono ?_
  rintro e2 w2 ⟨D, dc, rfl, hdc, hD, hb2⟩
  clear KP
  go_wp2_with fail
  go_at_call 17
  refine (new_any w2).mono ?_
  rintro e3 w3 ⟨rfl, hzq, hm3, hx3, hb3⟩
  have z23 : w2.heap.size + 1 < w3.heap.size := by omega
  clear hzq
  have hix := IxAt.fresh (base := w3.heap.size) hm3 hx3 (by omega) z23 (Nat.le_refl _)
  have KA := Lib.hid (add_any w3.heap.size (w2.heap.size + 1) w2.heap.size [] a D dc w3 hix (hD.below hb3) (Nat.le_refl _) (by omega) (by simp))
  rw [List.nil_append] at KA
  have z12 := hb2.size
  have z01 := hb1.size
  have hb03 := (hb1.trans (hb2.mono z01)).trans (hb3.mono (by omega))
  clear hix hm3 hx3
  go_wp2_with fail
  go_at_call 18
  refine KA.out.mono ?_
  rintro e4 w4 ⟨rfl, hX4, ho4⟩
  have hb34 : Below w2.heap.size w3 w4 := ho4.below (Nat.le_refl _) (by omega) z23
  have hb04 := Lib.hid (hb03.trans (hb34.mono (by omega)))
  have hX4 := Lib.hid hX4
  have z34 := ho4.size
  obtain ⟨bs0, hbs0⟩ : ∃ m, w3.heap.size = m := ⟨_, rfl⟩
  rw [hbs0] at hX4
  clear KA ho4
  have hz1 := Lib.hid hz1
  obtain ⟨F, hF⟩ : ∃ F : Nat → Int, F = fun j => sumF (fun e => inPl (j : Nat) e && accB owner (-1) day known e) a := ⟨_, rfl⟩
  have hF0 : Hid (F 0 = 0) := by show _ = _; rw [hF]; exact places_zero
  have hFs : Hid (∀ j : Nat, F (j + 1) = F j + account a owner j day known) := fun j => by rw [hF, account_eq hsm]; exact places_step j
  have hFe : Hid (F 64 = account a owner (-1) day known) := by show _ = _; rw [hF, account_eq hsm]; exact places_all hled.ok
  have hFb : Hid (∀ j, -144115188075855872 ≤ F j ∧ F j ≤ 144115188075855872) := fun j => by have h := hab (fun e => inPl (j : Nat) e && accB owner (-1) day known e); simp only [hF]; exact ⟨by omega, by omega⟩
  clear hF hab
  go_wp2_with fail
  go_loopw [12, 13] (fun u12 u13 wr => ∃ j : Nat, j ≤ 64 ∧ u13 = .int .i64 j ∧ u12 = .int .i64 (F j) ∧ Hid (IxAt wr bs0 (w2.heap.size + 1) w2.heap.size a) ∧ Hid (Below w.heap.size w wr)) (fun _ u13 _ => 64 - (intOf u13).toNat)
  case atStart => exact ⟨0, by omega, rfl, by rw [hF0.out], hX4, hb04⟩
  case round =>
    obtain ⟨j, hj, rfl, rfl, hX, hb⟩ := hrel
    by_cases hlt : j < 64
    · have K := Lib.hid (ixat_any _ _ _ a owner j day known wr hX.out (by omega) hin)
      obtain ⟨ac, hac⟩ : ∃ x, account a owner j day known = x := ⟨_, rfl⟩
      rw [hac] at K
      have hst := hFs.out j
      rw [hac] at hst
      have hb9 := hFb.out (j + 1)
      rw [hst] at hb9
      obtain ⟨Fj, hFj⟩ : ∃ x, F j = x := ⟨_, rfl⟩
      rw [hFj] at hst hb9 ⊢
      have hw1 : wrap64 (Fj + ac) = Fj + ac := IntWalk.wrap64_in _ (by omega)
      have hw2 : IntKind.i64.wrap (Fj + ac) = Fj + ac := by rw [IntKind.wrap_i64]; omega
      have hst := Lib.hid hst
      have hFj := Lib.hid hFj
      clear hac
      go_wp2_with (first | (go_at_call 19; refine K.out.mono ?_; rintro e5 w5 ⟨rfl, hb5⟩) | fail)
      go_roundw
      case rel => exact ⟨j + 1, by omega, by go_num, by first | (rw [hst.out]; go_num) | (rw [hst.out, hw1]) | rw [hst.out], hX.out.below hb5, hb.out.trans (hb5.mono hb.out.size)⟩
      case measure => simp [intOf]; omega
    · have hje : j = 64 := by omega
      subst hje
      have K1 := Lib.hid (ixat_any _ _ _ a (-1) (-1) day known wr hX.out (by omega) hin)
      rw [hz1.out] at K1
      rw [hFe.out]
      obtain ⟨ac, hac⟩ : ∃ x, account a owner (-1) day known = x := ⟨_, rfl⟩
      rw [hac]
      have hac := Lib.hid hac
      go_wp2_with (first | (go_at_call 19; (with_reducible refine K1.out.mono ?_); rintro e5 w5 ⟨rfl, hb5⟩; have K2 := Lib.hid (ixat_any _ _ _ a owner (-1) day known w5 (hX.out.below hb5) (by omega) hin); rw [hac.out] at K2) | (go_at_call 19; (with_reducible refine K2.out.mono ?_); rintro e6 w6 ⟨rfl, hb6⟩) | fail)
      go_ret
      exact ⟨rfl, hb.out.trans ((hb5.trans (hb6.mono hb5.size)).mono hb.out.size)⟩
end Go.Proofs.YtminphldifncaaaDoor
