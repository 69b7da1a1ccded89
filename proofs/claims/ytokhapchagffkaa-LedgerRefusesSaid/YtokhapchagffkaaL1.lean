/- LedgerTells: for every input the law answers true. (Printed by gen_l1.py.) -/
import Derived.Test.YtokhapchagffkaaW15
set_option linter.unusedSimpArgs false
set_option linter.unusedVariables false
namespace Go.Proofs.Ytokhapchagffkaa
open Go.RowKit LG
attribute [local go_sem] alloc_drewN setCell_drewN shape_drewN
theorem sameL_refl {α : Type} [DecidableEq α] (A : List α) : SameL A A = true := by unfold SameL; exact decide_eq_true rfl
theorem pure_below' {w w' : World} (h : ∃ n, w' = w.drewN n) : Below w.heap.size w w' := by obtain ⟨n, rfl⟩ := h; exact below_drewN (Below.refl _ _) n

set_option maxRecDepth 100000 in
set_option maxHeartbeats 8000000 in
theorem tells_any (L E : List Et) (C D : Option Addr) (cl ce : Nat) (owner place day known from1 : Int) (w : World) (hC : EntsAt w w.heap.size C L) (hD : EntsAt w w.heap.size D E)
    (hl : L.length ≤ 9223372036854775807) (hl2 : E.length ≤ 9223372036854775807) (hI1 : LitsIn L) (hI2 : LitsIn E) :
    Calls Try.prog 3 #[.slice C L.length cl, .slice D E.length ce, .int .i64 owner, .int .i64 place, .int .i64 day, .int .i64 known, .int .i64 from1] w (BoolIs true w) := by
  have K0 := Lib.hid (fun wx => small_any wx)
  by_cases hall : L.length ≤ 40 ∧ E.length ≤ 40
  case neg =>
    by_cases h1 : 40 < L.length
    · go_enter Try.func3, Try.ntmps3
      go_wp2_with (first | (go_at_call 8; ((with_reducible refine (K0.out _).mono ?_); rintro e1 w1 ⟨rfl, hb1⟩)) | fail)
      go_ret
      exact ⟨rfl, hb1⟩
    · have h2 : 40 < E.length := by omega
      go_enter Try.func3, Try.ntmps3
      go_wp2_with (first | (go_at_call 8; ((with_reducible refine (K0.out _).mono ?_); rintro e1 w1 ⟨rfl, hb1⟩)) | fail)
      go_ret
      exact ⟨rfl, hb1⟩
  obtain ⟨f1, f2⟩ := hall
  obtain ⟨rl, hrl⟩ : ∃ rl, (postR L E).1 = rl := ⟨_, rfl⟩
  obtain ⟨rn, hrn⟩ : ∃ rn, (postR L E).2 = rn := ⟨_, rfl⟩
  have hlen : rl.length ≤ 80 := by have := postR_len (l := L) (p := E); rw [hrl] at this; omega
  have hr : postR L E = (rl, rn) := by rw [← hrl, ← hrn]
  clear hrl hrn
  obtain ⟨ac, hac⟩ : ∃ ac, account L owner place day known = ac := ⟨_, rfl⟩
  obtain ⟨ba, hba⟩ : ∃ ba, balanced L known = ba := ⟨_, rfl⟩
  obtain ⟨li, hli⟩ : ∃ li, linesR L owner from1 day known = li := ⟨_, rfl⟩
  have hll : li.length ≤ 40 := by rw [← hli]; unfold linesR; rw [insSort_len]; have := List.length_filter_le (lineB owner from1 day known) L; omega
  have KP : Hid (∀ wx, Below w.heap.size w wx → Calls Try.prog 9 #[.slice C L.length cl, .slice D E.length ce] wx (fun x w' => ∃ F f, x = .returned (.tuple #[.slice F rl.length f, .int .i64 rn]) ∧ EntsAt w' w'.heap.size F rl ∧ Below wx.heap.size wx w')) := fun wx h =>
    (post_any L E C D cl ce wx (hC.below h) (hD.below h) h.size (by omega) (by omega) hI1 hI2).mono fun x w' ⟨F, f, he, _, hF, _, hb⟩ => by
      rw [hr] at he hF
      exact ⟨F, f, he, hF, hb⟩
  have KQ : Hid (∀ wx, Below w.heap.size w wx → Calls Try.prog 10 #[.slice C L.length cl, .slice D E.length ce] wx (fun x w' => ∃ F f, x = .returned (.tuple #[.slice F rl.length f, .int .i64 rn]) ∧ EntsAt w' w'.heap.size F rl ∧ Below wx.heap.size wx w')) := fun wx h =>
    (rpost_any L E C D cl ce wx (hC.below h) (hD.below h) h.size (by omega) (by omega) hI1 hI2).mono fun x w' ⟨F, f, he, _, hF, _, hb⟩ => by
      rw [hr] at he hF
      exact ⟨F, f, he, hF, hb⟩
  have KS : Hid (∀ F f G g wx, EntsAt wx wx.heap.size F rl → EntsAt wx wx.heap.size G rl → Calls Try.prog 11 #[.slice F rl.length f, .slice G rl.length g] wx (BoolIs true wx)) := fun F f G g wx h1 h2 =>
    (rsame_any rl rl F G f g wx h1 h2 (by omega) (by omega)).mono fun x w' ⟨he, h⟩ => ⟨by rw [he, sameL_refl], pure_below' h⟩
  have KT : Hid (∀ F f G g wx, EntsAt wx wx.heap.size F li → EntsAt wx wx.heap.size G li → Calls Try.prog 11 #[.slice F li.length f, .slice G li.length g] wx (BoolIs true wx)) := fun F f G g wx h1 h2 =>
    (rsame_any li li F G f g wx h1 h2 (by omega) (by omega)).mono fun x w' ⟨he, h⟩ => ⟨by rw [he, sameL_refl], pure_below' h⟩
  have KA : Hid (∀ wx, Below w.heap.size w wx → Calls Try.prog 12 #[.slice C L.length cl, .int .i64 owner, .int .i64 place, .int .i64 day, .int .i64 known] wx (IntBe ac wx)) := fun wx h => by have := account_any L C cl owner place day known wx (hC.below h) h.size (by omega) hI1; rw [hac] at this; exact this
  have KB : Hid (∀ wx, Below w.heap.size w wx → Calls Try.prog 13 #[.slice C L.length cl, .int .i64 owner, .int .i64 place, .int .i64 day, .int .i64 known] wx (IntBe ac wx)) := fun wx h => by have := raccount_any L C cl owner place day known wx (hC.below h) h.size (by omega) hI1; rw [hac] at this; exact this
  have KC : Hid (∀ wx, Below w.heap.size w wx → Calls Try.prog 14 #[.slice C L.length cl, .int .i64 known] wx (BoolIs ba wx)) := fun wx h => by have := balanced_any L C cl known wx (hC.below h) h.size (by omega) hI1; rw [hba] at this; exact this
  have KD : Hid (∀ wx, Below w.heap.size w wx → Calls Try.prog 15 #[.slice C L.length cl, .int .i64 known] wx (BoolIs ba wx)) := fun wx h => by have := rbalanced_any L C cl known wx (hC.below h) h.size (by omega) hI1; rw [hba] at this; exact this
  have KL : Hid (∀ wx, Below w.heap.size w wx → Calls Try.prog 16 #[.slice C L.length cl, .int .i64 owner, .int .i64 from1, .int .i64 day, .int .i64 known] wx (fun e w' => ∃ C cc, e = .returned (.slice C li.length cc) ∧ EntsAt w' w'.heap.size C li ∧ Below wx.heap.size wx w')) := fun wx h => (lines_any L C cl owner from1 day known wx (hC.below h) h.size (by omega)).mono fun e w' ⟨C, cc, he, _, hE, hb⟩ => by
      rw [hli] at he hE
      exact ⟨C, cc, he, hE, hb⟩
  have KM : Hid (∀ wx, Below w.heap.size w wx → Calls Try.prog 17 #[.slice C L.length cl, .int .i64 owner, .int .i64 from1, .int .i64 day, .int .i64 known] wx (fun e w' => ∃ C cc, e = .returned (.slice C li.length cc) ∧ EntsAt w' w'.heap.size C li ∧ Below wx.heap.size wx w')) := fun wx h => (rlines_any L C cl owner from1 day known wx (hC.below h) h.size (by omega)).mono fun e w' ⟨C, cc, he, _, hE, hb⟩ => by
      rw [hli] at he hE
      exact ⟨C, cc, he, hE, hb⟩
  have hlr : rl.length ≤ 80 := hlen
  clear hr hac hba hli hC hD hI1 hI2
  go_enter Try.func3, Try.ntmps3
  go_wp2_with fail
  go_at_call 8
  (with_reducible refine (K0.out _).mono ?_)
  rintro x1 w1 ⟨rfl, hb1⟩
  have hB1 := hb1
  go_wp2_with fail
  go_at_call 9
  (with_reducible refine (KP.out _ hB1).mono ?_)
  rintro x2 w2 ⟨F, f, rfl, hF, hb2⟩
  have hB2 := hB1.trans (hb2.mono hB1.size)
  go_wp2_with fail
  go_at_call 10
  (with_reducible refine (KQ.out _ hB2).mono ?_)
  rintro x3 w3 ⟨G, g, rfl, hG, hb3⟩
  have hB3 := hB2.trans (hb3.mono hB2.size)
  replace hF := (hF.below hb3).more hb3.size
  go_wp2_with fail
  go_at_call 11
  (with_reducible refine (KS.out _ _ _ _ _ hF hG).mono ?_)
  rintro x4 w4 ⟨rfl, hb4⟩
  have hB4 := hB3.trans (hb4.mono hB3.size)
  clear hF hG KP KQ KS K0
  go_wp2_with fail
  go_at_call 12
  (with_reducible refine (KA.out _ hB4).mono ?_)
  rintro x5 w5 ⟨rfl, hb5⟩
  have hB5 := hB4.trans (hb5.mono hB4.size)
  go_wp2_with fail
  go_at_call 13
  (with_reducible refine (KB.out _ hB5).mono ?_)
  rintro x6 w6 ⟨rfl, hb6⟩
  have hB6 := hB5.trans (hb6.mono hB5.size)
  go_wp2_with fail
  go_at_call 14
  (with_reducible refine (KC.out _ hB6).mono ?_)
  rintro x7 w7 ⟨rfl, hb7⟩
  have hB7 := hB6.trans (hb7.mono hB6.size)
  go_wp2_with fail
  go_at_call 15
  (with_reducible refine (KD.out _ hB7).mono ?_)
  rintro x8 w8 ⟨rfl, hb8⟩
  have hB8 := hB7.trans (hb8.mono hB7.size)
  cases ba
  all_goals
      go_wp2_with fail
      go_at_call 16
      (with_reducible refine (KL.out _ hB8).mono ?_)
      rintro x9 w9 ⟨F, f, rfl, hF, hb9⟩
      have hB9 := hB8.trans (hb9.mono hB8.size)
      go_wp2_with fail
      go_at_call 17
      (with_reducible refine (KM.out _ hB9).mono ?_)
      rintro x10 w10 ⟨G, g, rfl, hG, hb10⟩
      have hB10 := hB9.trans (hb10.mono hB9.size)
      replace hF := (hF.below hb10).more hb10.size
      go_wp2_with fail
      go_at_call 11
      (with_reducible refine (KT.out _ _ _ _ _ hF hG).mono ?_)
      rintro x11 w11 ⟨rfl, hb11⟩
      have hB11 := hB10.trans (hb11.mono hB10.size)
      go_wp2_with fail
      go_ret
      exact ⟨rfl, hB11⟩
end Go.Proofs.Ytokhapchagffkaa
