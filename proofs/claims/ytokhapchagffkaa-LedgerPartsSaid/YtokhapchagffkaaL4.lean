/- LedgerParts: for every input the law answers true. (Printed by gen_l4.py.) -/
import Derived.Deep.Cut
import Derived.Test.YtokhapchagffkaaLB
set_option linter.unusedSimpArgs false
set_option linter.unusedVariables false
namespace Go.Proofs.Ytokhapchagffkaa
open Go.RowKit LG
attribute [local go_sem] alloc_drewN setCell_drewN shape_drewN
set_option maxRecDepth 100000 in
set_option maxHeartbeats 8000000 in
theorem parts_any (ps : List (List Et)) (C : Option Addr) (cc : Nat) (owner place day known : Int) (w : World) (hC : PostsAt w w.heap.size C ps) (hl : ps.length ≤ 9223372036854775807) (hn : ∀ p ∈ ps, p.length ≤ 9223372036854775807) (hP : PsIn ps) :
    Calls Try.prog 6 #[.slice C ps.length cc, .int .i64 owner, .int .i64 place, .int .i64 day, .int .i64 known] w (BoolIs true w) := by
  have K0 := Lib.hid (fun wx => small_any wx)
  obtain ⟨fv, hfv⟩ : ∃ fv, fewB ps = fv := ⟨_, rfl⟩
  have K1 : Hid (∀ wx, Below w.heap.size w wx → Calls Try.prog 18 #[.slice C ps.length cc] wx (fun e w' => e = .returned (.bool fv) ∧ wx = w')) := fun wx h => by have := few_any ps C cc wx (hC.below h) hl hn; rw [hfv] at this; exact this
  cases fv
  case false =>
    clear hfv
    go_enter Try.func6, Try.ntmps6
    go_wp2_with (first | (go_at_call 8; ((with_reducible refine (K0.out _).mono ?_); rintro e1 w1 ⟨rfl, hb1⟩)) | (go_at_call 18; ((with_reducible refine (K1.out _ hb1).mono ?_); rintro e2 w2 ⟨rfl, rfl⟩)) | fail)
    go_ret
    exact ⟨rfl, hb1⟩
  by_cases ho : owner < 0
  · clear hfv
    go_enter Try.func6, Try.ntmps6
    go_wp2_with (first | (go_at_call 8; ((with_reducible refine (K0.out _).mono ?_); rintro e1 w1 ⟨rfl, hb1⟩)) | (go_at_call 18; ((with_reducible refine (K1.out _ hb1).mono ?_); rintro e2 w2 ⟨rfl, rfl⟩)) | fail)
    go_ret
    exact ⟨rfl, hb1⟩
  by_cases hf : place < 0
  · clear hfv
    go_enter Try.func6, Try.ntmps6
    go_wp2_with (first | (go_at_call 8; ((with_reducible refine (K0.out _).mono ?_); rintro e1 w1 ⟨rfl, hb1⟩)) | (go_at_call 18; ((with_reducible refine (K1.out _ hb1).mono ?_); rintro e2 w2 ⟨rfl, rfl⟩)) | fail)
    go_ret
    exact ⟨rfl, hb1⟩
  obtain ⟨h8, h12⟩ := few_len hfv
  have hLed := Lib.hid (booked_led ps)
  have hLI := Lib.hid (booked_in h8 hP)
  have hLl := booked_len h8 h12
  have KB := Lib.hid (fun wx (h : Below w.heap.size w wx) => booked_any ps C cc wx (hC.below h) h.size h8 h12 hP)
  generalize bookedR ps = L at hLed hLI hLl KB
  have KB : Hid (∀ wx, Below w.heap.size w wx → Calls Try.prog 19 #[.slice C ps.length cc] wx (fun e w' => ∃ F f, e = .returned (.slice F L.length f) ∧ EntsAt w' w'.heap.size F L ∧ Below wx.heap.size wx w')) := fun wx h => (KB.out wx h).mono fun e w' ⟨F, f, he, _, hF, hb⟩ => ⟨F, f, he, hF, hb⟩
  have hLs : Hid (absS L ≤ 144115188075855872) := small_le hLed.out.ok (by omega)
  obtain ⟨li, hli⟩ : ∃ li, linesR L (-1) 0 day known = li := ⟨_, rfl⟩
  have hllen : li.length ≤ 96 := by have := lines_len (l := L) (o := -1) (fr := 0) (un := day) (k := known); rw [hli] at this; omega
  have hlm : Hid (∀ e ∈ li, e ∈ L) := fun e he => (lines_mem (by rw [hli]; exact he)).2
  have hls : sumF (fun e => decide (e.place = place)) li = sumF (fun e => lineB (-1) 0 day known e && decide (e.place = place)) L := by rw [← hli]; exact lines_sumF _ L (-1) 0 day known
  have hsm : absS li ≤ 144115188075855872 := small_le (fun e he => hLed.out.ok e (hlm.out e he)) (by omega)
  obtain ⟨S, s0, s1, s2, s3⟩ := sums_of (fun e => decide (e.place = place)) li hsm
  obtain ⟨A1, hA1⟩ : ∃ A1 : Nat → Int, A1 = fun (j : Nat) => sumF (fun e => inPl (j : Int) e && accB owner (-1) day known e) L := ⟨_, rfl⟩
  obtain ⟨A2, hA2⟩ : ∃ A2 : Nat → Int, A2 = fun (j : Nat) => sumF (fun e => inOw (j : Int) e && accB (-1) place day known e) L := ⟨_, rfl⟩
  obtain ⟨B1, hB1'⟩ : ∃ B1 : Nat → Int, B1 = fun (j : Nat) => account L owner (j : Int) day known := ⟨_, rfl⟩
  obtain ⟨B2, hB2'⟩ : ∃ B2 : Nat → Int, B2 = fun (j : Nat) => account L (j : Int) place day known := ⟨_, rfl⟩
  have a10 : Hid (A1 0 = 0) := by show _ = _; rw [hA1]; exact places_zero
  have a20 : Hid (A2 0 = 0) := by show _ = _; rw [hA2]; exact owners_zero
  have a1s : Hid (∀ j, A1 (j + 1) = A1 j + B1 j) := fun j => by rw [hA1, hB1']; show sumF (fun e => inPl ((j + 1 : Nat) : Int) e && _) L = _ + account L owner _ day known; rw [account_eq hLs.out, Int.natCast_succ]; exact places_step j
  have a2s : Hid (∀ j, A2 (j + 1) = A2 j + B2 j) := fun j => by rw [hA2, hB2']; show sumF (fun e => inOw ((j + 1 : Nat) : Int) e && _) L = _ + account L _ place day known; rw [account_eq hLs.out, Int.natCast_succ]; exact owners_step j
  have a1b : Hid (∀ j, -144115188075855872 ≤ A1 j ∧ A1 j ≤ 144115188075855872) := fun j => by have := sumF_abs (fun e => inPl (j : Int) e && accB owner (-1) day known e) L; have := hLs.out; rw [hA1]; show _ ≤ sumF _ L ∧ sumF _ L ≤ _; omega
  have a2b : Hid (∀ j, -144115188075855872 ≤ A2 j ∧ A2 j ≤ 144115188075855872) := fun j => by have := sumF_abs (fun e => inOw (j : Int) e && accB (-1) place day known e) L; have := hLs.out; rw [hA2]; show _ ≤ sumF _ L ∧ sumF _ L ≤ _; omega
  have a1e : Hid (A1 64 = account L owner (-1) day known) := by show _ = _; rw [account_eq hLs.out, hA1]; exact places_all hLed.out.ok
  have a2e : Hid (A2 16 + S li.length = account L (-1) place day known) := by show _ = _; rw [account_eq hLs.out, hA2, s1, hls]; exact owners_all (by omega) hLed.out.ok
  have K1a : Hid (∀ (j : Nat) F f wx, EntsAt wx wx.heap.size F L → Calls Try.prog 12 #[.slice F L.length f, .int .i64 owner, .int .i64 (j : Int), .int .i64 day, .int .i64 known] wx (IntBe (B1 j) wx)) := fun j F f wx h => by have := account_any L F f owner (j : Int) day known wx h (Nat.le_refl _) (by omega) hLI.out; rw [hB1']; exact this
  have K2a : Hid (∀ (j : Nat) F f wx, EntsAt wx wx.heap.size F L → Calls Try.prog 12 #[.slice F L.length f, .int .i64 (j : Int), .int .i64 place, .int .i64 day, .int .i64 known] wx (IntBe (B2 j) wx)) := fun j F f wx h => by have := account_any L F f (j : Int) place day known wx h (Nat.le_refl _) (by omega) hLI.out; rw [hB2']; exact this
  obtain ⟨r1, hr1⟩ : ∃ r1, account L owner (-1) day known = r1 := ⟨_, rfl⟩
  obtain ⟨r2, hr2⟩ : ∃ r2, account L (-1) place day known = r2 := ⟨_, rfl⟩
  have KA1 : Hid (∀ F f wx, EntsAt wx wx.heap.size F L → Calls Try.prog 12 #[.slice F L.length f, .int .i64 owner, .int .i64 (-1), .int .i64 day, .int .i64 known] wx (IntBe r1 wx)) := fun F f wx h => by have := account_any L F f owner (-1) day known wx h (Nat.le_refl _) (by omega) hLI.out; rw [hr1] at this; exact this
  have KA2 : Hid (∀ F f wx, EntsAt wx wx.heap.size F L → Calls Try.prog 12 #[.slice F L.length f, .int .i64 (-1), .int .i64 place, .int .i64 day, .int .i64 known] wx (IntBe r2 wx)) := fun F f wx h => by have := account_any L F f (-1) place day known wx h (Nat.le_refl _) (by omega) hLI.out; rw [hr2] at this; exact this
  rw [hr1] at a1e
  rw [hr2] at a2e
  have KL : Hid (∀ F f wx, EntsAt wx wx.heap.size F L → Calls Try.prog 16 #[.slice F L.length f, .int .i64 (-1), .int .i64 0, .int .i64 day, .int .i64 known] wx (fun e w' => ∃ C cc, e = .returned (.slice C li.length cc) ∧ EntsAt w' w'.heap.size C li ∧ Below wx.heap.size wx w')) := fun F f wx h => (lines_any L F f (-1) 0 day known wx h (Nat.le_refl _) (by omega)).mono fun e w' ⟨C, cc, he, _, hE, hb⟩ => by
      rw [hli] at he hE
      exact ⟨C, cc, he, hE, hb⟩
  have hS0 := Lib.hid s0
  have hS2 := Lib.hid s2
  have hS3' := Lib.hid s3
  clear hfv hli hsm s0 s1 s2 s3 hP hn h8 hC hA1 hA2 hB1' hB2' hls hr1 hr2
  go_enter Try.func6, Try.ntmps6
  go_wp2_with fail
  go_at_call 8
  (with_reducible refine (K0.out _).mono ?_)
  rintro x1 w1 ⟨rfl, hb1⟩
  have hB1 := hb1
  go_wp2_with fail
  go_at_call 18
  (with_reducible refine (K1.out _ hb1).mono ?_)
  rintro x2 w2 ⟨rfl, rfl⟩
  go_wp2_with fail
  go_at_call 19
  (with_reducible refine (KB.out _ hB1).mono ?_)
  rintro x2 w2 ⟨F, f, rfl, hL, hb2⟩
  have hB2 := hB1.trans (hb2.mono hB1.size)
  have HB2 := Lib.hid hB2
  clear hb1 hb2 hB1 hB2 K0 K1 KB
  go_wp2_with fail
  go_loopg [13, 14] 64 (fun gq s i wr => ∃ (k : Nat) (x : Int), i = .int .i64 k ∧ s = .int .i64 x ∧ gq + k = 64 ∧ Hid (x = A1 k) ∧ Below w2.heap.size w2 wr)
  case atStart => exact ⟨0, 0, rfl, rfl, by omega, a10.out.symm, Below.refl _ _⟩
  case round =>
    obtain ⟨k, x, rfl, rfl, hk, hx, hBw⟩ := hrel
    have hz := hBw.size
    have hL3 := (hL.below hBw).more hBw.size
    by_cases hlt : k < 64
    · have hkl : (k : Int) < 64 := by omega
      have hq := a1b.out (k + 1)
      rw [a1s.out, ← hx.out] at hq
      have HW : Hid (wrap64 (x + B1 k) = x + B1 k) := wrap64_small (by omega) (by omega)
      go_wp2_with fail
      go_at_call 12
      (with_reducible refine (K1a.out k _ _ _ hL3).mono ?_)
      rintro x5 w5 ⟨rfl, hb5⟩
      go_wp2_with fail
      go_roundg (gk - 1)
      case measure => omega
      case rel => exact ⟨k + 1, x + B1 k, by go_num, by first | rfl | rw [HW.out], by omega, by show _ = _; rw [a1s.out, ← hx.out], hBw.trans (hb5.mono hz)⟩
    · obtain rfl : k = 64 := by omega
      have hx64 : Hid (x = r1) := by show _ = _; rw [hx.out, a1e.out]
      clear hx
      have HB3 := Lib.hid (HB2.out.trans (hBw.mono HB2.out.size))
      clear hBw hz hk hlt
      go_wp2_with fail
      go_loopg [15, 16] 16 (fun gq s i wx => ∃ (k : Nat) (y : Int), i = .int .i64 k ∧ s = .int .i64 y ∧ gq + k = 16 ∧ Hid (y = A2 k) ∧ Below wr.heap.size wr wx)
      case atStart => exact ⟨0, 0, rfl, rfl, by omega, a20.out.symm, Below.refl _ _⟩
      case round =>
        obtain ⟨k, y, rfl, rfl, hk, hy, hBw⟩ := hrel
        have hz := hBw.size
        have hL4 := (hL3.below hBw).more hBw.size
        by_cases hlt : k < 16
        · have hkl : (k : Int) < 16 := by omega
          have hq := a2b.out (k + 1)
          rw [a2s.out, ← hy.out] at hq
          have HW : Hid (wrap64 (y + B2 k) = y + B2 k) := wrap64_small (by omega) (by omega)
          go_wp2_with fail
          go_at_call 12
          (with_reducible refine (K2a.out k _ _ _ hL4).mono ?_)
          rintro x5 w5 ⟨rfl, hb5⟩
          go_wp2_with fail
          go_roundg (gk - 1)
          case measure => omega
          case rel => exact ⟨k + 1, y + B2 k, by go_num, by first | rfl | rw [HW.out], by omega, by show _ = _; rw [a2s.out, ← hy.out], hBw.trans (hb5.mono hz)⟩
        · obtain rfl : k = 16 := by omega
          have hy2 := a2b.out 16
          rw [← hy.out] at hy2
          have HB4 := Lib.hid (HB3.out.trans (hBw.mono HB3.out.size))
          clear hBw hz hk hlt
          go_wp2_with fail
          go_at_call 16
          (with_reducible refine (KL.out _ _ _ hL4).mono ?_)
          rintro x6 w6 ⟨E, ec, rfl, hE, hb6⟩
          have HB6 := Lib.hid (HB4.out.trans (hb6.mono HB4.out.size))
          have hL6 := (hL4.below hb6).more hb6.size
          clear hb6
          go_wp2_with fail
          go_loopg [15, 18] li.length (fun gq s i wx => ∃ (k : Nat) (z : Int), i = .int .i64 k ∧ s = .int .i64 z ∧ gq + k = li.length ∧ Hid (z = y + S k) ∧ wx = w6)
          case atStart => exact ⟨0, y, rfl, rfl, by omega, by show _ = _; rw [hS0.out]; omega, rfl⟩
          case round =>
            obtain ⟨k, z, rfl, rfl, hk, hzz, rfl⟩ := hrel
            by_cases hlt : k < li.length
            · obtain ⟨e, he⟩ : ∃ e, li[k]? = some e := ⟨_, List.getElem?_eq_getElem hlt⟩
              obtain ⟨b, off, rfl, hb, r0, r1', r2', r3, r4, r5, r6⟩ := hE.at_ he
              have hs : S (k + 1) = if e.place = place then S k + e.litres else S k := by have := hS2.out k e he; simpa using this
              have h3 := hS3'.out k
              have h3b := hS3'.out (k + 1)
              have hlc : (k : Int) < (li.length : Int) := by omega
              by_cases hp : e.place = place
              · rw [if_pos hp] at hs
                have HS : Hid (z + e.litres = y + S (k + 1)) := by show _ = _; rw [hs, hzz.out]; omega
                have HW : Hid (wrap64 (z + e.litres) = z + e.litres) := wrap64_small (by rw [HS.out]; omega) (by rw [HS.out]; omega)
                have d1 : (e.place == place) = true := by simpa using hp
                clear hs h3 h3b he hp
                go_wp2_with fail
                go_roundg (gk - 1)
                case measure => omega
                case rel => exact ⟨k + 1, z + e.litres, by go_num, by first | rfl | rw [HW.out], by omega, HS.out, rfl⟩
              · rw [if_neg hp] at hs
                have HS : Hid (z = y + S (k + 1)) := by show _ = _; rw [hs, hzz.out]
                have d1 : (e.place == place) = false := by simpa using hp
                clear hs h3 h3b he hp
                go_wp2_with fail
                go_roundg (gk - 1)
                case measure => omega
                case rel => exact ⟨k + 1, z, by go_num, rfl, by omega, HS.out, rfl⟩
            · obtain rfl : k = li.length := by omega
              obtain rfl : z = r2 := by rw [hzz.out, hy.out, a2e.out]
              obtain rfl : x = r1 := hx64.out
              go_wp2_with fail
              go_at_call 12
              (with_reducible refine (KA1.out _ _ _ hL6).mono ?_)
              rintro x7 w7 ⟨rfl, hb7⟩
              have hB7 := HB6.out.trans (hb7.mono HB6.out.size)
              replace hL6 := (hL6.below hb7).more hb7.size
              go_wp2_with fail
              go_at_call 12
              (with_reducible refine (KA2.out _ _ _ hL6).mono ?_)
              rintro x8 w8 ⟨rfl, hb8⟩
              have hB8 := hB7.trans (hb8.mono hB7.size)
              go_wp2_with fail
              go_ret
              exact ⟨rfl, hB8⟩
end Go.Proofs.Ytokhapchagffkaa
