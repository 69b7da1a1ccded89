/- LedgerLines: for every input the law answers true. (Printed by gen_l3.py.) -/
import Derived.Deep.Cut
import Derived.Test.YtokhapchagffkaaLB
set_option linter.unusedSimpArgs false
set_option linter.unusedVariables false
namespace Go.Proofs.Ytokhapchagffkaa
open Go.RowKit LG
attribute [local go_sem] alloc_drewN setCell_drewN shape_drewN
set_option maxRecDepth 100000 in
set_option maxHeartbeats 8000000 in
theorem lineslaw_any (ps : List (List Et)) (C : Option Addr) (cc : Nat) (owner fr un known : Int) (w : World) (hC : PostsAt w w.heap.size C ps) (hl : ps.length ≤ 9223372036854775807) (hn : ∀ p ∈ ps, p.length ≤ 9223372036854775807) (hP : PsIn ps) (hfr : In64 fr) (hun : In64 un) :
    Calls Try.prog 5 #[.slice C ps.length cc, .int .i64 owner, .int .i64 fr, .int .i64 un, .int .i64 known] w (BoolIs true w) := by
  have K0 := Lib.hid (fun wx => small_any wx)
  obtain ⟨fv, hfv⟩ : ∃ fv, fewB ps = fv := ⟨_, rfl⟩
  have K1 : Hid (∀ wx, Below w.heap.size w wx → Calls Try.prog 18 #[.slice C ps.length cc] wx (fun e w' => e = .returned (.bool fv) ∧ wx = w')) := fun wx h => by have := few_any ps C cc wx (hC.below h) hl hn; rw [hfv] at this; exact this
  cases fv
  case false =>
    clear hfv
    go_enter Try.func5, Try.ntmps5
    go_wp2_with (first | (go_at_call 8; ((with_reducible refine (K0.out _).mono ?_); rintro e1 w1 ⟨rfl, hb1⟩)) | (go_at_call 18; ((with_reducible refine (K1.out _ hb1).mono ?_); rintro e2 w2 ⟨rfl, rfl⟩)) | fail)
    go_ret
    exact ⟨rfl, hb1⟩
  by_cases ho : owner < 0
  · clear hfv
    go_enter Try.func5, Try.ntmps5
    go_wp2_with (first | (go_at_call 8; ((with_reducible refine (K0.out _).mono ?_); rintro e1 w1 ⟨rfl, hb1⟩)) | (go_at_call 18; ((with_reducible refine (K1.out _ hb1).mono ?_); rintro e2 w2 ⟨rfl, rfl⟩)) | fail)
    go_ret
    exact ⟨rfl, hb1⟩
  by_cases hf : fr < 0
  · clear hfv
    go_enter Try.func5, Try.ntmps5
    go_wp2_with (first | (go_at_call 8; ((with_reducible refine (K0.out _).mono ?_); rintro e1 w1 ⟨rfl, hb1⟩)) | (go_at_call 18; ((with_reducible refine (K1.out _ hb1).mono ?_); rintro e2 w2 ⟨rfl, rfl⟩)) | fail)
    go_ret
    exact ⟨rfl, hb1⟩
  by_cases hu : un < fr
  · clear hfv
    go_enter Try.func5, Try.ntmps5
    go_wp2_with (first | (go_at_call 8; ((with_reducible refine (K0.out _).mono ?_); rintro e1 w1 ⟨rfl, hb1⟩)) | (go_at_call 18; ((with_reducible refine (K1.out _ hb1).mono ?_); rintro e2 w2 ⟨rfl, rfl⟩)) | fail)
    go_ret
    exact ⟨rfl, hb1⟩
  obtain ⟨h8, h12⟩ := few_len hfv
  have hLed := Lib.hid (booked_led ps)
  have hLI := Lib.hid (booked_in h8 hP)
  have hLl := booked_len h8 h12
  have KB := Lib.hid (fun wx (h : Below w.heap.size w wx) => booked_any ps C cc wx (hC.below h) h.size h8 h12 hP)
  generalize bookedR ps = L at hLed hLI hLl KB
  have KB : Hid (∀ wx, Below w.heap.size w wx → Calls Try.prog 19 #[.slice C ps.length cc] wx (fun e w' => ∃ F f, e = .returned (.slice F L.length f) ∧ EntsAt w' w'.heap.size F L ∧ Below wx.heap.size wx w')) := fun wx h => (KB.out wx h).mono fun e w' ⟨F, f, he, _, hF, hb⟩ => ⟨F, f, he, hF, hb⟩
  have hLs : Hid (absS L ≤ 144115188075855872) := small_le hLed.out.ok (by omega)
  obtain ⟨li, hli⟩ : ∃ li, linesR L owner fr un known = li := ⟨_, rfl⟩
  have hllen : li.length ≤ 96 := by have := lines_len (l := L) (o := owner) (fr := fr) (un := un) (k := known); rw [hli] at this; omega
  have hlm : Hid (∀ e ∈ li, lineB owner fr un known e = true ∧ e ∈ L) := fun e he => lines_mem (by rw [hli]; exact he)
  have hla : Hid (∀ (i j : Nat) (x y : Et), li[i]? = some x → li[j]? = some y → i < j → x.day ≤ y.day) := fun i j x y h1 h2 h => lines_asc (by rw [hli]; exact h1) (by rw [hli]; exact h2) h
  have hls : Hid (∀ f, sumF f li = sumF (fun e => lineB owner fr un known e && f e) L) := fun f => by rw [← hli]; exact lines_sumF f L owner fr un known
  have hsm : absS li ≤ 144115188075855872 := small_le (fun e he => hLed.out.ok e (hlm.out e he).2) (by omega)
  obtain ⟨S, s0, s1, s2, s3⟩ := sums_of (fun _ => true) li hsm
  obtain ⟨sT, hsT⟩ : ∃ sT, sT = S li.length := ⟨_, rfl⟩
  have hS3 := s3 li.length
  rw [← hsT] at hS3
  obtain ⟨f1, hf1⟩ : ∃ f1, fr - 1 = f1 := ⟨_, rfl⟩
  obtain ⟨a1, ha1⟩ : ∃ a1, account L owner (-1) un known = a1 := ⟨_, rfl⟩
  obtain ⟨a2, ha2⟩ : ∃ a2, account L owner (-1) f1 known = a2 := ⟨_, rfl⟩
  have hdif : a1 - a2 = sT := by
    rw [← ha1, ← ha2, account_eq hLs.out, account_eq hLs.out, hsT, s1, hls.out, ← hf1, ← lines_sum (by omega) (by omega)]
    exact sumF_congr (fun e _ => by simp)
  have hwd : IntKind.i64.wrap (a1 - a2) = sT := by rw [hdif]; exact wrap_small (by omega) (by omega)
  have hwf : IntKind.i64.wrap (fr - 1) = f1 := by rw [← hf1, IntKind.wrap_i64]; unfold In64 at hfr; omega
  have KL : Hid (∀ F f wx, EntsAt wx wx.heap.size F L → Calls Try.prog 16 #[.slice F L.length f, .int .i64 owner, .int .i64 fr, .int .i64 un, .int .i64 known] wx (fun e w' => ∃ C cc, e = .returned (.slice C li.length cc) ∧ EntsAt w' w'.heap.size C li ∧ Below wx.heap.size wx w')) := fun F f wx h => (lines_any L F f owner fr un known wx h (Nat.le_refl _) (by omega)).mono fun e w' ⟨C, cc, he, _, hE, hb⟩ => by
      rw [hli] at he hE
      exact ⟨C, cc, he, hE, hb⟩
  have KA1 : Hid (∀ F f wx, EntsAt wx wx.heap.size F L → Calls Try.prog 12 #[.slice F L.length f, .int .i64 owner, .int .i64 (-1), .int .i64 un, .int .i64 known] wx (IntBe a1 wx)) := fun F f wx h => by have := account_any L F f owner (-1) un known wx h (Nat.le_refl _) (by omega) hLI.out; rw [ha1] at this; exact this
  have KA2 : Hid (∀ F f wx, EntsAt wx wx.heap.size F L → Calls Try.prog 12 #[.slice F L.length f, .int .i64 owner, .int .i64 (-1), .int .i64 f1, .int .i64 known] wx (IntBe a2 wx)) := fun F f wx h => by have := account_any L F f owner (-1) f1 known wx h (Nat.le_refl _) (by omega) hLI.out; rw [ha2] at this; exact this
  have hS0 := Lib.hid s0
  have hS2 := Lib.hid s2
  have hS3' := Lib.hid s3
  have hTs := Lib.hid hsT
  clear hfv hli hsm s0 s1 s2 s3 hsT hf1 ha1 ha2 hdif hP hn h8 hC hfr hun
  go_enter Try.func5, Try.ntmps5
  go_wp2_with fail
  go_at_call 8
  (with_reducible refine (K0.out _).mono ?_)
  rintro x1 w1 ⟨rfl, hb1⟩
  have hB1 := hb1
  go_wp2_with fail
  go_at_call 18
  (with_reducible refine (K1.out _ hb1).mono ?_)
  rintro x2 w2 ⟨rfl, rfl⟩
  go_wp2_with fail
  go_at_call 19
  (with_reducible refine (KB.out _ hB1).mono ?_)
  rintro x2 w2 ⟨F, f, rfl, hL, hb2⟩
  have hB2 := hB1.trans (hb2.mono hB1.size)
  go_wp2_with fail
  go_at_call 16
  (with_reducible refine (KL.out _ _ _ hL).mono ?_)
  rintro x3 w3 ⟨E, ec, rfl, hE, hb3⟩
  have hB3 := hB2.trans (hb3.mono hB2.size)
  replace hL := (hL.below hb3).more hb3.size
  clear hb1 hb2 hb3 hB1 hB2 K0 K1 KB KL
  have HB3 := Lib.hid hB3
  clear hB3
  go_wp2_with fail
  go_loopg [14, 15] li.length (fun gq s i wr => ∃ (k : Nat) (x : Int), i = .int .i64 k ∧ s = .int .i64 x ∧ gq + k = li.length ∧ Hid (x = S k) ∧ Below w3.heap.size w3 wr)
  case atStart => exact ⟨0, 0, rfl, rfl, by omega, hS0.out.symm, Below.refl _ _⟩
  case round =>
    obtain ⟨k, x, rfl, rfl, hk, hx, hBw⟩ := hrel
    have hz := hBw.size
    by_cases hlt : k < li.length
    · obtain ⟨e, he⟩ : ∃ e, li[k]? = some e := ⟨_, List.getElem?_eq_getElem hlt⟩
      obtain ⟨b, off, rfl, hb, r0, r1, r2, r3, r4, r5, r6⟩ := (hE.below hBw).at_ he
      have hs : S (k + 1) = S k + e.litres := by have := hS2.out k e he; simpa using this
      have h3 := hS3'.out k
      have h3b := hS3'.out (k + 1)
      rw [← hx.out] at hs h3
      have HS := Lib.hid hs
      have HW : Hid (wrap64 (x + e.litres) = x + e.litres) := wrap64_small (by omega) (by omega)
      have hq := (hlm.out e (List.mem_of_getElem? he)).1
      have HE := Lib.hid he
      unfold lineB wit at hq
      simp only [Bool.and_eq_true, decide_eq_true_eq] at hq
      have d1 : (e.owner == owner) = true := by rw [beq_iff_eq]; exact hq.1.1
      have d1' : (e.owner != owner) = false := by simpa using hq.1.1
      have d2 : decide (e.day < fr) = false := decide_eq_false (by omega)
      have d3 : decide (un < e.day) = false := decide_eq_false (by omega)
      have d4 : decide (known < e.known) = false := decide_eq_false (by omega)
      clear hs he hq h3 h3b
      by_cases h0 : 0 < k
      · obtain ⟨j, hj⟩ : ∃ j, j + 1 = k := ⟨k - 1, by omega⟩
        obtain ⟨y, hy⟩ : ∃ y, li[j]? = some y := ⟨_, List.getElem?_eq_getElem (by omega)⟩
        obtain ⟨_, y0, _⟩ := (hE.below hBw).cell_ hy
        have d6 : decide (e.day < y.day) = false := decide_eq_false (by have := hla.out j k y e hy HE.out (by omega); omega)
        have d5 : decide ((0 : Int) < (k : Int)) = true := decide_eq_true (by omega)
        have d5' : (0 : Int) < (k : Int) := by omega
        have v1 : IntKind.i64.wrap ((k : Int) - 1) = (j : Int) := by rw [IntKind.wrap_i64]; omega
        have v2 : (k : Int) - 1 = (j : Int) := by omega
        have v3 : IntKind.i64.wrap (j : Int) = (j : Int) := by rw [IntKind.wrap_i64]; omega
        have v4 : (j : Int) < (li.length : Int) := by omega
        have v5 : j < li.length := by omega
        have HJ := Lib.hid hj
        clear hy hj
        go_upto_region 11 with fail
        obtain ⟨W0, hW0⟩ : ∃ W0, W0 = wr.alloc (.cells #[.int .i64 e.day, .int .i64 e.known, .int .i64 e.owner, .int .i64 e.place, .int .i64 e.litres, .int .i64 e.why, .int .i64 e.ref] 36) := ⟨_, rfl⟩
        have hB0 : Below w3.heap.size w3 W0 := by rw [hW0]; exact hBw.alloc hz _
        have u0 : W0.cell? ⟨wr.heap.size, 0, none⟩ = some (.int .i64 e.day) := by rw [hW0]; simp
        have u1 : W0.cell? ⟨wr.heap.size, 1, none⟩ = some (.int .i64 e.known) := by rw [hW0]; simp
        have u2 : W0.cell? ⟨wr.heap.size, 2, none⟩ = some (.int .i64 e.owner) := by rw [hW0]; simp
        have u4 : W0.cell? ⟨wr.heap.size, 4, none⟩ = some (.int .i64 e.litres) := by rw [hW0]; simp
        have y0 : W0.cell? ⟨b, off + j * 7, none⟩ = some (.int .i64 y.day) := by rw [hW0, World.cell?_alloc_lt _ _ _ (by show b < _; omega)]; exact y0
        rw [← hW0]
        have hw0 : wr.heap.size < W0.heap.size := by rw [hW0]; simp
        have hb0 : b < W0.heap.size := by omega
        clear hW0 r0 r1 r2 r3 r4 r5 r6
        have kB0 : Below W0.heap.size W0 W0.drew := (Below.refl _ _).drew
        refine Plan.wp_region_tree (.rd 0 (.rd 1 (.rd 2 (.rd 3 (.rd 4 (.rd 5 (.rd 6 (.rd 7 (.rd 8 (.rd 9 (.rd 10 (.rd 11 (.rd 12 (.rd 13 (.rd 14 (.rd 15 (.rd 16 (.rd 17 (.rd 18 (.rd 19 (.rd 20 (.rd 21 (.rd 22 (.rd 23 (.rd 24 (.rd 25 (.rd 26 (.rd 27 (.rd 28 (.rd 29 (.rd 30 (.rd 31 (.rd 32 (.rd 33 (.rd 34 (.rd 35 (.rd 36 .done))))))))))))))))))))))))))))))))))))) (by kernel_rfl) (by kernel_rfl) ?_
        (repeat (first | (refine Plan.tree_read (v := ?_) rfl rfl ?_ ?_; rotate_left; (focus ((intro wS hSw; have hkS := (bcell hSw).1; go_simp); try with_reducible rfl)); simp only [Act.put, List.setIfInBounds_toArray, List.set_cons_zero, List.set_cons_succ]) | (refine Plan.tree_skip rfl rfl ?_; simp only [Act.put, List.setIfInBounds_toArray, List.set_cons_zero, List.set_cons_succ])))
        refine Plan.tree_done ?_
        go_wp2_with fail
        go_roundg (gk - 1)
        case measure => omega
        case rel => exact ⟨k + 1, x + e.litres, by go_num, by rw [HW.out], by omega, HS.out.symm, below_drewN hB0 _⟩
      · have d5 : decide ((0 : Int) < (k : Int)) = false := decide_eq_false (by omega)
        have d5' : ¬ (0 : Int) < (k : Int) := by omega
        go_upto_region 11 with fail
        obtain ⟨W0, hW0⟩ : ∃ W0, W0 = wr.alloc (.cells #[.int .i64 e.day, .int .i64 e.known, .int .i64 e.owner, .int .i64 e.place, .int .i64 e.litres, .int .i64 e.why, .int .i64 e.ref] 36) := ⟨_, rfl⟩
        have hB0 : Below w3.heap.size w3 W0 := by rw [hW0]; exact hBw.alloc hz _
        have u0 : W0.cell? ⟨wr.heap.size, 0, none⟩ = some (.int .i64 e.day) := by rw [hW0]; simp
        have u1 : W0.cell? ⟨wr.heap.size, 1, none⟩ = some (.int .i64 e.known) := by rw [hW0]; simp
        have u2 : W0.cell? ⟨wr.heap.size, 2, none⟩ = some (.int .i64 e.owner) := by rw [hW0]; simp
        have u4 : W0.cell? ⟨wr.heap.size, 4, none⟩ = some (.int .i64 e.litres) := by rw [hW0]; simp
        rw [← hW0]
        have hw0 : wr.heap.size < W0.heap.size := by rw [hW0]; simp
        have hb0 : b < W0.heap.size := by omega
        clear hW0 r0 r1 r2 r3 r4 r5 r6
        have kB0 : Below W0.heap.size W0 W0.drew := (Below.refl _ _).drew
        refine Plan.wp_region_tree (.rd 0 (.rd 1 (.rd 2 (.rd 3 (.rd 4 (.rd 5 (.rd 6 (.rd 7 (.rd 8 (.rd 9 (.rd 10 (.rd 11 (.rd 12 (.rd 13 (.rd 14 (.rd 15 (.rd 16 (.rd 17 (.rd 18 (.rd 19 (.rd 20 (.rd 21 (.rd 22 (.rd 23 (.rd 24 (.rd 25 (.rd 26 (.rd 27 (.rd 28 (.rd 29 (.rd 30 (.rd 31 (.rd 32 (.rd 33 (.rd 34 (.rd 35 (.rd 36 .done))))))))))))))))))))))))))))))))))))) (by kernel_rfl) (by kernel_rfl) ?_
        (repeat (first | (refine Plan.tree_read (v := ?_) rfl rfl ?_ ?_; rotate_left; (focus ((intro wS hSw; have hkS := (bcell hSw).1; go_simp); try with_reducible rfl)); simp only [Act.put, List.setIfInBounds_toArray, List.set_cons_zero, List.set_cons_succ]) | (refine Plan.tree_skip rfl rfl ?_; simp only [Act.put, List.setIfInBounds_toArray, List.set_cons_zero, List.set_cons_succ])))
        refine Plan.tree_done ?_
        go_wp2_with fail
        go_roundg (gk - 1)
        case measure => omega
        case rel => exact ⟨k + 1, x + e.litres, by go_num, by rw [HW.out], by omega, HS.out.symm, below_drewN hB0 _⟩
    · obtain rfl : k = li.length := by omega
      obtain rfl : x = sT := by rw [hx.out, hTs.out]
      have hL4 := (hL.below hBw).more hBw.size
      have hB4 := HB3.out.trans (hBw.mono HB3.out.size)
      go_wp2_with fail
      go_at_call 12
      (with_reducible refine (KA1.out _ _ _ hL4).mono ?_)
      rintro x5 w5 ⟨rfl, hb5⟩
      have hB5 := hB4.trans (hb5.mono hB4.size)
      replace hL4 := (hL4.below hb5).more hb5.size
      go_wp2_with fail
      go_at_call 12
      (with_reducible refine (KA2.out _ _ _ hL4).mono ?_)
      rintro x6 w6 ⟨rfl, hb6⟩
      have hB6 := hB5.trans (hb6.mono hB5.size)
      go_wp2_with fail
      go_ret
      exact ⟨rfl, hB6⟩
end Go.Proofs.Ytokhapchagffkaa
