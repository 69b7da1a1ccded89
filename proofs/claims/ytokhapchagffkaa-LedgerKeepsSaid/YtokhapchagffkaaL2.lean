/- LedgerKeeps: for every input the law answers true. (Printed by gen_l2.py.) -/
import Derived.Deep.Cut
import Derived.Test.YtokhapchagffkaaLB
set_option linter.unusedSimpArgs false
set_option linter.unusedVariables false
namespace Go.Proofs.Ytokhapchagffkaa
open Go.RowKit LG
attribute [local go_sem] alloc_drewN setCell_drewN shape_drewN
theorem accB_of' {owner place day known : Int} {e : Et} {b1 b2 b3 b4 b5 b6 : Bool} (h1 : decide (e.day ≤ day) = b1) (h2 : decide (e.known ≤ known) = b2) (h3 : (owner == -1) = b3) (h4 : (owner == e.owner) = b4) (h5 : (place == -1) = b5) (h6 : (place == e.place) = b6) :
    accB owner place day known e = (b1 && b2 && (b3 || b4) && (b5 || b6)) := by
  subst h1 h2 h3 h4 h5 h6
  unfold accB
  rw [Bool.beq_comm (a := owner) (b := e.owner), Bool.beq_comm (a := place) (b := e.place)]; rfl
set_option maxRecDepth 100000 in
set_option maxHeartbeats 8000000 in
theorem keeps_any (ps : List (List Et)) (p : List Et) (C : Option Addr) (cc : Nat) (D : Option Addr) (dc : Nat) (owner place day known : Int) (w : World) (hC : PostsAt w w.heap.size C ps) (hl : ps.length ≤ 9223372036854775807) (hn : ∀ p ∈ ps, p.length ≤ 9223372036854775807) (hP : PsIn ps) (hD : EntsAt w w.heap.size D p) (hl2 : p.length ≤ 9223372036854775807) (hI : LitsIn p) :
    Calls Try.prog 4 #[.slice C ps.length cc, .slice D p.length dc, .int .i64 owner, .int .i64 place, .int .i64 day, .int .i64 known] w (BoolIs true w) := by
  have K0 := Lib.hid (fun wx => small_any wx)
  obtain ⟨fv, hfv⟩ : ∃ fv, fewB ps = fv := ⟨_, rfl⟩
  have K1 : Hid (∀ wx, Below w.heap.size w wx → Calls Try.prog 18 #[.slice C ps.length cc] wx (fun e w' => e = .returned (.bool fv) ∧ wx = w')) := fun wx h => by have := few_any ps C cc wx (hC.below h) hl hn; rw [hfv] at this; exact this
  cases fv
  case false =>
    clear hfv
    go_enter Try.func4, Try.ntmps4
    go_wp2_with (first | (go_at_call 8; ((with_reducible refine (K0.out _).mono ?_); rintro e1 w1 ⟨rfl, hb1⟩)) | (go_at_call 18; ((with_reducible refine (K1.out _ hb1).mono ?_); rintro e2 w2 ⟨rfl, rfl⟩)) | fail)
    go_ret
    exact ⟨rfl, hb1⟩
  by_cases hp8 : 8 < p.length
  · clear hfv
    go_enter Try.func4, Try.ntmps4
    go_wp2_with (first | (go_at_call 8; ((with_reducible refine (K0.out _).mono ?_); rintro e1 w1 ⟨rfl, hb1⟩)) | (go_at_call 18; ((with_reducible refine (K1.out _ hb1).mono ?_); rintro e2 w2 ⟨rfl, rfl⟩)) | fail)
    go_ret
    exact ⟨rfl, hb1⟩
  obtain ⟨h8, h12⟩ := few_len hfv
  have hLed := Lib.hid (booked_led ps)
  have hLI := Lib.hid (booked_in h8 hP)
  have hLl := booked_len h8 h12
  have KB := Lib.hid (fun wx (h : Below w.heap.size w wx) => booked_any ps C cc wx (hC.below h) h.size h8 h12 hP)
  generalize bookedR ps = L at hLed hLI hLl KB
  have KB : Hid (∀ wx, Below w.heap.size w wx → Calls Try.prog 19 #[.slice C ps.length cc] wx (fun e w' => ∃ F f, e = .returned (.slice F L.length f) ∧ EntsAt w' w'.heap.size F L ∧ Below wx.heap.size wx w')) := fun wx h => (KB.out wx h).mono fun e w' ⟨F, f, he, _, hF, hb⟩ => ⟨F, f, he, hF, hb⟩
  have hLs : Hid (absS L ≤ 144115188075855872) := small_le hLed.out.ok (by omega)
  have hp8' : p.length ≤ 8 := by omega
  obtain ⟨rl, hrl⟩ : ∃ rl, (postR L p).1 = rl := ⟨_, rfl⟩
  obtain ⟨rn, hrn⟩ : ∃ rn, (postR L p).2 = rn := ⟨_, rfl⟩
  have hr : postR L p = (rl, rn) := by rw [← hrl, ← hrn]
  have KA1 : Hid (∀ F f wx, EntsAt wx wx.heap.size F L → Calls Try.prog 12 #[.slice F L.length f, .int .i64 (-1), .int .i64 (-1), .int .i64 day, .int .i64 known] wx (IntBe 0 wx)) := fun F f wx h => by have := account_any L F f (-1) (-1) day known wx h (Nat.le_refl _) (by omega) hLI.out; rw [hLed.out.account (by omega)] at this; exact this
  have KA2 : Hid (∀ F f wx, EntsAt wx wx.heap.size F L → Calls Try.prog 14 #[.slice F L.length f, .int .i64 known] wx (BoolIs true wx)) := fun F f wx h => by have := balanced_any L F f known wx h (Nat.le_refl _) (by omega) hLI.out; rw [hLed.out.balanced] at this; exact this
  have KP : Hid (∀ F f wx, EntsAt wx wx.heap.size F L → Below w.heap.size w wx → Calls Try.prog 9 #[.slice F L.length f, .slice D p.length dc] wx (fun x w' => ∃ F f, x = .returned (.tuple #[.slice F rl.length f, .int .i64 rn]) ∧ EntsAt w' w'.heap.size F rl ∧ Below wx.heap.size wx w')) := fun F f wx h hb =>
    (post_any L p F D f dc wx h ((hD.below hb).more hb.size) (Nat.le_refl _) (by omega) (by omega) hLI.out hI).mono fun x w' ⟨F, f, he, _, hF, _, hb⟩ => by
      rw [hr] at he hF
      exact ⟨F, f, he, hF, hb⟩
  by_cases h0 : rn = 0
  case neg =>
    have hnil : rl = [] := by rw [← hrl]; exact postR_not (by rw [hrn]; exact h0)
    subst hnil
    have d0 : (rn == 0) = false := by simpa using h0
    clear hr hrl hrn hfv
    go_enter Try.func4, Try.ntmps4
    go_wp2_with fail
    go_at_call 8
    (with_reducible refine (K0.out _).mono ?_)
    rintro x1 w1 ⟨rfl, hb1⟩
    have hB1 := hb1
    go_wp2_with fail
    go_at_call 18
    (with_reducible refine (K1.out _ hb1).mono ?_)
    rintro x2 w2 ⟨rfl, rfl⟩
    go_wp2_with fail
    go_at_call 19
    (with_reducible refine (KB.out _ hB1).mono ?_)
    rintro x2 w2 ⟨F, f, rfl, hL, hb2⟩
    have hB2 := hB1.trans (hb2.mono hB1.size)
    go_wp2_with fail
    go_at_call 12
    (with_reducible refine (KA1.out _ _ _ hL).mono ?_)
    rintro x3 w3 ⟨rfl, hb3⟩
    have hB3 := hB2.trans (hb3.mono hB2.size)
    replace hL := (hL.below hb3).more hb3.size
    go_wp2_with fail
    go_at_call 14
    (with_reducible refine (KA2.out _ _ _ hL).mono ?_)
    rintro x4 w4 ⟨rfl, hb4⟩
    have hB4 := hB3.trans (hb4.mono hB3.size)
    replace hL := (hL.below hb4).more hb4.size
    go_wp2_with fail
    go_at_call 9
    (with_reducible refine (KP.out _ _ _ hL hB4).mono ?_)
    rintro x5 w5 ⟨G, g, rfl, hG, hb5⟩
    have hB5 := hB4.trans (hb5.mono hB4.size)
    replace hL := (hL.below hb5).more hb5.size
    go_wp2_with fail
    go_ret
    exact ⟨rfl, hB5⟩
  subst h0
  obtain ⟨q1, q2, q3, q4⟩ := postR_zero hrn
  clear q2 q3
  rw [hrl] at q4
  obtain ⟨pne, pin, psum⟩ := postB_parts q1
  obtain ⟨b, off, rfl, hx0⟩ := hD.head_ pne
  have hHd : Hid (p[0]? = some (p.headD default)) := hx0
  have hpast := Lib.hid (fun (h : known < (p.headD default).known ∨ day < (p.headD default).day) => post_past q1 (o := owner) (pl := place) h)
  have hrLed : Hid (Led rl) := by show Led rl; rw [q4]; exact .step hLed.out q1
  have hplen : 0 < p.length := by cases p with | nil => exact absurd rfl pne | cons _ _ => simp
  have hp0 : ((p.length : Int) == 0) = false := by rw [beq_eq_false_iff_ne]; omega
  have hN : Hid (rl.length = 0 + L.length + p.length) := by show _ = _; rw [q4, List.length_append]; omega
  have hrI : Hid (LitsIn rl) := fun e he => by
    rw [q4] at he
    rcases List.mem_append.1 he with h | h
    · exact hLI.out e h
    · exact hI e h
  have hrl8 : rl.length ≤ 104 := by have := hN.out; omega
  obtain ⟨S, s0, s1, s2, s3⟩ := sums_of (accB owner place day known) p (small_le (fun e he => (pin e he).1) (by omega))
  obtain ⟨sT, hsT⟩ : ∃ sT, sT = S p.length := ⟨_, rfl⟩
  have hST : Hid (sT = sumF (accB owner place day known) p) := hsT.trans s1
  have hS3 := s3 p.length
  rw [← hsT] at hS3
  obtain ⟨aL, haL⟩ : ∃ aL, account L owner place day known = aL := ⟨_, rfl⟩
  obtain ⟨aR, haR⟩ : ∃ aR, account rl owner place day known = aR := ⟨_, rfl⟩
  have hrs : absS rl ≤ 144115188075855872 := small_le hrLed.out.ok (by omega)
  have haa : aL + sT = aR := by
    rw [← haL, ← haR, account_eq hLs.out, account_eq hrs, q4, sumF_append, ← hST.out]
  have haR2 : -144115188075855872 ≤ aR ∧ aR ≤ 144115188075855872 := by
    have h1 := sumF_abs (accB owner place day known) rl
    rw [← haR, account_eq hrs]; omega
  have rw1 : IntKind.i64.wrap (aL + sT) = aR := by rw [haa]; exact wrap_small (by omega) (by omega)
  have hQ4 := Lib.hid q4
  have KS : Hid (∀ F f G g wx, EntsAt wx wx.heap.size F rl → EntsAt wx wx.heap.size G rl → Calls Try.prog 20 #[.slice F rl.length f, .slice G rl.length g] wx (BoolIs true wx)) := fun F f G g wx h1 h2 =>
    (same_any rl rl F G f g wx h1 h2 (by omega) (by omega)).mono fun x w' ⟨he, h⟩ => ⟨by rw [he, sameL_refl], pure_below' h⟩
  have KA3 : Hid (∀ F f wx, EntsAt wx wx.heap.size F rl → Calls Try.prog 12 #[.slice F rl.length f, .int .i64 owner, .int .i64 place, .int .i64 day, .int .i64 known] wx (IntBe aR wx)) := fun F f wx h => by have := account_any rl F f owner place day known wx h (Nat.le_refl _) (by omega) hrI.out; rw [haR] at this; exact this
  have KA4 : Hid (∀ F f wx, EntsAt wx wx.heap.size F L → Calls Try.prog 12 #[.slice F L.length f, .int .i64 owner, .int .i64 place, .int .i64 day, .int .i64 known] wx (IntBe aL wx)) := fun F f wx h => by have := account_any L F f owner place day known wx h (Nat.le_refl _) (by omega) hLI.out; rw [haL] at this; exact this
  have KA5 : Hid (∀ F f wx, EntsAt wx wx.heap.size F rl → Calls Try.prog 12 #[.slice F rl.length f, .int .i64 (-1), .int .i64 (-1), .int .i64 day, .int .i64 known] wx (IntBe 0 wx)) := fun F f wx h => by have := account_any rl F f (-1) (-1) day known wx h (Nat.le_refl _) (by omega) hrI.out; rw [hrLed.out.account (by omega)] at this; exact this
  have KA6 : Hid (∀ F f wx, EntsAt wx wx.heap.size F rl → Calls Try.prog 14 #[.slice F rl.length f, .int .i64 known] wx (BoolIs true wx)) := fun F f wx h => by have := balanced_any rl F f known wx h (Nat.le_refl _) (by omega) hrI.out; rw [hrLed.out.balanced] at this; exact this
  have hS0 := Lib.hid s0
  have hS2 := Lib.hid s2
  have hS3' := Lib.hid s3
  have hDH := Lib.hid hD
  have hTs := Lib.hid hsT
  clear hr hrl hrn hfv q1 q4 pin psum hx0 haL haR haa hrs s0 s1 s2 s3 hD hsT hP hI hn h8 hC
  generalize p.headD default = h at hHd hpast
  obtain ⟨i0, hi, hz0, hz1, hz2⟩ := info_parts Try.infoEntry
  go_enter Try.func4, Try.ntmps4
  go_wp2_with fail
  go_at_call 8
  (with_reducible refine (K0.out _).mono ?_)
  rintro x1 w1 ⟨rfl, hb1⟩
  have hB1 := hb1
  go_wp2_with fail
  go_at_call 18
  (with_reducible refine (K1.out _ hb1).mono ?_)
  rintro x2 w2 ⟨rfl, rfl⟩
  go_wp2_with fail
  go_at_call 19
  (with_reducible refine (KB.out _ hB1).mono ?_)
  rintro x2 w2 ⟨F, f, rfl, hL, hb2⟩
  have hB2 := hB1.trans (hb2.mono hB1.size)
  go_wp2_with fail
  go_at_call 12
  (with_reducible refine (KA1.out _ _ _ hL).mono ?_)
  rintro x3 w3 ⟨rfl, hb3⟩
  have hB3 := hB2.trans (hb3.mono hB2.size)
  replace hL := (hL.below hb3).more hb3.size
  go_wp2_with fail
  go_at_call 14
  (with_reducible refine (KA2.out _ _ _ hL).mono ?_)
  rintro x4 w4 ⟨rfl, hb4⟩
  have hB4 := hB3.trans (hb4.mono hB3.size)
  replace hL := (hL.below hb4).more hb4.size
  go_wp2_with fail
  go_at_call 9
  (with_reducible refine (KP.out _ _ _ hL hB4).mono ?_)
  rintro x5 w5 ⟨G, g, rfl, hG, hb5⟩
  have hB5 := hB4.trans (hb5.mono hB4.size)
  replace hL := (hL.below hb5).more hb5.size
  clear hb1 hb2 hb3 hb4 hb5 hB1 hB2 hB3 hB4 K0 K1 KB KA1 KA2 KP
  have hO5 : (w5.alloc (.cells #[] 36)).ownsRow w5.heap.size 36 7 (.slice (some ⟨w5.heap.size, 0, none⟩) 0 0) 0 [] := World.ownsRow_made w5 #[] 0 (Nat.le_refl _) (by unfold maxLen; omega) (by simp)
  have hA5 := below_new w5 (.cells #[] 36)
  have R1 := Lib.hid (reads_ents ((hL.below hA5).more hA5.size))
  go_wp2_with (first | (at_builtin; refine wpList_append_any _ rfl _ _ 22 rfl w5.heap.size 36 i0 _ 7 56 Try.underlying22 hi hz0 hz1 hz2 rfl (by decide) _ 0 [] rfl hO5 _ F L.length f (rowE L) rfl R1.out (rowE_one L) (by unfold maxLen; omega) (by omega) (by simp) ?_; intro v6 w6 hown6 hgr6 hob6; clear hob6; have hA6 := hA5.trans (below_own hO5 (by simp) hgr6); have hB6 := hB5.trans (hA6.mono hB5.size); have R2 := Lib.hid (reads_ents ((hDH.out.below hB6).more hB6.size))) | (at_builtin; refine wpList_append_any _ rfl _ _ 22 rfl w5.heap.size 36 i0 _ 7 56 Try.underlying22 hi hz0 hz1 hz2 rfl (by decide) v6 (0 + L.length) ([] ++ rowE L) rfl hown6 _ (some ⟨b, off, none⟩) p.length dc (rowE p) rfl R2.out (rowE_one p) (by unfold maxLen; omega) (by omega) hA6.size ?_; intro v7 w7 hown7 hgr7 hob7; clear hob7; have hA7 := hA6.trans (below_own hown6 hA6.size hgr7); have hB7 := hB5.trans (hA7.mono hB5.size); rw [← hN.out, List.nil_append, ← rowE_append, ← hQ4.out] at hown7; obtain ⟨E, ec, rfl, hE, _⟩ := ents_of_owns hown7) | fail)
  replace hG := (hG.below hA7).more hA7.size
  replace hL := (hL.below hA7).more hA7.size
  have hDw := Lib.hid (hDH.out.below hB7)
  clear hown6 hown7 hgr6 hgr7 hA5 hA6 hA7 hO5 R1 R2 hB6 hB5
  go_wp2_with (first | (go_at_call 20; (with_reducible refine (KS.out _ _ _ _ _ hG hE).mono ?_); rintro x8 w8 ⟨rfl, hb8⟩) | fail)
  replace hG := (hG.below hb8).more hb8.size
  replace hL := (hL.below hb8).more hb8.size
  have hB8 := hB7.trans (hb8.mono hB7.size)
  have hD8 := hDH.out.below hB8
  have hz8 := hB8.size
  clear hE hb8 hB7 KS hDw hQ4 hN
  go_wp2_with fail
  go_loopg [17, 18] p.length (fun gq s i wr => ∃ (k : Nat) (x : Int), i = .int .i64 k ∧ s = .int .i64 x ∧ gq + k = p.length ∧ Hid (x = S k) ∧ wr = w8)
  case atStart => exact ⟨0, 0, rfl, rfl, by omega, hS0.out.symm, rfl⟩
  case round =>
    obtain ⟨k, x, rfl, rfl, hk, hx, rfl⟩ := hrel
    by_cases hlt : k < p.length
    · obtain ⟨e, he⟩ : ∃ e, p[k]? = some e := ⟨_, List.getElem?_eq_getElem hlt⟩
      obtain ⟨hb, r0, r1, r2, r3, r4, r5, r6⟩ := hD8.cell_ he
      have hs := hS2.out k e he
      have h3 := hS3'.out k
      have h3b := hS3'.out (k + 1)
      rw [← hx.out] at hs h3
      have hwr : (accB owner place day known e) = true → wrap64 (x + e.litres) = x + e.litres := fun h => wrap64_small (by rw [if_pos h] at hs; omega) (by rw [if_pos h] at hs; omega)
      obtain ⟨b1, g1⟩ : ∃ b, decide (e.day ≤ day) = b := ⟨_, rfl⟩
      obtain ⟨b2, g2⟩ : ∃ b, decide (e.known ≤ known) = b := ⟨_, rfl⟩
      obtain ⟨b3, g3⟩ : ∃ b, (owner == -1) = b := ⟨_, rfl⟩
      obtain ⟨b4, g4⟩ : ∃ b, (owner == e.owner) = b := ⟨_, rfl⟩
      obtain ⟨b5, g5⟩ : ∃ b, (place == -1) = b := ⟨_, rfl⟩
      obtain ⟨b6, g6⟩ : ∃ b, (place == e.place) = b := ⟨_, rfl⟩
      rw [accB_of' g1 g2 g3 g4 g5 g6] at hs hwr
      have HS := Lib.hid hs
      have HW := Lib.hid hwr
      clear hs hwr he h3 h3b
      go_wp2_with fail
      all_goals first
        | (go_roundg (gk - 1)
           case rel =>
             have hs2 := HS.out
             have hw2 := HW.out (by simp [*])
             rw [if_pos (by simp [*])] at hs2
             exact ⟨k + 1, x + e.litres, by go_num, by rw [hw2], by omega, hs2.symm, rfl⟩
           case measure => omega)
        | (go_roundg (gk - 1)
           case rel =>
             have hs2 := HS.out
             rw [if_neg (by simp [*])] at hs2
             exact ⟨k + 1, x, by go_num, rfl, by omega, hs2.symm, rfl⟩
           case measure => omega)
        | fail
    · obtain rfl : k = p.length := by omega
      obtain rfl : x = sT := by rw [hx.out, hTs.out]
      obtain ⟨hb, r0, r1, _⟩ := hD8.cell_ hHd.out
      rw [Nat.zero_mul, Nat.add_zero] at r0 r1
      by_cases hz : x = 0
      · have d0 : (x == 0) = true := by simpa using hz
        have HZ := Lib.hid hz
        clear hz
        obtain ⟨b1, g1⟩ : ∃ b, decide (known < h.known) = b := ⟨_, rfl⟩
        obtain ⟨b2, g2⟩ : ∃ b, decide (day < h.day) = b := ⟨_, rfl⟩
        cases b1 <;> cases b2
        all_goals
          go_wp2_with fail
          go_at_call 12
          (with_reducible refine (KA3.out _ _ _ hG).mono ?_)
          rintro x9 w9 ⟨rfl, hb9⟩
          have hB9 := hB8.trans (hb9.mono hB8.size)
          replace hG := (hG.below hb9).more hb9.size
          replace hL := (hL.below hb9).more hb9.size
          go_wp2_with fail
          go_at_call 12
          (with_reducible refine (KA4.out _ _ _ hL).mono ?_)
          rintro x10 w10 ⟨rfl, hb10⟩
          have hB10 := hB9.trans (hb10.mono hB9.size)
          replace hG := (hG.below hb10).more hb10.size
          replace hL := (hL.below hb10).more hb10.size
          go_wp2_with fail
          go_at_call 12
          (with_reducible refine (KA5.out _ _ _ hG).mono ?_)
          rintro x11 w11 ⟨rfl, hb11⟩
          have hB11 := hB10.trans (hb11.mono hB10.size)
          replace hG := (hG.below hb11).more hb11.size
          replace hL := (hL.below hb11).more hb11.size
          go_wp2_with fail
          go_at_call 14
          (with_reducible refine (KA6.out _ _ _ hG).mono ?_)
          rintro x12 w12 ⟨rfl, hb12⟩
          have hB12 := hB11.trans (hb12.mono hB11.size)
          replace hG := (hG.below hb12).more hb12.size
          replace hL := (hL.below hb12).more hb12.size
          go_wp2_with fail
          go_ret
          exact ⟨rfl, hB12⟩
      · have hno : ¬ (known < h.known ∨ day < h.day) := fun g => hz (hST.out.trans (hpast.out g))
        have g1 : decide (known < h.known) = false := decide_eq_false (fun g => hno (.inl g))
        have g2 : decide (day < h.day) = false := decide_eq_false (fun g => hno (.inr g))
        have d0 : (x == 0) = false := by simpa using hz
        clear hno
        go_wp2_with fail
        go_at_call 12
        (with_reducible refine (KA3.out _ _ _ hG).mono ?_)
        rintro x9 w9 ⟨rfl, hb9⟩
        have hB9 := hB8.trans (hb9.mono hB8.size)
        replace hG := (hG.below hb9).more hb9.size
        replace hL := (hL.below hb9).more hb9.size
        go_wp2_with fail
        go_at_call 12
        (with_reducible refine (KA4.out _ _ _ hL).mono ?_)
        rintro x10 w10 ⟨rfl, hb10⟩
        have hB10 := hB9.trans (hb10.mono hB9.size)
        replace hG := (hG.below hb10).more hb10.size
        replace hL := (hL.below hb10).more hb10.size
        go_wp2_with fail
        go_at_call 12
        (with_reducible refine (KA5.out _ _ _ hG).mono ?_)
        rintro x11 w11 ⟨rfl, hb11⟩
        have hB11 := hB10.trans (hb11.mono hB10.size)
        replace hG := (hG.below hb11).more hb11.size
        replace hL := (hL.below hb11).more hb11.size
        go_wp2_with fail
        go_at_call 14
        (with_reducible refine (KA6.out _ _ _ hG).mono ?_)
        rintro x12 w12 ⟨rfl, hb12⟩
        have hB12 := hB11.trans (hb12.mono hB11.size)
        replace hG := (hG.below hb12).more hb12.size
        replace hL := (hL.below hb12).more hb12.size
        go_wp2_with fail
        go_ret
        exact ⟨rfl, hB12⟩
end Go.Proofs.Ytokhapchagffkaa
