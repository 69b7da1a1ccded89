/- The walk of FlowNearest. -/
import Derived.Test.YtanhhdfffggdmaaLMath
namespace Go.Proofs.Ytanhhdfffggdmaa
open Go.RowKit FM
attribute [local go_sem] alloc_drewN setCell_drewN shape_drewN

theorem nearest_inv (n s t : Int) (C : Option Addr) (cc : Nat) (A : List Arc) (mask : Int) (w : World) (hC : ArcsAt w w.heap.size C A) (hlA : A.length ≤ 9223372036854775807) (hV : ¬ Valid n A s t) :
    Calls Try.prog 5 #[.int .i64 n, .slice C A.length cc, .int .i64 s, .int .i64 t, .int .i64 mask] w (SmallSaid w) := by
  have Hl := Lib.hid hlA
  have Hv := Lib.hid (validB_false hV)
  clear hV hlA
  go_enter Try.func5, Try.ntmps5
  go_wp2_with (go_at_call 8; refine (small_any _).mono ?_; rintro e0 w0 ⟨rfl, hb0⟩)
  have K1 := Lib.hid (max_no n s t C cc A w0 (hC.step hb0) Hl.out Hv.out)
  go_wp2_with (go_at_call 10; refine K1.out.mono ?_; rintro e1 w1 ⟨rfl, hb1⟩)
  have K2 := Lib.hid (few_any n C cc A w1 Hl.out)
  obtain ⟨q, hq⟩ : ∃ q, q = fewB n A := ⟨_, rfl⟩
  rw [← hq] at K2
  clear hq
  cases q
  all_goals
    go_wp2_with (go_at_call 9; refine K2.out.mono ?_; rintro e2 w2 ⟨rfl, rfl⟩)
    go_ret
    exact ⟨rfl, hb0.trans (hb1.mono hb0.size)⟩
theorem nearest_big (n s t : Nat) (C : Option Addr) (cc : Nat) (A : List Arc) (mask : Int) (w : World) (hC : ArcsAt w w.heap.size C A) (hV : Valid n A s t) (hf : fewB n A = false) :
    Calls Try.prog 5 #[.int .i64 n, .slice C A.length cc, .int .i64 s, .int .i64 t, .int .i64 mask] w (SmallSaid w) := by
  have HV := Lib.hid hV
  have Hf := Lib.hid hf
  clear hV hf
  go_enter Try.func5, Try.ntmps5
  go_wp2_with (go_at_call 8; refine (small_any _).mono ?_; rintro e0 w0 ⟨rfl, hb0⟩)
  have K1 := Lib.hid (max_yes n s t C cc A w0 (hC.step hb0) HV.out)
  go_wp2_with (go_at_call 10; refine K1.out.mono ?_; rintro e1 w1 ⟨f1, v1, R1, vs1, rfl, hm1, g0, g1, hs1, hb1⟩)
  have K2 := Lib.hid (few_any n C cc A w1 (by have := HV.out.2.2.1; omega))
  rw [Hf.out] at K2
  go_wp2_with (go_at_call 9; refine K2.out.mono ?_; rintro e2 w2 ⟨rfl, rfl⟩)
  go_ret
  exact ⟨rfl, hb0.trans (hb1.mono hb0.size)⟩

theorem sideL_congr {n : Nat} {S T : Int → Bool} (h : ∀ u : Nat, u < n → S u = T u) : sideL n S = sideL n T := by
  unfold sideL
  congr 1
  exact List.filter_congr fun u hu => h u (List.mem_range.1 hu)
def setAt (S : Int → Bool) (k : Nat) (b : Bool) : Int → Bool := fun u => if u = k then b else S u
theorem sideL_set (k : Nat) (S : Int → Bool) (b : Bool) : sideL (k + 1) (setAt S k b) = sideL k S ++ (if b then [(k : Int)] else []) := by
  rw [sideL_succ, sideL_congr (T := S) (fun u hu => by unfold setAt; rw [if_neg (by omega)])]
  simp [setAt]
theorem set_step {S : Int → Bool} {s t k : Nat} {b : Bool} (h : (s < k → S s = true) ∧ (t < k → S t = false)) (h1 : k = s → b = true) (h2 : k = t → b = false) : (s < k + 1 → setAt S k b s = true) ∧ (t < k + 1 → setAt S k b t = false) := by
  unfold setAt
  refine ⟨fun hs => ?_, fun ht => ?_⟩
  · by_cases e : (s : Int) = k
    · rw [if_pos e]; exact h1 (by omega)
    · rw [if_neg e]; exact h.1 (by omega)
  · by_cases e : (t : Int) = k
    · rw [if_pos e]; exact h2 (by omega)
    · rw [if_neg e]; exact h.2 (by omega)

set_option maxHeartbeats 4000000 in
theorem nearest_main (n s t : Nat) (C : Option Addr) (cc : Nat) (A : List Arc) (mask : Int) (w : World) (hC : ArcsAt w w.heap.size C A) (hV : Valid n A s t) (hf : fewB n A = true) :
    Calls Try.prog 5 #[.int .i64 n, .slice C A.length cc, .int .i64 s, .int .i64 t, .int .i64 mask] w (SmallSaid w) := by
  obtain ⟨i0, hi, hz0, hz1, hz2⟩ := info_parts info3
  have hn10 : n ≤ 10 := by
    have h : (decide ((n : Int) ≤ 10) && decide (A.length ≤ 24)) = true := hf
    simp at h; omega
  have HV := Lib.hid hV
  have Hf := Lib.hid hf
  obtain ⟨v1, v2, v3, _, v4, v5, v6, v7, v8⟩ := id hV
  obtain ⟨hA, hcap⟩ := valid_facts hV
  clear hV hf
  go_enter Try.func5, Try.ntmps5
  go_wp2_with (go_at_call 8; refine (small_any _).mono ?_; rintro e0 w0 ⟨rfl, hb0⟩)
  have hC0 := hC.step hb0
  have K1 := Lib.hid (max_yes n s t C cc A w0 hC0 HV.out)
  go_wp2_with (go_at_call 10; refine K1.out.mono ?_; rintro e1 w1 ⟨f1, v, R, vs1, rfl, hm1, g0, g1, hs1, hb1⟩; obtain ⟨ao1, c1, rfl, hi1⟩ := hs1)
  have hC1 := hC0.step hb1
  have K2 := Lib.hid (few_any n C cc A w1 (by omega))
  rw [Hf.out] at K2
  have hbw1 : Below w.heap.size w w1 := hb0.trans (hb1.mono hb0.size)
  have hln := sideL_len n R
  go_wp2_with (go_at_call 9; refine K2.out.mono ?_; rintro e2 w2 ⟨rfl, rfl⟩)
  have hst' : s ≠ t := by omega
  go_loopw [15, 16] (fun u i wr => ∃ (k : Nat) (S : Int → Bool), k ≤ n ∧ i = .int .i64 k ∧ RowAt wr w1.heap.size 3 u ((sideL k S).map (Value.int .i64)) ∧ Hid ((s < k → S s = true) ∧ (t < k → S t = false)) ∧ Below w1.heap.size w1 wr) (fun _ i _ => n - (intOf i).toNat)
  case atStart => exact ⟨0, fun _ => false, Nat.zero_le _, rfl, ⟨none, 0, rfl, by decide, .inl ⟨rfl, rfl⟩⟩, ⟨fun h => absurd h (Nat.not_lt_zero _), fun h => absurd h (Nat.not_lt_zero _)⟩, Below.refl _ _⟩
  case round =>
    obtain ⟨k, S, hk, rfl, hrow, hset, hbr⟩ := hrel
    by_cases hlt : k < n
    · have hl0 := sideL_len k S
      have yes := fun (v' : Value) (w' : World) (hrow' : RowAt w' w1.heap.size 3 v' ((sideL k S).map (Value.int .i64) ++ [.int .i64 k])) => show RowAt w' w1.heap.size 3 v' ((sideL (k + 1) (setAt S k true)).map (Value.int .i64)) by
        rw [sideL_set]; simpa using hrow'
      have no : RowAt wr w1.heap.size 3 u15 ((sideL (k + 1) (setAt S k false)).map (Value.int .i64)) := by rw [sideL_set]; simpa using hrow
      by_cases hks : k = s
      · have b0 : ((k : Int) == (s : Int)) = true := by simp; omega
        have Hks := Lib.hid hks
        clear hks
        go_wp2_with (at_builtin; refine wpList_append_row rfl (.tmp 58) (.tmp 60) 23 rfl w1.heap.size 3 i0 (.int .i64 0) 8 Try.underlying23 hi hz0 hz1 hz2 rfl _ ((sideL k S).map (Value.int .i64)) rfl ?c1 ⟨wr.heap.size, 0, none⟩ 1 1 [.int .i64 k] rfl rfl ?c2 ?c3 (by decide) ?c4 ?c5 ?c6 ?_)
        case c1 => exact hrow.keep fun b _ hb => Below.heap_alloc wr _ b hb
        case c2 => exact one_new _ _ rfl
        case c3 => intro u hu; simp at hu; subst hu; rfl
        case c4 => simp; unfold maxLen; omega
        case c5 => simp; omega
        case c6 => have := hbr.size; simp; omega
        intro v' w' hrow' hstep
        have hbw : Below w1.heap.size w1 w' := (hbr.alloc hbr.size (.cells #[.int .i64 k] 3)).trans ⟨hstep.os, hstep.tape, hstep.output, hstep.size, fun b hb => hstep.block b (by have := hbr.size; simp; omega) hb⟩
        have hrow2 := yes v' w' hrow'
        clear hstep hrow hbr yes no hrow'
        go_wp2
        go_roundw
        case rel => exact ⟨k + 1, _, by omega, by go_num, hrow2, set_step hset.out (fun _ => rfl) (fun h => by have := Hks.out; omega), hbw⟩
        case measure => simp [intOf]; omega
      · have b1 : ((k : Int) == (s : Int)) = false := by simp; omega
        by_cases hkt : k = t
        · have b2 : ((k : Int) != (t : Int)) = false := by simp; omega
          have Hkt := Lib.hid hkt
          clear hkt
          clear yes
          go_wp2_with fail
          go_roundw
          case rel => exact ⟨k + 1, _, by omega, by go_num, no, set_step hset.out (fun h => by have := Hkt.out; omega) (fun _ => rfl), hbr⟩
          case measure => simp [intOf]; omega
        · have b2 : ((k : Int) != (t : Int)) = true := by simp; omega
          by_cases hbit : (bits BinOp.and IntKind.i64 (mask / 2 ^ k) 1 == 1) = true
          · skip
            go_wp2_with (at_builtin; refine wpList_append_row rfl (.tmp 58) (.tmp 60) 23 rfl w1.heap.size 3 i0 (.int .i64 0) 8 Try.underlying23 hi hz0 hz1 hz2 rfl _ ((sideL k S).map (Value.int .i64)) rfl ?c1 ⟨wr.heap.size, 0, none⟩ 1 1 [.int .i64 k] rfl rfl ?c2 ?c3 (by decide) ?c4 ?c5 ?c6 ?_)
            case c1 => exact hrow.keep fun b _ hb => Below.heap_alloc wr _ b hb
            case c2 => exact one_new _ _ rfl
            case c3 => intro u hu; simp at hu; subst hu; rfl
            case c4 => simp; unfold maxLen; omega
            case c5 => simp; omega
            case c6 => have := hbr.size; simp; omega
            intro v' w' hrow' hstep
            have hbw : Below w1.heap.size w1 w' := (hbr.alloc hbr.size (.cells #[.int .i64 k] 3)).trans ⟨hstep.os, hstep.tape, hstep.output, hstep.size, fun b hb => hstep.block b (by have := hbr.size; simp; omega) hb⟩
            have hrow2 := yes v' w' hrow'
            clear hstep hrow hbr yes no hrow'
            go_wp2
            go_roundw
            case rel => exact ⟨k + 1, _, by omega, by go_num, hrow2, set_step hset.out (fun _ => rfl) (fun h => by omega), hbw⟩
            case measure => simp [intOf]; omega
          · replace hbit : (bits BinOp.and IntKind.i64 (mask / 2 ^ k) 1 == 1) = false := by simpa using hbit
            clear yes
            go_wp2_with fail
            go_roundw
            case rel => exact ⟨k + 1, _, by omega, by go_num, no, set_step hset.out (fun h => by omega) (fun _ => rfl), hbr⟩
            case measure => simp [intOf]; omega
    · obtain rfl : n = k := by omega
      have hbw2 : Below w.heap.size w wr := hbw1.trans (hbr.mono hbw1.size)
      obtain ⟨ao2, c2, hv2, hi2⟩ := IntSl.of_row hrow
      have hl2 := sideL_len n S
      have hs1 : S s = true := hset.out.1 (by omega)
      have ht1 : S t = false := hset.out.2 (by omega)
      subst hv2
      have k3 := cut_any C cc A ao2 c2 (sideL n S) wr (hC.step hbw2) hi2 (by omega) v3 hcap
      rw [cut_congr hA (fun u h0 h1 => memB_sideL h0 h1)] at k3
      have hle := hm1.le_cut hA v4 v5 hs1 ht1
      have hnear := hm1.nearest hA v4 v5 hs1 ht1
      obtain ⟨c, hc⟩ : ∃ c, c = cut A S := ⟨_, rfl⟩
      rw [← hc] at k3 hle hnear
      have K3 := Lib.hid k3
      have hi12 := ints_step hi1 hbr
      have HN := Lib.hid (show c = v → ∀ x ∈ sideL n R, memB (sideL n S) x = true from fun e x hx => by
        obtain ⟨x0, x1, x2⟩ := mem_sideL.1 hx
        rw [memB_sideL x0 x1]; exact hnear e x x2)
      have kh := fun (x : Int) (q : Nat) => has_any ao2 c2 (sideL n S) x (wr.drewN q) (hi2.keep (fun _ _ _ => rfl)) (by omega)
      have KH := Lib.hid kh
      have ks := fun (m : Nat) => has_any ao1 c1 (sideL n R) s (wr.drewN m) (hi12.keep (fun _ _ _ => rfl)) (by omega)
      have kt := fun (m : Nat) => has_any ao1 c1 (sideL n R) t (wr.drewN m) (hi12.keep (fun _ _ _ => rfl)) (by omega)
      simp only [memB_sideL v4 v5, hm1.src] at ks
      simp only [memB_sideL v6 v7, hm1.snk] at kt
      have KS := Lib.hid (And.intro ks kt)
      have hsorted := Lib.hid (sideL_sorted n R)
      clear k3 hc hnear kh ks kt hs1 ht1 hset hrow
      obtain ⟨l, hl⟩ : ∃ l, l = sideL n R := ⟨_, rfl⟩
      rw [← hl] at hi12 hln hsorted HN KS ⊢
      clear hl hi1
      by_cases hcv : c = v
      · subst hcv
        go_wp2_with (go_at_call 17; refine K3.out.mono ?_; rintro e5 w5 ⟨rfl, rfl⟩)
        go_loopw [18] (fun i wq => ∃ k m : Nat, k ≤ l.length ∧ i = .int .i64 k ∧ wq = wr.drewN m) (fun i _ => l.length - (intOf i).toNat)
        case atStart => exact ⟨0, 0, Nat.zero_le _, rfl, rfl⟩
        case round =>
          obtain ⟨k, m, hk2, rfl, hwq⟩ := hrel
          subst hwq
          by_cases hlt : k < l.length
          · obtain ⟨b, off, x, hao, hb, hx, c0⟩ := ints_at hi12 hlt
            subst hao
            have hk0 : 0 ≤ (k : Int) ∧ (k : Int) < (l.length : Int) := by omega
            have hxm : x ∈ l := List.mem_of_getElem? hx.out
            have HX := Lib.hid hxm
            clear hxm
            by_cases hk1 : k = 0
            · subst hk1
              rw [Nat.add_zero] at c0
              have kk := fun (q : Nat) => KH.out x q
              simp only [HN.out (by trivial) x HX.out] at kk
              have KK := Lib.hid kk
              clear kk
              go_wp2_with fail
              go_quiet ((go_at_call 18; exact quiet_add_left (KK.out _)))
              go_wp2_with fail
              go_roundw
              case rel => exact ⟨1, _, by omega, rfl, rfl⟩
              case measure => simp [intOf]; omega
            · obtain ⟨b', off', p, hao', hb', hp, c1'⟩ := ints_at hi12 (k := k - 1) (by omega)
              obtain ⟨rfl, rfl⟩ : b = b' ∧ off = off' := by injection hao' with h; injection h with h1 h2; exact ⟨h1, h2⟩
              have hpx : p < x := by
                have := sorted_get hsorted.out hlt (by omega)
                rw [List.getD_eq_getElem?_getD (i := k), hx.out, List.getD_eq_getElem?_getD, hp.out] at this
                exact this
              have e2 : decide (x ≤ p) = false := by simp; omega
              have e3 : decide (0 < (k : Int)) = true := by simp; omega
              have e4 : ((k : Int) - 1).toNat = k - 1 := by omega
              have e5 : 0 ≤ (k : Int) - 1 := by omega
              have e6 : (k : Int) - 1 < (l.length : Int) := by omega
              have e7 : 0 < (k : Int) := by omega
              have e9 : 0 < k := by omega
              have e10 : decide (0 < k) = true := by simp; omega
              have e8 : IntKind.i64.wrap ((k : Int) - 1) = (k : Int) - 1 := IntWalk.i64_in _ (by omega)
              have kk := fun (q : Nat) => KH.out x q
              simp only [HN.out (by trivial) x HX.out] at kk
              have KK := Lib.hid kk
              clear kk
              go_wp2_with fail
              go_quiet ((go_at_call 18; exact quiet_add_left (KK.out _)))
              go_wp2_with fail
              clear e4 e8
              go_roundw
              case rel => exact ⟨k + 1, _, by omega, by go_num, rfl⟩
              case measure => simp [intOf]; omega
          · obtain rfl : l.length = k := by omega
            go_wp2_with (go_at_call 18; (first | ((with_reducible refine (KS.out.1 m).mono ?_); rintro e6 w6 ⟨rfl, rfl⟩) | ((with_reducible refine (KS.out.2 m).mono ?_); rintro e6 w6 ⟨rfl, rfl⟩) | fail))
            go_ret
            exact ⟨rfl, below_drewN hbw2 _⟩
      · have e1 : (c == v) = false := by simp; exact hcv
        go_wp2_with (go_at_call 17; refine K3.out.mono ?_; rintro e5 w5 ⟨rfl, rfl⟩)
        go_loopw [18] (fun i wq => ∃ k m : Nat, k ≤ l.length ∧ i = .int .i64 k ∧ wq = wr.drewN m) (fun i _ => l.length - (intOf i).toNat)
        case atStart => exact ⟨0, 0, Nat.zero_le _, rfl, rfl⟩
        case round =>
          obtain ⟨k, m, hk2, rfl, hwq⟩ := hrel
          subst hwq
          by_cases hlt : k < l.length
          · obtain ⟨b, off, x, hao, hb, hx, c0⟩ := ints_at hi12 hlt
            subst hao
            have hk0 : 0 ≤ (k : Int) ∧ (k : Int) < (l.length : Int) := by omega
            have hxm : x ∈ l := List.mem_of_getElem? hx.out
            have HX := Lib.hid hxm
            clear hxm
            by_cases hk1 : k = 0
            · subst hk1
              rw [Nat.add_zero] at c0
              go_wp2_with fail
              go_quiet (fail)
              go_wp2_with fail
              go_roundw
              case rel => exact ⟨1, _, by omega, rfl, rfl⟩
              case measure => simp [intOf]; omega
            · obtain ⟨b', off', p, hao', hb', hp, c1'⟩ := ints_at hi12 (k := k - 1) (by omega)
              obtain ⟨rfl, rfl⟩ : b = b' ∧ off = off' := by injection hao' with h; injection h with h1 h2; exact ⟨h1, h2⟩
              have hpx : p < x := by
                have := sorted_get hsorted.out hlt (by omega)
                rw [List.getD_eq_getElem?_getD (i := k), hx.out, List.getD_eq_getElem?_getD, hp.out] at this
                exact this
              have e2 : decide (x ≤ p) = false := by simp; omega
              have e3 : decide (0 < (k : Int)) = true := by simp; omega
              have e4 : ((k : Int) - 1).toNat = k - 1 := by omega
              have e5 : 0 ≤ (k : Int) - 1 := by omega
              have e6 : (k : Int) - 1 < (l.length : Int) := by omega
              have e7 : 0 < (k : Int) := by omega
              have e9 : 0 < k := by omega
              have e10 : decide (0 < k) = true := by simp; omega
              have e8 : IntKind.i64.wrap ((k : Int) - 1) = (k : Int) - 1 := IntWalk.i64_in _ (by omega)
              go_wp2_with fail
              go_quiet (fail)
              go_wp2_with fail
              clear e4 e8
              go_roundw
              case rel => exact ⟨k + 1, _, by omega, by go_num, rfl⟩
              case measure => simp [intOf]; omega
          · obtain rfl : l.length = k := by omega
            go_wp2_with (go_at_call 18; (first | ((with_reducible refine (KS.out.1 m).mono ?_); rintro e6 w6 ⟨rfl, rfl⟩) | ((with_reducible refine (KS.out.2 m).mono ?_); rintro e6 w6 ⟨rfl, rfl⟩) | fail))
            go_ret
            exact ⟨rfl, below_drewN hbw2 _⟩
theorem nearest_any (n s t : Int) (C : Option Addr) (cc : Nat) (A : List Arc) (mask : Int) (w : World) (hC : ArcsAt w w.heap.size C A) (hlA : A.length ≤ 9223372036854775807) :
    Calls Try.prog 5 #[.int .i64 n, .slice C A.length cc, .int .i64 s, .int .i64 t, .int .i64 mask] w (SmallSaid w) := by
  by_cases hV : Valid n A s t
  · obtain ⟨n, rfl⟩ := Int.eq_ofNat_of_zero_le (show 0 ≤ n by have := hV.1; omega)
    obtain ⟨s, rfl⟩ := Int.eq_ofNat_of_zero_le hV.2.2.2.2.1
    obtain ⟨t, rfl⟩ := Int.eq_ofNat_of_zero_le hV.2.2.2.2.2.2.1
    cases hf : fewB n A
    · exact nearest_big n s t C cc A mask w hC hV hf
    · exact nearest_main n s t C cc A mask w hC hV hf
  · exact nearest_inv n s t C cc A mask w hC hlA hV
end Go.Proofs.Ytanhhdfffggdmaa
