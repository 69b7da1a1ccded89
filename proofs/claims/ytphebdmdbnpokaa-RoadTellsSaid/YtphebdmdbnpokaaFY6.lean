/- Joined of: FY6. -/
import Derived.Test.YtphebdmdbnpokaaFY5
import Derived.Test.YtphebdmdbnpokaaG03
/- The walk of the reference's Max. -/
set_option linter.unusedSimpArgs false
set_option linter.unusedVariables false
namespace Go.Proofs.Ytphebdmdbnpokaa.FL
open Go.RowKit FM
attribute [local go_sem] alloc_drewN setCell_drewN shape_drewN

theorem L0_odd : ∀ (A : List Arc) (i : Nat), (L0 A).getD (2 * i + 1) 0 = 0
  | [], _ => rfl
  | a :: A, 0 => rfl
  | a :: A, i + 1 => by
    have := L0_odd A i
    rw [show 2 * (i + 1) + 1 = 2 * i + 1 + 1 + 1 by omega]
    exact this
theorem Fl.aug {A : List Arc} {s t : Int} {L L' : List Int} {v m : Int} (h : Fl A s t L v) (hst : s ≠ t) (hr : Res A L') (he : ∀ u, exc A (flowOf A L') u = exc A (flowOf A L) u + ind (s == u) m - ind (t == u) m) : Fl A s t L' (v + m) := by
  refine ⟨hr, fun u h1 h2 => ?_, ?_⟩
  · rw [he u, h.keeps u h1 h2]
    have e1 : (s == u) = false := by simp; exact fun e => h1 e.symm
    have e2 : (t == u) = false := by simp; exact fun e => h2 e.symm
    rw [e1, e2]; simp [ind]
  · rw [he s, h.value]
    have e2 : (t == s) = false := by simp; exact fun e => hst e.symm
    rw [e2]; simp [ind]
theorem rmax_no (n s t : Int) (C : Option Addr) (cc : Nat) (A : List Arc) (w : World) (hC : ArcsAt w w.heap.size C A) (hlen : A.length ≤ 9223372036854775807) (hv : validB n A s t = false) :
    Calls Try.prog 28 #[.int .i64 n, .slice C A.length cc, .int .i64 s, .int .i64 t] w (MaxNo w) := by
  have hcall := Lib.hid (rvalid_any n s t C cc A w hC hlen)
  have Hv := Lib.hid hv
  clear hv hlen
  go_enter Try.func28, Try.ntmps28
  go_wp2_with (go_at_call 41; refine hcall.out.mono ?_; rintro e1 w1 ⟨rfl, rfl⟩; rw [Hv.out])
  go_ret3
  exact ⟨rfl, Below.refl _ _⟩

set_option maxHeartbeats 2000000 in
set_option maxRecDepth 10000 in
theorem rmax_yes (n s t : Nat) (C : Option Addr) (cc : Nat) (A : List Arc) (w : World) (hC : ArcsAt w w.heap.size C A) (hV : Valid n A s t) :
    Calls Try.prog 28 #[.int .i64 n, .slice C A.length cc, .int .i64 s, .int .i64 t] w (MaxYes w n A s t) := by
  obtain ⟨hA, hcap⟩ := valid_facts hV
  have HV := Lib.hid hV
  obtain ⟨v1, v2, v3, _, v4, v5, v6, v7, v8⟩ := id hV
  have hcall := Lib.hid (rvalid_any n s t C cc A w hC (by omega))
  have Hv := Lib.hid (validB_true hV)
  obtain ⟨i0, hi, hz0, hz1, hz2⟩ := info_parts info3
  have hmk := fun wx => run_make1 (P := Try.prog) 29 3 i0 (.int .i64 0) Try.underlying29 hi hz0 hz1 rfl A.length A.length (Nat.le_refl _) (by rw [hz2]; omega) (by omega) wx
  have hArr0 : Arr (w.alloc (.cells (zeros (.int .i64 0) A.length) 3)) w.heap.size A.length (flowV (L0 A)) := (Arr.made w _ A.length 3).congr (fun j _ => by simp only [flowV, L0_odd])
  have hb0 := below_new w (.cells (zeros (.int .i64 0) A.length) 3)
  have hs0 : (w.alloc (.cells (zeros (.int .i64 0) A.length) 3)).heap.size = w.heap.size + 1 := by simp
  have K1 := Lib.hid (reach_any n s C cc A w.heap.size (L0 A) _ (hC.step hb0) hArr0 (by omega) hA v3 (by omega) (by omega) (L0_res fun a ha => (hcap a ha).1) hcap)
  clear hV
  go_enter Try.func28, Try.ntmps28
  go_wp2_with (first | (go_at_call 41; refine hcall.out.mono ?_; rintro e1 w1 ⟨rfl, rfl⟩; rw [Hv.out]) | (go_at_call 42; refine K1.out.mono ?_; rintro e2 w2 ⟨g, c, by_, q, rfl, hQ, hg0, hg1, hG, hb2⟩) | fail)
  have hF2 := hArr0.below hb2 (by omega)
  have hb2' := hb0.trans (hb2.mono hb0.size)
  go_loopg [12] 4611686018427387904 (fun gg u wr => ∃ (g c : Nat) (by_ : Int → Int) (q L : List Int) (v : Int), u = .slice (some ⟨g, 0, none⟩) n c ∧ Hid (Found1 n A L s by_ q ∧ Fl A s t L v) ∧ 0 ≤ v ∧ (gg : Int) + v = 4611686018427387904 ∧ Arr wr g n (byV by_) ∧ Arr wr w.heap.size A.length (flowV L) ∧ w.heap.size < g ∧ g < wr.heap.size ∧ Below w.heap.size w wr)
  case atStart => exact ⟨g, c, by_, q, _, 0, rfl, ⟨hQ, L0_fl fun a ha => (hcap a ha).1⟩, Int.le_refl _, by omega, hG, hF2, by omega, hg1, hb2'⟩
  case round =>
    clear hArr0 hb0 hs0 K1 hmk hF2 hb2' hQ hG hg0 hg1 hb2
    obtain ⟨g, c, by_, q, L, v, rfl, HQ, hv0, hgk, hG, hF, hg0, hg1, hbr⟩ := hrel
    have hle := HQ.out.2.le hA (by omega) (by omega) (by omega) v3 hcap
    obtain ⟨mt, _⟩ := hG t (by omega)
    simp only [byV] at mt
    obtain ⟨d, hd⟩ : ∃ d, d = by_ t := ⟨_, rfl⟩
    rw [← hd] at mt
    by_cases h : d = -2
    · subst h
      have HM := Lib.hid (max_of_found hA HQ.out.2.res HQ.out.2.keeps HQ.out.2.value (by omega) (by omega) HQ.out.1 hd.symm)
      have hiff := Lib.hid HQ.out.1.r.iff
      clear hd HQ hF
      have hM3 := hbr.size
      obtain ⟨w3, rfl⟩ : ∃ w3, w3 = wr := ⟨_, rfl⟩
      go_wp2_with fail
      go_loopw [13, 14] (fun u i wr => ∃ k : Nat, k ≤ n ∧ i = .int .i64 k ∧ RowAt wr w3.heap.size 3 u ((sideL k (fun u => decide (u ∈ q))).map (Value.int .i64)) ∧ Below w3.heap.size w3 wr) (fun _ i _ => n - (intOf i).toNat)
      case atStart => exact ⟨0, Nat.zero_le _, rfl, ⟨none, 0, rfl, by decide, .inl ⟨rfl, rfl⟩⟩, Below.refl _ _⟩
      case round =>
        obtain ⟨k, hk, rfl, hrow, hbr2⟩ := hrel
        by_cases hlt : k < n
        · obtain ⟨hd, _⟩ := (hG.below hbr2 hg1) k hlt
          simp only [byV] at hd
          have hik := hiff.out k (by omega) (by omega)
          obtain ⟨d, hdd⟩ : ∃ d, d = by_ k := ⟨_, rfl⟩
          rw [← hdd] at hd hik
          have hs := sideL_succ k (fun u => decide (u ∈ q))
          have hln := sideL_len k (fun u => decide (u ∈ q))
          have HH := Lib.hid (And.intro hik hs)
          obtain ⟨l, hl⟩ : ∃ l, l = sideL k (fun u => decide (u ∈ q)) := ⟨_, rfl⟩
          rw [← hl] at hrow hln
          have Hl := Lib.hid hl
          clear hdd hs hl hik mt
          by_cases hp : d = -2
          · subst hp
            go_wp2_with fail
            go_roundw
            case rel =>
              obtain ⟨h1, h2⟩ := HH.out
              refine ⟨k + 1, by omega, by go_num, ?_, hbr2⟩
              rw [h2, ← Hl.out, if_neg (by rw [decide_eq_true_iff]; exact fun e => h1.2 e rfl)]
              simpa using hrow
            case measure => simp [intOf]; omega
          · have hp' : (d != -2) = true := by simp; exact hp
            go_wp2_with (at_builtin; refine wpList_append_row rfl (.tmp 54) (.tmp 56) 29 rfl w3.heap.size 3 i0 (.int .i64 0) 8 Try.underlying29 hi hz0 hz1 hz2 rfl _ (l.map (Value.int .i64)) rfl ?c1 ⟨wr.heap.size, 0, none⟩ 1 1 [.int .i64 k] rfl rfl ?c2 ?c3 (by decide) ?c4 ?c5 ?c6 ?_)
            case c1 => exact hrow.keep fun b _ hb => Below.heap_alloc wr _ b hb
            case c2 => exact one_new _ _ rfl
            case c3 => intro u hu; simp at hu; subst hu; rfl
            case c4 => simp; unfold maxLen; omega
            case c5 => simp; omega
            case c6 => have := hbr2.size; simp; omega
            intro v' w' hrow' hstep
            have hbw : Below w3.heap.size w3 w' := (hbr2.alloc hbr2.size (.cells #[.int .i64 k] 3)).trans ⟨hstep.os, hstep.tape, hstep.output, hstep.size, fun b hb => hstep.block b (by have := hbr2.size; simp; omega) hb⟩
            clear hstep hrow hbr2
            go_wp2
            go_roundw
            case rel =>
              obtain ⟨h1, h2⟩ := HH.out
              refine ⟨k + 1, by omega, by go_num, ?_, hbw⟩
              rw [h2, ← Hl.out, if_pos (decide_eq_true (h1.1 hp))]
              simpa using hrow'
            case measure => simp [intOf]; omega
        · obtain rfl : n = k := by omega
          obtain ⟨ao, c2, rfl, hI⟩ := IntSl.of_row hrow
          have hbw := hbr.trans (hbr2.mono hM3)
          have hln := sideL_len n (fun u => decide (u ∈ q))
          have k9 := rcut_any n C cc A ao c2 (sideL n (fun u => decide (u ∈ q))) wr (hC.below hbw) hI (by omega) v3 hcap
          rw [(max_check HV.out HM.out).2] at k9
          have K9 := Lib.hid k9
          clear k9 hrow hbr2
          go_wp2_with (go_at_call 44; refine K9.out.mono ?_; rintro e1 w1 ⟨rfl, rfl⟩)
          go_ret3
          exact ⟨_, v, _, _, rfl, HM.out, hv0, hle, ⟨ao, c2, rfl, hI⟩, hbw⟩
    · have h' : (d != -2) = true := by simp; exact h
      have hbt : by_ t ≠ -2 := hd ▸ h
      have hCF : ∀ b off, C = some ⟨b, off, none⟩ → b ≠ w.heap.size := fun b off e => by
        have htq := (HQ.out.1.r.iff t (by omega) (by omega)).1 hbt
        obtain ⟨j, hj, hjq⟩ := List.getElem_of_mem htq
        have hjq : q[j]? = some (t : Int) := by rw [List.getElem?_eq_getElem hj, hjq]
        rcases Nat.eq_zero_or_pos j with h0 | h0
        · subst h0
          have := HQ.out.1.r.head
          rw [hjq] at this
          have := Option.some.inj this
          omega
        · obtain ⟨e', _, he', _⟩ := HQ.out.1.r.par j _ h0 hjq
          obtain ⟨b', off', e2, hb', _⟩ := hC (by omega)
          rw [e] at e2
          injection e2 with e2; injection e2 with e3 _
          omega
      have hsz := hbr.size
      have K2 := Lib.hid (raugment_any C cc A g n c s t w.heap.size by_ q L wr (hC.step hbr) hG hF hg1 (by omega) (by omega) hCF HQ.out.2.res HQ.out.1 hA v3 (by omega) (by omega) hbt hcap)
      have HF := Lib.hid HQ.out.2
      clear hd hbt hCF hG hF HQ
      go_wp2_with (go_at_call 43; refine K2.out.mono ?_; rintro e3 w4 ⟨m, L', rfl, hm0, hR', hexc, hF', hK⟩; have hF4 := HF.out.aug (by omega) hR' hexc; have hle4 := hF4.le hA (by omega) (by omega) (by omega) v3 hcap; have hbw4 : Below w.heap.size w w4 := hbr.trans (hK.below (B := w.heap.size) hsz (fun k hk => by omega)); have hsz4 := hK.size; have K3 := Lib.hid (reach_any n s C cc A w.heap.size L' w4 (hC.step hbw4) hF' (by omega) hA v3 (by omega) (by omega) hR' hcap); go_wp2_with (go_at_call 42; refine K3.out.mono ?_; rintro e5 w5 ⟨g5, c5, by5, q5, rfl, hQ5, hg50, hg51, hG5, hb5⟩))
      go_roundg (gk - m.toNat)
      case measure => omega
      case rel => exact ⟨g5, c5, by5, q5, L', v + m, rfl, ⟨hQ5, hF4⟩, by omega, by omega, hG5, hF'.below hb5 (by omega), by omega, hg51, hbw4.trans (hb5.mono hbw4.size)⟩
end Go.Proofs.Ytphebdmdbnpokaa.FL

