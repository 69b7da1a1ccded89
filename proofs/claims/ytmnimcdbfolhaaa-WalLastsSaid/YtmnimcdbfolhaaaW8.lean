/- The walks of Arm, Flush. -/
import Derived.Test.YtmnimcdbfolhaaaW7
set_option linter.unusedSimpArgs false
set_option linter.unusedVariables false
namespace Go.Proofs.Ytmnimcdbfolhaaa
open Go.RowKit DK
attribute [local go_sem] alloc_drewN setCell_drewN shape_drewN
theorem arm_any (b : Nat) (m : Dm) (s : St) (n : Int) (A : Option Addr) (c : Nat) (keep : List Int) (w : World) (h : DiskAt w b m s) (hA : IntsAt w w.heap.size A keep) (hl : keep.length ≤ 1000000000000) (ha : keep ≠ [] → ∀ a, A = some a → a.block ≠ b) :
    Calls Try.prog 61 #[dp b, .int .i64 n, .slice A keep.length c] w fun e w' => e = .returned (.tuple #[]) ∧ ∃ m', DiskAt w' b m' (arm s n keep) ∧ Stp b m w m' w' := by
  unfold dp
  have c19 := h.ca
  have c20 := h.ck
  have z19 := h.fz 19
  have z20 := h.fz 20
  have h1 := h.setArmed 0
  have h2 : DiskAt ((w.setCell ⟨b, 19, none⟩ (.int .i64 0)).setCell ⟨b, 20, none⟩ (.slice none 0 0)) b { m with kA := none, kc := 0 } { s with armed := 0, keep := [] } := DiskAt.setKeep h1 (A := none) (l := []) (c := 0) (fun h => absurd h (by simp)) (fun _ h => by cases h) (fun _ h => by cases h)
  have s2 : Stp b m w { m with kA := none, kc := 0 } ((w.setCell ⟨b, 19, none⟩ (.int .i64 0)).setCell ⟨b, 20, none⟩ (.slice none 0 0)) := ⟨rfl, rfl, rfl, by simp, fun k _ hn => (Below.heap_setCell _ _ _ _ (fun e => hn (.inl e))).trans (Below.heap_setCell _ _ _ _ (fun e => hn (.inl e))), fun k hk => by
    rcases hk with e | e | e | ⟨a, e, _⟩
    · exact .inl (.inl e)
    · exact .inl (.inr (.inl e))
    · exact .inl (.inr (.inr (.inl e)))
    · cases e⟩
  have hb := h.lt
  by_cases hn : 1 ≤ n
  · obtain ⟨k, rfl⟩ := Int.eq_ofNat_of_zero_le (show 0 ≤ n by omega)
    have hr : Hid (arm s (k : Int) keep = { s with armed := k, keep := keep }) := by show _ = _; unfold arm; rw [if_pos hn]; rfl
    obtain ⟨w2, hw2⟩ : ∃ W, W = (w.setCell ⟨b, 19, none⟩ (.int .i64 0)).setCell ⟨b, 20, none⟩ (.slice none 0 0) := ⟨_, rfl⟩
    rw [← hw2] at h2 s2
    have hA2 : IntsAt w2 w2.heap.size A keep := by
      by_cases hk0 : keep = []
      · subst hk0; exact fun h => absurd h (by simp)
      · exact ints_heap hA s2.size fun a e hlt => by rw [hw2, Below.heap_setCell _ _ _ _ (ha hk0 a e), Below.heap_setCell _ _ _ _ (ha hk0 a e)]
    have K := Lib.hid (clone_any A c keep w2 hA2 hl)
    have d19 := h2.ca
    have d20 := h2.ck
    have y19 := h2.fz 19
    have y20 := h2.fz 20
    have hb2 := h2.lt
    obtain ⟨nk, hnk⟩ : ∃ n, Hid (n = keep.length) := ⟨_, rfl⟩
    rw [← hnk.out] at K hl ⊢
    replace h2 := Lib.hid h2
    replace s2 := Lib.hid s2
    clear h h1 hA hA2
    go_enter Try.func61, Try.ntmps61
    go_upto_region 1 with fail
    rw [← hw2]
    clear hw2 c19 c20 z19 z20
    go_wp2_with (go_at_call 81; (with_reducible refine K.out.mono ?_); rintro e w3 ⟨A', c', rfl, hA3, hf3, hb3⟩; have x19 := (hb3.cell (p := ⟨b, 19, none⟩) hb2).trans d19; have x20 := (hb3.cell (p := ⟨b, 20, none⟩) hb2).trans d20; have v19 := (hb3.frozen (p := ⟨b, 19, none⟩) hb2).trans y19; have v20 := (hb3.frozen (p := ⟨b, 20, none⟩) hb2).trans y20; replace hA3 := Lib.hid hA3; replace hf3 := Lib.hid hf3; replace hb3 := Lib.hid hb3)
    go_end0
    have g1 := (h2.out.below hb3.out).setArmed k
    have hz3 := hb3.out.size
    have hA4 : IntsAt (w3.setCell ⟨b, 19, none⟩ (.int .i64 k)) (w3.setCell ⟨b, 19, none⟩ (.int .i64 k)).heap.size A' keep := ints_heap hA3.out (by simp) fun a e _ => Below.heap_setCell _ _ _ _ (show a.block ≠ b by have := (hf3.out a e).1; omega)
    have g2 := DiskAt.setKeep g1 (A := A') (l := keep) (c := c') hA4 (fun a e => by
      have hq := hf3.out a e
      refine ⟨by omega, fun f hf q => ?_, fun q => ?_⟩
      · have := h2.out.dlt hf q; omega
      · have := h2.out.llt q; omega) (fun a e => by have := (hf3.out a e).2; simpa using this)
    rw [hnk.out]
    refine ⟨rfl, _, by rw [hr.out]; exact g2, s2.out.trans ⟨hb3.out.os, hb3.out.tape, hb3.out.output, by simpa using hb3.out.size, fun k hk hn => ?_, fun k hk => ?_⟩⟩
    · rw [Below.heap_setCell _ _ _ _ (fun e => hn (.inl e)), Below.heap_setCell _ _ _ _ (fun e => hn (.inl e))]
      exact hb3.out.block k hk
    · rcases hk with e | e | e | ⟨a, e, rfl⟩
      · exact .inl (.inl e)
      · exact .inl (.inr (.inl e))
      · exact .inl (.inr (.inr (.inl e)))
      · exact .inr (hf3.out a e).1
  · have hr : Hid (arm s n keep = { s with armed := 0, keep := [] }) := by show _ = _; unfold arm; rw [if_neg hn, show n.toNat = 0 by omega]
    replace h2 := Lib.hid h2
    replace s2 := Lib.hid s2
    clear h h1 hA
    go_enter Try.func61, Try.ntmps61
    go_wp2_with fail
    go_end0
    exact ⟨rfl, _, by rw [hr.out]; exact h2.out, s2.out⟩
set_option maxHeartbeats 4000000 in
theorem flush_any (b : Nat) (m : Dm) (s : St) (f : Int) (w : World) (h : DiskAt w b m s) (hok : Ok s) (hq : s.q.length ≤ 1000000) (ha : s.armed ≤ 9223372036854775807) (hls : s.lost ≤ 9223372036854775807) (hkl : s.keep.length ≤ 9223372036854775807) :
    Calls Try.prog 43 #[dp b, .int .i64 f] w fun e w' => e = .returned (.int .i64 (flush s f).1) ∧ ∃ m', DiskAt w' b m' (flush s f).2 ∧ Stp b m w m' w' := by
  unfold dp
  have hn := h.cn
  cases hd : s.down
  case true =>
    rw [hd] at hn
    have hr : Hid (flush s f = (9, s)) := by show _ = _; unfold DK.flush; rw [hd]; rfl
    replace h := Lib.hid h
    clear hd
    go_enter Try.func43, Try.ntmps43
    go_wp2_with fail
    go_ret
    exact ⟨by rw [hr.out]; rfl, m, by rw [hr.out]; exact h.out, Stp.refl _ _ _⟩
  case false =>
    rw [hd] at hn
    have K := interrupted_any b m s w h hok hq ha hkl
    unfold dp at K
    have hr : Hid (flush s f = if isDue s then (9, intS s) else if num f then (if 0 < s.lost then (13, { dueS s with lost := s.lost - 1 }) else (0, flushS (dueS s) f.toNat)) else (1, dueS s)) := by show _ = _; unfold DK.flush; rw [hd]; rfl
    have KN := Lib.hid (fun wx => number_any (.pointer (some ⟨b, 0, none⟩)) f wx)
    clear hd h
    cases hdd : isDue s
    case true =>
      rw [hdd] at K hr
      replace K := Lib.hid K
      clear hdd
      go_enter Try.func43, Try.ntmps43
      go_wp2_with (go_at_call 65; (with_reducible refine K.out.mono ?_); rintro e w1 ⟨rfl, m1, hD1, hS1⟩)
      go_ret
      exact ⟨by rw [hr.out]; rfl, m1, by rw [hr.out]; exact hD1, hS1⟩
    case false =>
      rw [hdd, show intS s = dueS s by unfold intS; rw [hdd]; rfl] at K
      rw [hdd] at hr
      replace K := Lib.hid K
      clear hdd
      go_enter Try.func43, Try.ntmps43
      go_wp2_with fail
      go_at_call 65
      (with_reducible refine K.out.mono ?_)
      rintro e w1 ⟨rfl, m1, hD1, hS1⟩
      have t18 := hD1.ct
      have z18 := hD1.fz 18
      rw [show (dueS s).lost = s.lost from rfl] at t18
      cases g : num f
      case false =>
        rw [g] at hr KN
        replace hD1 := Lib.hid hD1
        replace hS1 := Lib.hid hS1
        clear g
        go_wp2_with (go_at_call 49; (with_reducible refine (KN.out _).mono ?_); rintro e w2 ⟨rfl, rfl⟩)
        go_ret
        exact ⟨by rw [hr.out]; rfl, m1, by rw [hr.out]; exact hD1.out, hS1.out⟩
      case true =>
        rw [g] at hr KN
        have g2 := num_iff.1 g
        obtain ⟨k, rfl⟩ := Int.eq_ofNat_of_zero_le g2.1
        have hk : k < 8 := by omega
        have g3 : (0 : Int) ≤ (k : Int) ∧ (k : Int) < 8 := ⟨g2.1, g2.2⟩
        clear g
        by_cases hlo : 0 < s.lost
        · obtain ⟨l, hl⟩ : ∃ l, s.lost = l + 1 := ⟨s.lost - 1, by omega⟩
          have hr2 : Hid (flush s (k : Int) = (13, { dueS s with lost := l })) := by show _ = _; rw [hr.out]; simp [hl]
          rw [hl] at t18
          have q1 : (0 : Int) < ((l + 1 : Nat) : Int) := by omega
          have q2 : ((l + 1 : Nat) : Int) - 1 = (l : Int) := by omega
          have q3 : IntKind.i64.wrap (l : Int) = (l : Int) := by simp [IntKind.wrap, IntKind.signed, IntKind.bits]; omega
          replace hD1 := Lib.hid hD1
          replace hS1 := Lib.hid hS1
          clear hl hlo
          go_wp2_with (go_at_call 49; (with_reducible refine (KN.out _).mono ?_); rintro e w2 ⟨rfl, rfl⟩)
          go_ret
          exact ⟨by rw [hr2.out]; rfl, m1, by rw [hr2.out]; exact hD1.out.setLost l, hS1.out.trans (stp_store _ _ _)⟩
        · have hl0 : s.lost = 0 := by omega
          have hr2 : Hid (flush s (k : Int) = (0, flushS (dueS s) k)) := by show _ = _; rw [hr.out]; simp [hl0]
          rw [hl0] at t18
          have c0 := hD1.cd k hk
          have u0 := hD1.cu k hk
          have z0 := hD1.fz (k * 2 + 1)
          have hb := hD1.lt
          obtain ⟨L, hL⟩ : ∃ x, Hid (x = ((dueS s).data k).length) := ⟨_, rfl⟩
          rw [← hL.out] at c0
          have hDn := hD1.setDur hk L
          obtain ⟨w2, hw2⟩ : ∃ W, W = (w1.setCell ⟨b, k * 2 + 1, none⟩ (.int .i64 L)).drew := ⟨_, rfl⟩
          have hDn2 : DiskAt w2 b m1 { dueS s with dur := upd (dueS s).dur k L } := by rw [hw2]; exact hDn.drew
          have hSn : Stp b m w m1 w2 := hS1.trans (by rw [hw2]; exact (stp_store m1 (k * 2 + 1) _).trans (Stp.of_below (Below.refl _ _).drew))
          have K2 := settle_any b m1 _ k w2 hDn2 hq
          unfold dp at K2
          replace K2 := Lib.hid K2
          replace hSn := Lib.hid hSn
          clear hD1 hDn hS1 hDn2 hl0 hlo
          go_upto_region 8 with (go_at_call 49; (with_reducible refine (KN.out _).mono ?_); rintro e w2 ⟨rfl, rfl⟩)
          refine Plan.wp_region_below 14 [(0, true), (1, true), (2, true), (3, true), (4, true), (5, true), (6, true), (7, true), (8, true), (9, true), (10, true), (11, true), (12, true), (13, true), (14, false)] (by kernel_rfl) (by kernel_rfl) ?_
          (repeat (first | (refine Plan.plan_read (v := ?_) rfl rfl ?_ ?_; rotate_left; (focus ((intro wS hSw; have hkS := (bcell hSw).1; go_simp); try with_reducible rfl)); simp only [Act.put, List.setIfInBounds_toArray, List.set_cons_zero, List.set_cons_succ]) | (refine Plan.plan_skip rfl rfl ?_; simp only [Act.put, List.setIfInBounds_toArray, List.set_cons_zero, List.set_cons_succ])))
          (refine Plan.plan_last rfl (fun K hK => ?_); go_simp; refine hK.out _ _ ?_; clear hK K; try simp only [Act.put, List.setIfInBounds_toArray, List.set_cons_zero, List.set_cons_succ])
          rw [← hw2]
          clear hw2
          go_wp2_with (go_at_call 68; (with_reducible refine K2.out.mono ?_); rintro e w3 ⟨rfl, m3, hD3, hS3⟩)
          go_ret
          exact ⟨by rw [hr2.out]; rfl, m3, by rw [hr2.out]; unfold flushS; rw [← hL.out]; exact hD3, hSn.out.trans hS3⟩
end Go.Proofs.Ytmnimcdbfolhaaa
