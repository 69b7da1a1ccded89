/- The walk of the reference's Post. (Printed by gen_w7.py.) -/
import Derived.Test.YtokhapchagffkaaW7
set_option linter.unusedSimpArgs false
set_option linter.unusedVariables false
namespace Go.Proofs.Ytokhapchagffkaa
open Go.RowKit LG
attribute [local go_sem] alloc_drewN setCell_drewN shape_drewN

set_option maxHeartbeats 8000000 in
theorem rpost_any (l e : List Et) (C1 C2 : Option Addr) (c1 c2 : Nat) (w : World) {B : Nat} (h1 : EntsAt w B C1 l) (h2 : EntsAt w B C2 e) (hB : B ≤ w.heap.size) (hl1 : l.length ≤ 900000) (hl2 : e.length ≤ 900000) (hI1 : LitsIn l) (hI2 : LitsIn e) :
    Calls Try.prog 10 #[.slice C1 l.length c1, .slice C2 e.length c2] w (PostRes (postR l e) w) := by
  obtain ⟨i0, hi, hz0, hzz1, hzz2⟩ := info_parts Try.infoEntry
  have K0 := rposting_any e C2 c2 w h2 hB (by omega) hI2
  unfold BoolIs at K0
  cases hp : postB e with
  | false =>
    have HR : Hid (postR l e = ([], 1)) := postR_arg hp
    rw [hp] at K0
    have K0 := Lib.hid K0
    clear hp
    go_enter Try.func10, Try.ntmps10
    go_wp2_with (first | (go_at_call 24; (with_reducible refine K0.out.mono ?_); rintro x1 w1 ⟨rfl, hb1⟩) | fail)
    go_ret2
    exact PostRes.nil HR.out hb1
  | true =>
    rw [hp] at K0
    have K0 := Lib.hid K0
    have HP := Lib.hid hp
    have hne : e ≠ [] := postB_ne hp
    have hpos : 0 < e.length := List.length_pos_iff.2 hne
    obtain ⟨h, hh⟩ : ∃ h, e[0]? = some h := ⟨_, List.getElem?_eq_getElem hpos⟩
    have HH := Lib.hid hh
    clear hp hne hh
    by_cases hl0 : l = []
    · have HLt : Hid (lateB l e = false) := by show _ = _; rw [hl0]; exact lateB_nil e
      have d0 : ¬ (0 : Int) < (l.length : Int) := by rw [hl0]; simp
      have d1 : decide ((0 : Int) < (l.length : Int)) = false := decide_eq_false d0
      have d2 : decide (0 < l.length) = false := decide_eq_false (by omega)
      clear hl0
      go_enter Try.func10, Try.ntmps10
      go_wp2_with (first | (go_at_call 24; (with_reducible refine K0.out.mono ?_); rintro x1 w1 ⟨rfl, hb1⟩) | fail)
      have hbq := hb1
      clear hb1
      generalize w1 = w3 at hbq ⊢
      have q1 : EntsAt w3 B C1 l := h1.below (hbq.mono hB)
      have q2 : EntsAt w3 B C2 e := h2.below (hbq.mono hB)
      have hz1 := hbq.size
      have KL := room_any 4611686018427387904 l C1 c1 w3 q1 (by omega) hI1 (by omega) (by omega)
      by_cases hL : absS l ≤ 4611686018427387904
      case neg =>
        have HR : Hid (postR l e = ([], 8)) := postR_full HP.out HLt.out (by unfold fullB; have := absS_nn e; exact decide_eq_true (by omega))
        rw [show roomR 4611686018427387904 l = -1 from if_neg hL] at KL
        have KL := Lib.hid KL
        clear hL
        go_wp2_with (first | (go_at_call 25; (with_reducible refine KL.out.mono ?_); rintro x2 w2 ⟨rfl, rfl⟩) | fail)
        go_ret2
        exact PostRes.nil HR.out hbq
      rw [show roomR 4611686018427387904 l = 4611686018427387904 - absS l from if_pos hL] at KL
      have KL := Lib.hid KL
      obtain ⟨lim, hlim⟩ : ∃ m, m = 4611686018427387904 - absS l := ⟨_, rfl⟩
      rw [← hlim] at KL
      have hlim0 : 0 ≤ lim := by omega
      have hlim1 : lim ≤ 4611686018427387904 := by have := absS_nn l; omega
      have KE := room_any lim e C2 c2 w3 q2 (by omega) hI2 hlim0 hlim1
      have hlz : ¬ lim < 0 := by omega
      have hld : decide (lim < 0) = false := decide_eq_false hlz
      by_cases hE : absS e ≤ lim
      case neg =>
        have HR : Hid (postR l e = ([], 8)) := postR_full HP.out HLt.out (by unfold fullB; exact decide_eq_true (by omega))
        rw [show roomR lim e = -1 from if_neg hE] at KE
        have KE := Lib.hid KE
        clear hL hE hlim
        go_wp2_with (first | (go_at_call 25; (with_reducible refine KL.out.mono ?_); rintro x2 w2 ⟨rfl, rfl⟩) | (go_at_call 25; (with_reducible refine KE.out.mono ?_); rintro x2 w2 ⟨rfl, rfl⟩) | fail)
        go_ret2
        exact PostRes.nil HR.out hbq
      have HR : Hid (postR l e = (l ++ e, 0)) := postR_ok HP.out HLt.out (by unfold fullB; exact decide_eq_false (by omega))
      rw [show roomR lim e = lim - absS e from if_pos hE] at KE
      obtain ⟨rem, hrem⟩ : ∃ m, m = lim - absS e := ⟨_, rfl⟩
      rw [← hrem] at KE
      have KE := Lib.hid KE
      have hrz : ¬ rem < 0 := by omega
      have hrd : decide (rem < 0) = false := decide_eq_false hrz
      have R1 := Lib.hid (reads_ents (q1.below ((Below.refl _ _).alloc (by omega) (.cells #[] 36))))
      have R2 := Lib.hid (fun (wx : World) (hb : Below w3.heap.size w3 wx) => reads_ents (q2.below (hb.mono (by omega))))
      have HO0 : Hid ((w3.alloc (.cells #[] 36)).ownsRow w3.heap.size 36 7 (.slice (some ⟨w3.heap.size, 0, none⟩) 0 0) 0 []) := World.ownsRow_made w3 #[] 0 (Nat.le_refl _) (by unfold maxLen; omega) rfl
      clear hL hE hlim hrem
      go_wp2_with (first | (go_at_call 25; (with_reducible refine KL.out.mono ?_); rintro x2 w2 ⟨rfl, rfl⟩) | (go_at_call 25; (with_reducible refine KE.out.mono ?_); rintro x2 w2 ⟨rfl, rfl⟩) | (at_builtin; refine wpList_append_any _ rfl _ _ 22 rfl w3.heap.size 36 i0 _ 7 56 Try.underlying22 hi hz0 hzz1 hzz2 rfl (by decide) _ 0 [] rfl HO0.out B C1 l.length c1 (rowE l) rfl R1.out (rowE_one l) (by unfold maxLen; omega) (by omega) (by simp) ?_; intro v4 w4 hown4 hgrow4 _; have hb4 : Below w3.heap.size w3 w4 := ((Below.refl _ _).alloc (Nat.le_refl _) _).trans (below_own HO0.out (by simp) hgrow4)) | (at_builtin; refine wpList_append_any _ rfl _ _ 22 rfl w3.heap.size 36 i0 _ 7 56 Try.underlying22 hi hz0 hzz1 hzz2 rfl (by decide) v4 (0 + l.length) ([] ++ rowE l) rfl hown4 B C2 e.length c2 (rowE e) rfl (R2.out _ hb4) (rowE_one e) (by unfold maxLen; omega) (by omega) (by have := hb4.size; omega) ?_; intro v5 w5 hown5 hgrow5 _; have hb5 := hb4.trans (below_own hown4 hb4.size hgrow5)) | fail)
      rw [List.nil_append, ← rowE_append, Nat.zero_add, ← List.length_append] at hown5
      have hbF : Below w.heap.size w w5 := hbq.trans (hb5.mono hz1)
      obtain ⟨D, dc, he, hD, hF⟩ := ents_of_owns hown5
      have hcap := owns_cap hown5 he
      subst he
      clear hown5 hgrow5
      go_wp2_with fail
      go_ret2
      rw [HR.out]
      exact ⟨D, dc, rfl, hcap, hD, fun a ha => by have := hF a ha; omega, hbF⟩
    · obtain ⟨n, hn⟩ : ∃ n, l.length = n + 1 := ⟨l.length - 1, by have := List.length_pos_iff.2 hl0; omega⟩
      obtain ⟨q, hq⟩ : ∃ q, l[n]? = some q := ⟨_, List.getElem?_eq_getElem (by omega)⟩
      have hlate := lateB_of hn hq HH.out
      have HQ := Lib.hid hq
      have v1 : IntKind.i64.wrap ((l.length : Int) - 1) = (n : Int) := by rw [IntKind.wrap_i64]; omega
      have v2 : (l.length : Int) - 1 = (n : Int) := by omega
      have v3 : IntKind.i64.wrap (n : Int) = (n : Int) := by rw [IntKind.wrap_i64]; omega
      have v4 : (n : Int) < (l.length : Int) := by omega
      have v5 : (0 : Int) < (l.length : Int) := by omega
      have v6 : n < l.length := by omega
      have v7 : decide ((0 : Int) < (l.length : Int)) = true := decide_eq_true v5
      have v8 : decide (0 < l.length) = true := decide_eq_true (by omega)
      have hN := Lib.hid hn
      clear hn hq hl0
      go_enter Try.func10, Try.ntmps10
      go_wp2_with (first | (go_at_call 24; (with_reducible refine K0.out.mono ?_); rintro x1 w1 ⟨rfl, hb1⟩) | fail)
      obtain ⟨b2, o2, rfl, hb2', z0, z1, _⟩ := (h2.below (hb1.mono hB)).at_ HH.out
      rw [Nat.zero_mul, Nat.add_zero] at z0 z1
      have hbz := hb1.size
      have hb2w : b2 < w1.heap.size := by omega
      obtain ⟨b1, o1, rfl, hb1', y0, y1, _⟩ := (h1.below (hb1.mono hB)).at_ HQ.out
      have hb1w : b1 < w1.heap.size := by omega
      by_cases hk : h.known < q.known
      · have d1 : decide (h.known < q.known) = true := decide_eq_true hk
        have HR : Hid (postR l e = ([], 15)) := postR_late HP.out (hlate.trans d1)
        clear hlate
        go_quiet (fail)
        go_wp2_with fail
        go_ret2
        exact PostRes.nil HR.out (below_drewN hb1 _)
      · have d1 : decide (h.known < q.known) = false := decide_eq_false hk
        have HLt : Hid (lateB l e = false) := hlate.trans d1
        clear hlate
        go_quiet (fail)
        have hbq := below_drewN hb1 nq
        clear hb1 hb2w hbz z0 z1 hb1w y0 y1
        generalize w1.drewN nq = w3 at hbq ⊢
        have q1 : EntsAt w3 B (some ⟨b1, o1, none⟩) l := h1.below (hbq.mono hB)
        have q2 : EntsAt w3 B (some ⟨b2, o2, none⟩) e := h2.below (hbq.mono hB)
        have hz1 := hbq.size
        have KL := room_any 4611686018427387904 l (some ⟨b1, o1, none⟩) c1 w3 q1 (by omega) hI1 (by omega) (by omega)
        by_cases hL : absS l ≤ 4611686018427387904
        case neg =>
          have HR : Hid (postR l e = ([], 8)) := postR_full HP.out HLt.out (by unfold fullB; have := absS_nn e; exact decide_eq_true (by omega))
          rw [show roomR 4611686018427387904 l = -1 from if_neg hL] at KL
          have KL := Lib.hid KL
          clear hL
          go_wp2_with (first | (go_at_call 25; (with_reducible refine KL.out.mono ?_); rintro x2 w2 ⟨rfl, rfl⟩) | fail)
          go_ret2
          exact PostRes.nil HR.out hbq
        rw [show roomR 4611686018427387904 l = 4611686018427387904 - absS l from if_pos hL] at KL
        have KL := Lib.hid KL
        obtain ⟨lim, hlim⟩ : ∃ m, m = 4611686018427387904 - absS l := ⟨_, rfl⟩
        rw [← hlim] at KL
        have hlim0 : 0 ≤ lim := by omega
        have hlim1 : lim ≤ 4611686018427387904 := by have := absS_nn l; omega
        have KE := room_any lim e (some ⟨b2, o2, none⟩) c2 w3 q2 (by omega) hI2 hlim0 hlim1
        have hlz : ¬ lim < 0 := by omega
        have hld : decide (lim < 0) = false := decide_eq_false hlz
        by_cases hE : absS e ≤ lim
        case neg =>
          have HR : Hid (postR l e = ([], 8)) := postR_full HP.out HLt.out (by unfold fullB; exact decide_eq_true (by omega))
          rw [show roomR lim e = -1 from if_neg hE] at KE
          have KE := Lib.hid KE
          clear hL hE hlim
          go_wp2_with (first | (go_at_call 25; (with_reducible refine KL.out.mono ?_); rintro x2 w2 ⟨rfl, rfl⟩) | (go_at_call 25; (with_reducible refine KE.out.mono ?_); rintro x2 w2 ⟨rfl, rfl⟩) | fail)
          go_ret2
          exact PostRes.nil HR.out hbq
        have HR : Hid (postR l e = (l ++ e, 0)) := postR_ok HP.out HLt.out (by unfold fullB; exact decide_eq_false (by omega))
        rw [show roomR lim e = lim - absS e from if_pos hE] at KE
        obtain ⟨rem, hrem⟩ : ∃ m, m = lim - absS e := ⟨_, rfl⟩
        rw [← hrem] at KE
        have KE := Lib.hid KE
        have hrz : ¬ rem < 0 := by omega
        have hrd : decide (rem < 0) = false := decide_eq_false hrz
        have R1 := Lib.hid (reads_ents (q1.below ((Below.refl _ _).alloc (by omega) (.cells #[] 36))))
        have R2 := Lib.hid (fun (wx : World) (hb : Below w3.heap.size w3 wx) => reads_ents (q2.below (hb.mono (by omega))))
        have HO0 : Hid ((w3.alloc (.cells #[] 36)).ownsRow w3.heap.size 36 7 (.slice (some ⟨w3.heap.size, 0, none⟩) 0 0) 0 []) := World.ownsRow_made w3 #[] 0 (Nat.le_refl _) (by unfold maxLen; omega) rfl
        clear hL hE hlim hrem
        go_wp2_with (first | (go_at_call 25; (with_reducible refine KL.out.mono ?_); rintro x2 w2 ⟨rfl, rfl⟩) | (go_at_call 25; (with_reducible refine KE.out.mono ?_); rintro x2 w2 ⟨rfl, rfl⟩) | (at_builtin; refine wpList_append_any _ rfl _ _ 22 rfl w3.heap.size 36 i0 _ 7 56 Try.underlying22 hi hz0 hzz1 hzz2 rfl (by decide) _ 0 [] rfl HO0.out B (some ⟨b1, o1, none⟩) l.length c1 (rowE l) rfl R1.out (rowE_one l) (by unfold maxLen; omega) (by omega) (by simp) ?_; intro v4 w4 hown4 hgrow4 _; have hb4 : Below w3.heap.size w3 w4 := ((Below.refl _ _).alloc (Nat.le_refl _) _).trans (below_own HO0.out (by simp) hgrow4)) | (at_builtin; refine wpList_append_any _ rfl _ _ 22 rfl w3.heap.size 36 i0 _ 7 56 Try.underlying22 hi hz0 hzz1 hzz2 rfl (by decide) v4 (0 + l.length) ([] ++ rowE l) rfl hown4 B (some ⟨b2, o2, none⟩) e.length c2 (rowE e) rfl (R2.out _ hb4) (rowE_one e) (by unfold maxLen; omega) (by omega) (by have := hb4.size; omega) ?_; intro v5 w5 hown5 hgrow5 _; have hb5 := hb4.trans (below_own hown4 hb4.size hgrow5)) | fail)
        rw [List.nil_append, ← rowE_append, Nat.zero_add, ← List.length_append] at hown5
        have hbF : Below w.heap.size w w5 := hbq.trans (hb5.mono hz1)
        obtain ⟨D, dc, he, hD, hF⟩ := ents_of_owns hown5
        have hcap := owns_cap hown5 he
        subst he
        clear hown5 hgrow5
        go_wp2_with fail
        go_ret2
        rw [HR.out]
        exact ⟨D, dc, rfl, hcap, hD, fun a ha => by have := hF a ha; omega, hbF⟩
end Go.Proofs.Ytokhapchagffkaa
