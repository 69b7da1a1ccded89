/- The walk of heap.down. -/
import Derived.Test.YtphebdmdbnpokaaH2
set_option linter.unusedSimpArgs false
set_option linter.unusedVariables false
namespace Go.Proofs.Ytphebdmdbnpokaa
open Go.RowKit RD HP
attribute [local go_sem] alloc_drewN setCell_drewN shape_drewN
theorem less_heap {w : World} {base b : Nat} {o : Option Nat} {c : Nat} {Q : List V} (h : HeapAt w base b o c Q) {i j : Nat} (hi : i < Q.length) (hj : j < Q.length) (hm : Q.length ≤ 1000000) :
    Calls Try.prog 73 #[.slice (ad o) Q.length c, .int .i64 i, .int .i64 j] w (LessIs (HP.at_ Q i) (HP.at_ Q j) w) := by
  obtain ⟨g, rfl, _, _, hcell⟩ := h.get hi
  obtain ⟨p1, p2, _⟩ := hcell i hi
  obtain ⟨r1, r2, _⟩ := hcell j hj
  exact less_any g c Q.length i j _ _ w hi hj (by omega) p1 p2 r1 r2
theorem swap_heap {w : World} {base b : Nat} {o : Option Nat} {c : Nat} {Q : List V} (h : HeapAt w base b o c Q) {i j : Nat} (hi : i < Q.length) (hj : j < Q.length) (hm : Q.length ≤ 1000000) :
    Calls Try.prog 76 #[.slice (ad o) Q.length c, .int .i64 i, .int .i64 j] w fun e w' => e = .returned (.tuple #[]) ∧ HeapAt w' base b o c (swp Q i j) ∧ Kp (hS b o) w w' := by
  obtain ⟨g, rfl, _, _, hcell⟩ := h.get hi
  obtain ⟨p1, p2, hfr⟩ := hcell i hi
  obtain ⟨r1, r2, _⟩ := hcell j hj
  refine (swap_any g c Q.length i j _ _ w hi hj (by omega) hfr p1 p2 r1 r2).mono fun e w' ⟨h1, h2⟩ => ⟨h1, ?_⟩
  rw [h2]
  exact h.swap rfl hi hj
set_option maxRecDepth 100000 in
set_option maxHeartbeats 8000000 in
theorem down_any (base b : Nat) (o : Option Nat) (c : Nat) (Q : List V) (i0 n : Nat) (w : World) (h : HeapAt w base b o c Q) (hu : Down Q i0 n) (hm : Q.length ≤ 1000000) (hi0 : i0 ≤ 1000000) :
    Calls Try.prog 49 #[.iface 77 (.pointer (some ⟨b, 0, none⟩)), .int .i64 i0, .int .i64 n] w fun e w' => (∃ x, e = .returned (.bool x)) ∧ SiftIs base b o c Q n w w' := by
  have hn := hu.le
  have hnb : n ≤ 1000000 := by omega
  go_enter Try.func49, Try.ntmps49
  go_wp2_with fail
  go_loopw [7] (fun iv wr => ∃ i Qr, iv = .int .i64 (i : Nat) ∧ i ≤ 1000000 ∧ HeapAt wr base b o c Qr ∧ Down Qr i n ∧ Qr.length = Q.length ∧ (∀ p, p ∈ Qr ↔ p ∈ Q) ∧ Kp (hS b o) w wr ∧ ∀ k, n ≤ k → HP.at_ Qr k = HP.at_ Q k) (fun iv _ => 1000000 - (intOf iv).toNat)
  case atStart => exact ⟨i0, Q, rfl, hi0, h, hu, rfl, fun _ => Iff.rfl, Kp.refl _ _, fun _ _ => rfl⟩
  case round =>
    clear h hu
    obtain ⟨i, Qr, rfl, hib, hH, hU, hl, hmem, hK, hat⟩ := hrel
    have Hat := Lib.hid hat
    obtain ⟨j1, hj1⟩ : ∃ j1, j1 = 2 * i + 1 := ⟨_, rfl⟩
    have q1 : 2 * (i : Int) + 1 = (j1 : Int) := by omega
    have HJ := Lib.hid hj1
    have HU := Lib.hid hU
    have HK := Lib.hid hK
    have Hl := Lib.hid hl
    have Hm := Lib.hid hmem
    have hnr : n ≤ Qr.length := by omega
    have hrl : Qr.length ≤ 1000000 := by omega
    have hj1b : j1 ≤ 2000001 := by omega
    have hij : i < j1 := by omega
    clear hU hK hl hmem hj1 hat
    by_cases h1 : j1 < n
    case neg =>
      go_wp2_with fail
      go_ret
      exact ⟨⟨_, rfl⟩, Qr, hH, HU.out.leaf (by rw [← HJ.out]; omega), Hl.out, Hm.out, HK.out, Hat.out⟩
    obtain ⟨j2, hj2⟩ : ∃ j2, j2 = j1 + 1 := ⟨_, rfl⟩
    have q2 : (j1 : Int) + 1 = (j2 : Int) := by omega
    have HJ2 := Lib.hid hj2
    have hj2b : j2 ≤ 2000002 := by omega
    have hij2 : i < j2 := by omega
    clear hj2
    have hbox := hH.box
    have n1 := nil_less ⟨b, 0, none⟩ wr
    have m1 := meth_less b _ _ _ wr hbox
    have HH := Lib.hid hH
    clear hH
    have hil : i < Qr.length := by omega
    have hj1l : j1 < Qr.length := by omega
    by_cases h2 : j2 < n
    · have hj2l : j2 < Qr.length := by omega
      have KL0 := Lib.hid (less_heap HH.out (i := j2) (j := j1) hj2l hj1l hrl)
      unfold LessIs at KL0
      obtain ⟨l0, hl0⟩ : ∃ x, ltB (HP.at_ Qr j2) (HP.at_ Qr j1) = x := ⟨_, rfl⟩
      rw [hl0] at KL0
      have Hl0 := Lib.hid hl0
      clear hl0
      cases l0
      · go_upto_region 8 with (first | (go_at_call 73; (with_reducible refine KL0.out.mono ?_); rintro e0 w0 ⟨rfl, nq, rfl⟩) | fail)
        have HD := HH.out.below (below_drewN (Below.refl _ _) nq)
        have HKQ := HK.out.drewN nq
        have hbxq := hbox.below (below_drewN (Below.refl _ _) nq) hbox.lt
        generalize wr.drewN nq = wq at HD HKQ hbxq ⊢
        clear n1 m1
        have n1 := nil_less ⟨b, 0, none⟩ wq
        have m1 := meth_less b _ _ _ wq hbxq
        replace HD := Lib.hid HD
        replace HKQ := Lib.hid HKQ
        have hle : ∀ k, k < n → k = 2 * i + 1 ∨ k = 2 * i + 2 → HP.le (HP.at_ Qr j1) (HP.at_ Qr k) := fun k hk e => if q : k = j1 then (by rw [q]; exact le_refl _) else (by rw [show k = j2 by have := HJ.out; have := HJ2.out; omega]; exact Hl0.out)
        have HLE := Lib.hid hle
        have hsel : j1 = 2 * i + 1 ∨ j1 = 2 * i + 2 := by have := HJ.out; have := HJ2.out; omega
        have HSEL := Lib.hid hsel
        clear hle hsel
        have KL := Lib.hid (less_heap HD.out (i := j1) (j := i) (by omega) hil hrl)
        unfold LessIs at KL
        obtain ⟨lt, hlt⟩ : ∃ x, ltB (HP.at_ Qr j1) (HP.at_ Qr i) = x := ⟨_, rfl⟩
        rw [hlt] at KL
        have Hlt := Lib.hid hlt
        clear hlt
        cases lt
        · go_wp2_with (first | (go_at_call 73; (with_reducible refine KL.out.mono ?_); rintro e1 w1 ⟨rfl, nr, rfl⟩) | fail)
          go_ret
          exact ⟨⟨_, rfl⟩, Qr, HD.out.below (below_drewN (Below.refl _ _) nr), HU.out.stop HSEL.out HLE.out Hlt.out, Hl.out, Hm.out, (HKQ.out).drewN nr, Hat.out⟩
        · go_wp2_with (first | (go_at_call 73; (with_reducible refine KL.out.mono ?_); rintro e1 w1 ⟨rfl, nr, rfl⟩; have n2 := nil_swap ⟨b, 0, none⟩ (wq.drewN nr); have m2 := meth_swap b _ _ _ (wq.drewN nr) hbxq; have KS := Lib.hid (swap_heap (HD.out.below (below_drewN (Below.refl _ _) nr)) (i := i) (j := j1) hil (by omega) hrl)) | (go_at_call 76; (with_reducible refine KS.out.mono ?_); rintro e2 w2 ⟨rfl, hH2, hK2⟩; replace hH2 := Lib.hid hH2; replace hK2 := Lib.hid hK2) | fail)
          go_roundw
          case rel => exact ⟨j1, _, rfl, by omega, hH2.out, HU.out.step HSEL.out (by omega) HLE.out Hlt.out, by rw [swp_len]; exact Hl.out, fun p => (mem_swp hil (by omega) p).trans (Hm.out p), ((HKQ.out).drewN nr).trans hK2.out fun _ _ e => e, fun k hk => by rw [at_swp hil (by omega), if_neg (by omega), if_neg (by omega)]; exact Hat.out k hk⟩
          case measure => simp [intOf]; omega
      · go_upto_region 8 with (first | (go_at_call 73; (with_reducible refine KL0.out.mono ?_); rintro e0 w0 ⟨rfl, nq, rfl⟩) | fail)
        have HD := HH.out.below (below_drewN (Below.refl _ _) nq)
        have HKQ := HK.out.drewN nq
        have hbxq := hbox.below (below_drewN (Below.refl _ _) nq) hbox.lt
        generalize wr.drewN nq = wq at HD HKQ hbxq ⊢
        clear n1 m1
        have n1 := nil_less ⟨b, 0, none⟩ wq
        have m1 := meth_less b _ _ _ wq hbxq
        replace HD := Lib.hid HD
        replace HKQ := Lib.hid HKQ
        have hle : ∀ k, k < n → k = 2 * i + 1 ∨ k = 2 * i + 2 → HP.le (HP.at_ Qr j2) (HP.at_ Qr k) := fun k hk e => if q : k = j1 then (by rw [q]; exact le_of_lt Hl0.out) else (by rw [show k = j2 by have := HJ.out; have := HJ2.out; omega]; exact le_refl _)
        have HLE := Lib.hid hle
        have hsel : j2 = 2 * i + 1 ∨ j2 = 2 * i + 2 := by have := HJ.out; have := HJ2.out; omega
        have HSEL := Lib.hid hsel
        clear hle hsel
        have KL := Lib.hid (less_heap HD.out (i := j2) (j := i) (by omega) hil hrl)
        unfold LessIs at KL
        obtain ⟨lt, hlt⟩ : ∃ x, ltB (HP.at_ Qr j2) (HP.at_ Qr i) = x := ⟨_, rfl⟩
        rw [hlt] at KL
        have Hlt := Lib.hid hlt
        clear hlt
        cases lt
        · go_wp2_with (first | (go_at_call 73; (with_reducible refine KL.out.mono ?_); rintro e1 w1 ⟨rfl, nr, rfl⟩) | fail)
          go_ret
          exact ⟨⟨_, rfl⟩, Qr, HD.out.below (below_drewN (Below.refl _ _) nr), HU.out.stop HSEL.out HLE.out Hlt.out, Hl.out, Hm.out, (HKQ.out).drewN nr, Hat.out⟩
        · go_wp2_with (first | (go_at_call 73; (with_reducible refine KL.out.mono ?_); rintro e1 w1 ⟨rfl, nr, rfl⟩; have n2 := nil_swap ⟨b, 0, none⟩ (wq.drewN nr); have m2 := meth_swap b _ _ _ (wq.drewN nr) hbxq; have KS := Lib.hid (swap_heap (HD.out.below (below_drewN (Below.refl _ _) nr)) (i := i) (j := j2) hil (by omega) hrl)) | (go_at_call 76; (with_reducible refine KS.out.mono ?_); rintro e2 w2 ⟨rfl, hH2, hK2⟩; replace hH2 := Lib.hid hH2; replace hK2 := Lib.hid hK2) | fail)
          go_roundw
          case rel => exact ⟨j2, _, rfl, by omega, hH2.out, HU.out.step HSEL.out (by omega) HLE.out Hlt.out, by rw [swp_len]; exact Hl.out, fun p => (mem_swp hil (by omega) p).trans (Hm.out p), ((HKQ.out).drewN nr).trans hK2.out fun _ _ e => e, fun k hk => by rw [at_swp hil (by omega), if_neg (by omega), if_neg (by omega)]; exact Hat.out k hk⟩
          case measure => simp [intOf]; omega
    · go_upto_region 8 with fail
      have hle : ∀ k, k < n → k = 2 * i + 1 ∨ k = 2 * i + 2 → HP.le (HP.at_ Qr j1) (HP.at_ Qr k) := fun k hk e => by have := HJ.out; have := HJ2.out; rw [show k = j1 by omega]; exact le_refl _
      have HLE := Lib.hid hle
      have hsel : j1 = 2 * i + 1 ∨ j1 = 2 * i + 2 := by have := HJ.out; have := HJ2.out; omega
      have HSEL := Lib.hid hsel
      clear hle hsel
      have KL := Lib.hid (less_heap HH.out (i := j1) (j := i) (by omega) hil hrl)
      unfold LessIs at KL
      obtain ⟨lt, hlt⟩ : ∃ x, ltB (HP.at_ Qr j1) (HP.at_ Qr i) = x := ⟨_, rfl⟩
      rw [hlt] at KL
      have Hlt := Lib.hid hlt
      clear hlt
      cases lt
      · go_wp2_with (first | (go_at_call 73; (with_reducible refine KL.out.mono ?_); rintro e1 w1 ⟨rfl, nr, rfl⟩) | fail)
        go_ret
        exact ⟨⟨_, rfl⟩, Qr, HH.out.below (below_drewN (Below.refl _ _) nr), HU.out.stop HSEL.out HLE.out Hlt.out, Hl.out, Hm.out, (HK.out).drewN nr, Hat.out⟩
      · go_wp2_with (first | (go_at_call 73; (with_reducible refine KL.out.mono ?_); rintro e1 w1 ⟨rfl, nr, rfl⟩; have n2 := nil_swap ⟨b, 0, none⟩ (wr.drewN nr); have m2 := meth_swap b _ _ _ (wr.drewN nr) hbox; have KS := Lib.hid (swap_heap (HH.out.below (below_drewN (Below.refl _ _) nr)) (i := i) (j := j1) hil (by omega) hrl)) | (go_at_call 76; (with_reducible refine KS.out.mono ?_); rintro e2 w2 ⟨rfl, hH2, hK2⟩; replace hH2 := Lib.hid hH2; replace hK2 := Lib.hid hK2) | fail)
        go_roundw
        case rel => exact ⟨j1, _, rfl, by omega, hH2.out, HU.out.step HSEL.out (by omega) HLE.out Hlt.out, by rw [swp_len]; exact Hl.out, fun p => (mem_swp hil (by omega) p).trans (Hm.out p), ((HK.out).drewN nr).trans hK2.out fun _ _ e => e, fun k hk => by rw [at_swp hil (by omega), if_neg (by omega), if_neg (by omega)]; exact Hat.out k hk⟩
        case measure => simp [intOf]; omega
end Go.Proofs.Ytphebdmdbnpokaa
