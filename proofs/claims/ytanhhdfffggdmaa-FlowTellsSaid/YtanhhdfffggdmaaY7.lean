/- The walk of the reference's Check. -/
import Derived.Test.YtanhhdfffggdmaaY6
namespace Go.Proofs.Ytanhhdfffggdmaa
open Go.RowKit FM
attribute [local go_sem] alloc_drewN setCell_drewN shape_drewN

theorem rcheck_inv (n s t : Int) (C : Option Addr) (cc : Nat) (A : List Arc) (FA : Option Addr) (fc : Nat) (fl : List Int) (SA : Option Addr) (sc : Nat) (side : List Int) (w : World) (hC : ArcsAt w w.heap.size C A) (hlA : A.length ≤ 9223372036854775807) (hV : ¬ Valid n A s t) :
    Calls Try.prog 15 #[.int .i64 n, .slice C A.length cc, .int .i64 s, .int .i64 t, .slice FA fl.length fc, .slice SA side.length sc] w (CheckSaid n A s t fl side w) := by
  have hcall := Lib.hid (rvalid_any n s t C cc A w hC hlA)
  have Hv := Lib.hid (validB_false hV)
  have Hn : Hid (¬ CheckOk n A s t fl side) := fun h => hV h.1
  clear hV hlA
  go_enter Try.func15, Try.ntmps15
  go_wp2_with (go_at_call 22; refine hcall.out.mono ?_; rintro e1 w1 ⟨rfl, rfl⟩; rw [Hv.out])
  go_ret
  exact .no Hn.out (Below.refl _ _)
theorem rcheck_len (n s t : Int) (C : Option Addr) (cc : Nat) (A : List Arc) (FA : Option Addr) (fc : Nat) (fl : List Int) (SA : Option Addr) (sc : Nat) (side : List Int) (w : World) (hC : ArcsAt w w.heap.size C A) (hlA : A.length ≤ 9223372036854775807) (hl2 : fl.length ≤ 9223372036854775807) (hV : Valid n A s t) (hl : fl.length ≠ A.length) :
    Calls Try.prog 15 #[.int .i64 n, .slice C A.length cc, .int .i64 s, .int .i64 t, .slice FA fl.length fc, .slice SA side.length sc] w (CheckSaid n A s t fl side w) := by
  have hcall := Lib.hid (rvalid_any n s t C cc A w hC hlA)
  have Hv := Lib.hid (validB_true hV)
  have Hn : Hid (¬ CheckOk n A s t fl side) := fun h => hl h.2.1
  have e1 : (fl.length != A.length) = true := by simp; exact hl
  have e2 : ((fl.length : Int) != (A.length : Int)) = true := by simp; omega
  clear hV
  go_enter Try.func15, Try.ntmps15
  go_wp2_with (go_at_call 22; refine hcall.out.mono ?_; rintro e1 w1 ⟨rfl, rfl⟩; rw [Hv.out])
  go_ret
  exact .no Hn.out (Below.refl _ _)

set_option maxHeartbeats 2000000 in
set_option maxRecDepth 10000 in
theorem rcheck_yes (n s t : Nat) (C : Option Addr) (cc : Nat) (A : List Arc) (FA : Option Addr) (fc : Nat) (fl : List Int) (SA : Option Addr) (sc : Nat) (side : List Int) (w : World) (hC : ArcsAt w w.heap.size C A) (hFl : IntsAt w w.heap.size FA fl) (hSd : IntsAt w w.heap.size SA side) (hl2 : side.length ≤ 9223372036854775807) (hV : Valid n A s t) (hl : fl.length = A.length) :
    Calls Try.prog 15 #[.int .i64 n, .slice C A.length cc, .int .i64 s, .int .i64 t, .slice FA fl.length fc, .slice SA side.length sc] w (CheckSaid n A s t fl side w) := by
  obtain ⟨hA, hcap⟩ := valid_facts hV
  have HV := Lib.hid hV
  obtain ⟨v1, v2, v3, _, v4, v5, v6, v7, v8⟩ := id hV
  have hcall := Lib.hid (rvalid_any n s t C cc A w hC (by omega))
  have Hv := Lib.hid (validB_true hV)
  have Hl := Lib.hid hl
  have hcap2 : ∀ a ∈ A, a.2.2 ≤ 1125899906842624 := fun a ha => (hcap a ha).2
  have kx := fun (v : Int) (q : Nat) (hf : feas A fl) => excess_any C cc A FA fc fl v (w.drewN q) (hC.keep fun _ _ _ => rfl) (hFl.keep fun _ _ _ => rfl) v3 hcap2 hf
  rw [hl] at kx ⊢
  have KX := Lib.hid kx
  have kc := fun (q : Nat) => rcut_any n C cc A SA sc side (w.drewN q) (hC.keep fun _ _ _ => rfl) (hSd.keep fun _ _ _ => rfl) hl2 v3 hcap
  have KC := Lib.hid kc
  clear kx kc
  have ks := rhas_any SA sc side s w hSd hl2
  have kt := rhas_any SA sc side t w hSd hl2
  obtain ⟨ps, hps⟩ : ∃ p, p = memB side s := ⟨_, rfl⟩
  obtain ⟨pt, hpt⟩ : ∃ p, p = memB side t := ⟨_, rfl⟩
  rw [← hps] at ks
  rw [← hpt] at kt
  have KH := Lib.hid (And.intro ks kt)
  clear ks kt hV hl
  cases ps
  case false =>
    have Hn : Hid (¬ CheckOk n A s t fl side) := fun h => of_decide_eq_false (p := (s : Int) ∈ side) hps.symm h.2.2.1.2.1
    clear hps hpt
    go_enter Try.func15, Try.ntmps15
    go_wp2_with (first | (go_at_call 22; refine hcall.out.mono ?_; rintro e1 w1 ⟨rfl, rfl⟩; rw [Hv.out]) | (go_at_call 27; ((with_reducible refine KH.out.1.mono ?_); rintro e1 w1 ⟨rfl, rfl⟩)) | fail)
    go_ret
    exact .no Hn.out (Below.refl _ _)
  cases pt
  case true =>
    have Hn : Hid (¬ CheckOk n A s t fl side) := fun h => h.2.2.1.2.2 (of_decide_eq_true (p := (t : Int) ∈ side) hpt.symm)
    clear hps hpt
    go_enter Try.func15, Try.ntmps15
    go_wp2_with (first | (go_at_call 22; refine hcall.out.mono ?_; rintro e1 w1 ⟨rfl, rfl⟩; rw [Hv.out]) | (go_at_call 27; (first | ((with_reducible refine KH.out.1.mono ?_); rintro e1 w1 ⟨rfl, rfl⟩) | ((with_reducible refine KH.out.2.mono ?_); rintro e1 w1 ⟨rfl, rfl⟩))) | fail)
    go_ret
    exact .no Hn.out (Below.refl _ _)
  have HST : Hid ((s : Int) ∈ side ∧ (t : Int) ∉ side) := ⟨of_decide_eq_true (p := (s : Int) ∈ side) hps.symm, of_decide_eq_false (p := (t : Int) ∈ side) hpt.symm⟩
  clear hps hpt
  go_enter Try.func15, Try.ntmps15
  go_wp2_with (first | (go_at_call 22; refine hcall.out.mono ?_; rintro e1 w1 ⟨rfl, rfl⟩; rw [Hv.out]) | (go_at_call 27; (first | ((with_reducible refine KH.out.1.mono ?_); rintro e1 w1 ⟨rfl, rfl⟩) | ((with_reducible refine KH.out.2.mono ?_); rintro e1 w1 ⟨rfl, rfl⟩))) | fail)
  go_loopw [13] (fun i wq => ∃ k m : Nat, k ≤ side.length ∧ i = .int .i64 k ∧ Hid (∀ j, j < k → okAt n side j) ∧ wq = w.drewN m) (fun i _ => side.length - (intOf i).toNat)
  case atStart => exact ⟨0, 0, Nat.zero_le _, rfl, fun j hj => absurd hj (Nat.not_lt_zero _), rfl⟩
  case round =>
    obtain ⟨k, m, hk2, rfl, hok, hwq⟩ := hrel
    subst hwq
    by_cases hlt : k < side.length
    · obtain ⟨b, off, x, hao, hb, hx, c0⟩ := ints_at hSd hlt
      subst hao
      have hgx : side.getD k 0 = x := by rw [List.getD_eq_getElem?_getD, hx.out]; rfl
      have no : ¬ okAt n side k → Hid (¬ CheckOk n A s t fl side) := fun h => fun g => h (g.2.2.1.1 k hlt)
      have hk0 : 0 ≤ (k : Int) ∧ (k : Int) < (side.length : Int) := by omega
      by_cases hnd : 0 ≤ x ∧ x < n
      case neg =>
        have Hn := no (fun g => hnd (by rw [← hgx]; exact ⟨g.1, g.2.1⟩))
        have KK := Lib.hid (fun q : Nat => node_no hnd (w.drewN q))
        clear no hgx hnd hok
        go_wp2_with fail
        go_quiet ((go_at_call 28; exact quiet_add_left (KK.out _)))
        go_wp2_with fail
        go_ret
        exact .no Hn.out (below_drewN (below_drewN (Below.refl _ _) _) _)
      have KK := Lib.hid (fun q : Nat => node_yes hnd.1 hnd.2 (w.drewN q))
      by_cases hk1 : k = 0
      · subst hk1
        rw [Nat.add_zero] at c0
        have HOK : Hid (∀ j, j < 1 → okAt n side j) := fun j hj => by
          obtain rfl : j = 0 := by omega
          exact ⟨by omega, by omega, fun h => absurd h (by omega)⟩
        clear no hgx hok
        go_wp2_with fail
        go_quiet ((go_at_call 28; exact quiet_add_left (KK.out _)))
        go_wp2_with fail
        go_roundw
        case rel => exact ⟨1, _, by omega, rfl, HOK, rfl⟩
        case measure => simp [intOf]; omega
      · obtain ⟨b', off', p, hao', hb', hp, c1'⟩ := ints_at hSd (k := k - 1) (by omega)
        obtain ⟨rfl, rfl⟩ : b = b' ∧ off = off' := by injection hao' with h; injection h with h1 h2; exact ⟨h1, h2⟩
        have hgp : side.getD (k - 1) 0 = p := by rw [List.getD_eq_getElem?_getD, hp.out]; rfl
        have e3 : decide (0 < (k : Int)) = true := by simp; omega
        have e4 : ((k : Int) - 1).toNat = k - 1 := by omega
        have e5 : 0 ≤ (k : Int) - 1 := by omega
        have e6 : (k : Int) - 1 < (side.length : Int) := by omega
        have e7 : 0 < (k : Int) := by omega
        have e9 : 0 < k := by omega
        have e10 : decide (0 < k) = true := by simp; omega
        have e8 : IntKind.i64.wrap ((k : Int) - 1) = (k : Int) - 1 := IntWalk.i64_in _ (by omega)
        by_cases hpx : p < x
        case neg =>
          have Hn := no (fun g => hpx (by have := g.2.2 (by omega); omega))
          have e2 : decide (x ≤ p) = true := by simp; omega
          clear no hgx hgp hok
          go_wp2_with fail
          go_quiet ((go_at_call 28; exact quiet_add_left (KK.out _)))
          go_wp2_with fail
          go_ret
          exact .no Hn.out (below_drewN (below_drewN (Below.refl _ _) _) _)
        have HOK : Hid (∀ j, j < k + 1 → okAt n side j) := fun j hj => by
          by_cases g : j < k
          · exact hok.out j g
          · obtain rfl : j = k := by omega
            exact ⟨by omega, by omega, fun h => by omega⟩
        have e2 : decide (x ≤ p) = false := by simp; omega
        clear no hgx hgp hok
        go_wp2_with fail
        go_quiet ((go_at_call 28; exact quiet_add_left (KK.out _)))
        go_wp2_with fail
        clear e4 e8
        go_roundw
        case rel => exact ⟨k + 1, _, by omega, by go_num, HOK, rfl⟩
        case measure => simp [intOf]; omega
    · obtain rfl : side.length = k := by omega
      have HASC : Hid (asc n side) := fun j hj => hok.out j hj
      clear hok
      go_wp2_with fail
      go_loopw [14] (fun i wq => ∃ k m : Nat, k ≤ A.length ∧ i = .int .i64 k ∧ Hid (feas (A.take k) (fl.take k)) ∧ wq = w.drewN m) (fun i _ => A.length - (intOf i).toNat)
      case atStart => exact ⟨0, m, Nat.zero_le _, rfl, by show feas (A.take 0) (fl.take 0); simp [feas], rfl⟩
      case round =>
        obtain ⟨k, m, hk2, rfl, hfe, hwq⟩ := hrel
        subst hwq
        by_cases hlt : k < A.length
        · obtain ⟨b, off, x, y, z, rfl, hb, ha, c0, c1, c2⟩ := hC.at_ hlt
          obtain ⟨b2, off2, f, rfl, hb2, hf, d0⟩ := ints_at hFl (k := k) (by have := Hl.out; omega)
          have hz := hcap _ (List.mem_of_getElem? ha.out)
          have hz : 0 ≤ z ∧ z ≤ 1125899906842624 := hz
          have hk0 : 0 ≤ (k : Int) ∧ (k : Int) < (A.length : Int) := by omega
          have no : ¬ (0 ≤ f ∧ f ≤ z) → Hid (¬ CheckOk n A s t fl side) := fun g => fun h => g (feas_at h.2.2.2.1 ha.out hf.out)
          by_cases h1 : 0 ≤ f
          case neg =>
            have Hn := no (fun g => h1 g.1)
            have h1' : decide (f < 0) = true := by simp; omega
            clear no hfe
            go_wp2_with fail
            go_quiet (fail)
            go_wp2_with fail
            go_ret
            exact .no Hn.out (below_drewN (below_drewN (Below.refl _ _) _) _)
          have h1' : decide (f < 0) = false := by simp; omega
          by_cases h2 : f ≤ z
          case neg =>
            have Hn := no (fun g => h2 g.2)
            have h2' : decide (z < f) = true := by simp; omega
            clear no hfe
            go_wp2_with fail
            go_quiet (fail)
            go_wp2_with fail
            go_ret
            exact .no Hn.out (below_drewN (below_drewN (Below.refl _ _) _) _)
          have h2' : decide (z < f) = false := by simp; omega
          have HF := Lib.hid (feas_snoc ha.out hf.out Hl.out hfe.out h1 h2)
          clear no hfe
          go_wp2_with fail
          go_quiet (fail)
          go_wp2_with fail
          go_roundw
          case rel => exact ⟨k + 1, _, by omega, by go_num, HF, rfl⟩
          case measure => simp [intOf]; omega
        · obtain rfl : A.length = k := by omega
          have HFE : Hid (feas A fl) := by
            have h := hfe.out
            rw [List.take_length, List.take_of_length_le (by have := Hl.out; omega)] at h
            exact h
          clear hfe
          go_wp2_with fail
          go_loop [15] (fun i => ∃ k : Nat, k ≤ n ∧ i = .int .i64 k ∧ Hid (∀ v : Nat, v < k → (v : Int) ≠ s → (v : Int) ≠ t → exc A fl v = 0)) (fun i => n - (intOf i).toNat)
          case atStart => exact ⟨0, Nat.zero_le _, rfl, fun j hj => absurd hj (Nat.not_lt_zero _)⟩
          case round =>
            obtain ⟨k, hk, rfl, hkp⟩ := hrel
            by_cases hlt : k < n
            · have hnext : (((k : Int) ≠ s → (k : Int) ≠ t → exc A fl k = 0)) → Hid (∀ v : Nat, v < k + 1 → (v : Int) ≠ s → (v : Int) ≠ t → exc A fl v = 0) := fun h => fun v hv => by
                by_cases g : v < k
                · exact hkp.out v g
                · obtain rfl : v = k := by omega
                  exact h
              by_cases hs : k = s
              · have HN := hnext (fun g => absurd (by omega) g)
                have b1 : ((k : Int) != (s : Int)) = false := by simp; omega
                clear hnext hkp hs
                go_wp2_with fail
                go_round
                case rel => exact ⟨k + 1, by omega, by go_num, HN⟩
                case measure => simp [intOf]; omega
              have b1 : ((k : Int) != (s : Int)) = true := by simp; omega
              by_cases ht : k = t
              · have HN := hnext (fun _ g => absurd (by omega) g)
                have b2 : ((k : Int) != (t : Int)) = false := by simp; omega
                clear hnext hkp ht
                go_wp2_with fail
                go_round
                case rel => exact ⟨k + 1, by omega, by go_num, HN⟩
                case measure => simp [intOf]; omega
              have b2 : ((k : Int) != (t : Int)) = true := by simp; omega
              have kx := KX.out k m HFE.out
              obtain ⟨e, he⟩ : ∃ e, e = exc A fl k := ⟨_, rfl⟩
              rw [← he] at kx
              have KX1 := Lib.hid kx
              by_cases h0 : e = 0
              · subst h0
                have HN := hnext (fun _ _ => he.symm)
                clear hnext hkp kx he
                go_wp2_with (go_at_call 29; ((with_reducible refine KX1.out.mono ?_); rintro e1 w1 ⟨rfl, rfl⟩))
                go_round
                case rel => exact ⟨k + 1, by omega, by go_num, HN⟩
                case measure => simp [intOf]; omega
              · have b3 : (e != 0) = true := by simp; exact h0
                have Hn : Hid (¬ CheckOk n A s t fl side) := fun h => h0 (he.trans (h.2.2.2.2.1 k (by omega) (by omega) (by omega)))
                clear hnext hkp kx he
                go_wp2_with (go_at_call 29; ((with_reducible refine KX1.out.mono ?_); rintro e1 w1 ⟨rfl, rfl⟩))
                go_ret
                exact .no Hn.out (below_drewN (Below.refl _ _) _)
            · obtain rfl : n = k := by omega
              have kx := KX.out s m HFE.out
              have kc := KC.out m
              obtain ⟨e, he⟩ : ∃ e, e = exc A fl s := ⟨_, rfl⟩
              obtain ⟨c, hc⟩ : ∃ c, c = cut A (memB side) := ⟨_, rfl⟩
              rw [← he] at kx
              rw [← hc] at kc
              have KX1 := Lib.hid (And.intro kx kc)
              have HOK : Hid (CheckOk n A s t fl side ↔ e = c) := by
                refine ⟨fun h => by rw [he, hc]; exact h.2.2.2.2.2, fun h => ⟨HV.out, Hl.out, ⟨HASC.out, HST.out⟩, HFE.out, fun v hv => hkp.out v (by omega), by rw [← he, ← hc]; exact h⟩⟩
              clear hkp kx kc he hc
              by_cases h0 : e = c
              · subst h0
                have b0 : (e == e) = true := by simp
                go_wp2_with (first | (go_at_call 29; ((with_reducible refine KX1.out.1.mono ?_); rintro e1 w1 ⟨rfl, rfl⟩)) | (go_at_call 25; ((with_reducible refine KX1.out.2.mono ?_); rintro e1 w1 ⟨rfl, rfl⟩)) | fail)
                go_ret
                exact ⟨ret_bool (checkB_true (HOK.out.2 (by first | rfl | trivial))).symm, below_drewN (Below.refl _ _) _⟩
              · have b0 : (e == c) = false := by simp; exact h0
                go_wp2_with (first | (go_at_call 29; ((with_reducible refine KX1.out.1.mono ?_); rintro e1 w1 ⟨rfl, rfl⟩)) | (go_at_call 25; ((with_reducible refine KX1.out.2.mono ?_); rintro e1 w1 ⟨rfl, rfl⟩)) | fail)
                go_ret
                exact .no (fun h => h0 (HOK.out.1 h)) (below_drewN (Below.refl _ _) _)
theorem rcheck_any (n s t : Int) (C : Option Addr) (cc : Nat) (A : List Arc) (FA : Option Addr) (fc : Nat) (fl : List Int) (SA : Option Addr) (sc : Nat) (side : List Int) (w : World) (hC : ArcsAt w w.heap.size C A) (hFl : IntsAt w w.heap.size FA fl) (hSd : IntsAt w w.heap.size SA side)
    (hA : A.length ≤ 9223372036854775807) (hl1 : fl.length ≤ 9223372036854775807) (hl2 : side.length ≤ 9223372036854775807) :
    Calls Try.prog 15 #[.int .i64 n, .slice C A.length cc, .int .i64 s, .int .i64 t, .slice FA fl.length fc, .slice SA side.length sc] w (CheckSaid n A s t fl side w) := by
  by_cases hV : Valid n A s t
  · by_cases hl : fl.length = A.length
    · obtain ⟨n, rfl⟩ := Int.eq_ofNat_of_zero_le (show 0 ≤ n by have := hV.1; omega)
      obtain ⟨s, rfl⟩ := Int.eq_ofNat_of_zero_le hV.2.2.2.2.1
      obtain ⟨t, rfl⟩ := Int.eq_ofNat_of_zero_le hV.2.2.2.2.2.2.1
      exact rcheck_yes n s t C cc A FA fc fl SA sc side w hC hFl hSd hl2 hV hl
    · exact rcheck_len n s t C cc A FA fc fl SA sc side w hC hA hl1 hV hl
  · exact rcheck_inv n s t C cc A FA fc fl SA sc side w hC hA hV
end Go.Proofs.Ytanhhdfffggdmaa
