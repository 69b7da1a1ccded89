/- WalSkips answers true for every input. -/
import Derived.Test.YtmnimcdbfolhaaaL1
import Derived.Test.YtmnimcdbfolhaaaLP3
set_option linter.unusedSimpArgs false
set_option linter.unusedVariables false
namespace Go.Proofs.Ytmnimcdbfolhaaa
open Go.RowKit DK
attribute [local go_sem] alloc_drewN setCell_drewN shape_drewN
set_option maxRecDepth 100000 in
set_option maxHeartbeats 8000000 in
theorem skips_any (A : Option Addr) (c : Nat) (l : List Bts) (fl : Int) (C : Option Addr) (d : Nat) (keep : List Int) (w : World) (hA : StrsAt w w.heap.size A l) (hl : l.length ≤ 9223372036854775807) (hS : Hid (∀ x ∈ l, x.length ≤ 140737488355328)) (hcap : l.length ≤ c ∧ c ≤ 9223372036854775807)
    (hf : fl ≤ 9223372036854775807) (hC : IntsAt w w.heap.size C keep) (hk : keep.length ≤ 9223372036854775807) :
    Calls Try.prog 5 #[.slice A l.length c, .int .i64 fl, .slice C keep.length d] w (BoolIs true w) := by
  go_enter Try.func5, Try.ntmps5
  go_wp2_with fail
  go_at_call 9
  refine (small_any w).mono ?_
  rintro e w1 ⟨rfl, hb1⟩
  have KB := Lib.hid (bytes_any A c l w1 (hA.on hb1) hl hS)
  by_cases g : l.length ≤ 20 ∧ bytesP l ≤ 1500 ∧ keep.length ≤ 30 ∧ 0 ≤ fl ∧ fl ≤ l.length
  case neg =>
    obtain ⟨B, hB⟩ : ∃ B, bytesP l = B := ⟨_, rfl⟩
    rw [hB] at KB g
    clear hB hS
    rcases Nat.lt_or_ge 20 l.length with q | q
    · have q1 : decide ((20 : Int) < (l.length : Int)) = true := decide_eq_true (by omega)
      go_wp2_with fail
      go_ret
      exact ⟨rfl, hb1⟩
    have q1 : decide ((20 : Int) < (l.length : Int)) = false := decide_eq_false (by omega)
    have q2 : ¬ 20 < l.length := by omega
    go_wp2_with fail
    go_at_call 10
    refine KB.out.mono ?_
    rintro e _ ⟨rfl, rfl⟩
    rcases Nat.lt_or_ge 1500 B with r | r
    · have q3 : decide ((1500 : Int) < (B : Int)) = true := decide_eq_true (by omega)
      go_wp2_with fail
      go_ret
      exact ⟨rfl, hb1⟩
    have q3 : decide ((1500 : Int) < (B : Int)) = false := decide_eq_false (by omega)
    have q4 : ¬ 1500 < B := by omega
    rcases Nat.lt_or_ge 30 keep.length with r5 | r5
    · have q5 : decide ((30 : Int) < (keep.length : Int)) = true := decide_eq_true (by omega)
      go_wp2_with fail
      go_ret
      exact ⟨rfl, hb1⟩
    have q5 : decide ((30 : Int) < (keep.length : Int)) = false := decide_eq_false (by omega)
    have q6 : ¬ 30 < keep.length := by omega
    rcases Int.lt_or_le fl 0 with r6 | r6
    · have q7 : decide (fl < 0) = true := decide_eq_true r6
      go_wp2_with fail
      go_ret
      exact ⟨rfl, hb1⟩
    have q7 : decide (fl < 0) = false := decide_eq_false (by omega)
    have q8 : decide ((l.length : Int) < fl) = true := decide_eq_true (by omega)
    go_wp2_with fail
    go_ret
    exact ⟨rfl, hb1⟩
  obtain ⟨g1, g2, g3, g4, g5⟩ := g
  obtain ⟨h1, h2, h3⟩ := bytesP_le g2 (by omega)
  obtain ⟨F, rfl⟩ : ∃ n : Nat, fl = (n : Int) := ⟨fl.toNat, by omega⟩
  have q1 : decide ((20 : Int) < (l.length : Int)) = false := decide_eq_false (by omega)
  have q2 : ¬ 20 < l.length := by omega
  have q3 : decide ((1500 : Int) < (bytesP l : Int)) = false := decide_eq_false (by omega)
  have q4 : ¬ 1500 < bytesP l := by omega
  have q5 : decide ((30 : Int) < (keep.length : Int)) = false := decide_eq_false (by omega)
  have q6 : ¬ 30 < keep.length := by omega
  have q7 : decide ((F : Int) < 0) = false := decide_eq_false (by omega)
  have q8 : decide ((l.length : Int) < (F : Int)) = false := decide_eq_false (by omega)
  have q9 : ¬ l.length < F := by omega
  have hrl := recs_len l
  have hl1 : ∀ x ∈ l, x.length ≤ 1048576 := fun x hx => by have := h2 x hx; omega
  go_wp2_with fail
  go_at_call 10
  refine KB.out.mono ?_
  rintro e _ ⟨rfl, rfl⟩
  go_wp2_with fail
  go_at_call 15
  refine (HasP.new (fun k => k < w.heap.size) w1 hb1 (fun k h => Nat.lt_of_lt_of_le h hb1.size)).mono ?_
  rintro e w2 ⟨b, rfl, H2, -, -⟩
  have KO := Lib.hid (open_yes H2 2 (by omega) (open_up Up.zero (f := 2) (by omega)) (R := []) (rowsOf_eq (rows_recs (l := []) (fun _ h => by cases h))))
  unfold dp at KO ⊢
  go_wp2_with fail
  go_at_call 17
  refine KO.out.mono ?_
  rintro e w3 ⟨lb, rfl, H3, k3, -⟩
  have I0 := SkI.start l F keep
  generalize opnS St.zero 2 = s0 at H3 I0
  replace H3 := Lib.hid H3
  replace I0 := Lib.hid I0
  replace hS := Lib.hid hl1
  clear KO KB q1 q2 q3 q4 q5 q6 q7 q8 q9 g2 k3 H2
  unfold lp
  go_wp2_with fail
  go_loopw [11, 12, 13] (fun u11 u12 u13 wr => ∃ (k want : Nat) (whole : Bool) (s : St), k ≤ l.length ∧ u13 = .int .i64 k ∧ u12 = .bool whole ∧ u11 = .int .i64 want ∧ Hid (SkI l F k keep s want whole) ∧ Hid (Wal w b lb (2 : Nat) (fun k => k < w.heap.size) k wr s (l.take k))) (fun _ _ u13 _ => l.length - (intOf u13).toNat)
  case atStart => exact ⟨0, 0, true, s0, Nat.zero_le _, rfl, rfl, rfl, I0, H3⟩
  case round =>
    obtain ⟨k, want, whole, s, hkl, rfl, rfl, rfl, hI, hW⟩ := hrel
    by_cases hlt : k < l.length
    · have e1 : (k : Int) < (l.length : Int) := by omega
      obtain ⟨x, hx⟩ : ∃ x, l[k]? = some x := ⟨_, List.getElem?_eq_getElem hlt⟩
      have hbw := hW.out.below
      obtain ⟨ab, ao, rfl, hab, hac⟩ := (hA.on hbw).at_ hx
      have hxl := hS.out x (List.mem_of_getElem? hx)
      have hle := recs_take_le l (k + 1)
      have hrt := recs_take hx
      have hdl : (s.data 2).length = (recs (l.take k)).length := by rw [hI.out.data]
      rw [hrt, List.length_append, recd_len] at hle
      have hsx : (s.data 2).length + (x.length + 7) ≤ 16777216 := by omega
      obtain ⟨L, hL⟩ : ∃ L, (s.data 2).length = L := ⟨_, rfl⟩
      have KZ := Lib.hid (hW.out.has.size (2 : Nat) (v := (L : Int)) (by rw [size_num (by omega), hL]))
      have KA := Lib.hid (wapp_any hW.out x (by omega) (by rw [List.length_take]; omega) (by omega) (wapp_g hI.out.g (f := 2) (by omega) (l.take k) x hxl hsx))
      rw [← take_snoc hx] at KA
      unfold dp at KZ
      unfold lp at KA
      go_wp2_with fail
      go_at_call 21
      refine KZ.out.mono ?_
      rintro e _ ⟨rfl, rfl⟩
      go_wp2_with fail
      go_at_call 19
      refine KA.out.mono ?_
      rintro e w5 ⟨rfl, hW5, k5⟩
      clear KA KZ
      have hL2 : ((appS s 2 x).data 2).length = L + (x.length + 7) := by
        show (upd s.data 2 (s.data 2 ++ recd x) 2).length = _
        rw [upd_same, List.length_append, hL, recd_len]
      rcases Nat.lt_trichotomy (k + 1) F with hF | hF | hF
      · -- ahead of the flush
        have hI2 := Lib.hid (hI.out.low hx hxl hsx hF)
        have hwk : whole = true := by rcases hI.out.cas with q | q; exact q.2.2.1; omega
        subst hwk
        obtain ⟨D, hD⟩ : ∃ D : Int, (k : Int) - (F : Int) = D := ⟨_, rfl⟩
        have hD0 : D < 0 := by omega
        have hD1 : decide (D < 0) = true := decide_eq_true hD0
        have e2 : ¬ (k : Int) = (F : Int) - 1 := by omega
        have e3 : ((k : Int) == (F : Int) - 1) = false := by rw [beq_eq_false_iff_ne]; exact e2
        replace hW5 := Lib.hid hW5
        replace hI := Lib.hid hI
        clear hx hrt hle hac
        go_wp2_with fail
        go_quiet (fail)
        go_wp2_with fail
        go_roundw
        case rel => exact ⟨k + 1, k + 1, true, _, by omega, by go_num, rfl, by go_num, hI2, hW5.out.below_ (below_drewN (Below.refl _ _) _)⟩
        case measure => simp [intOf]; omega
      · -- the flush
        have hI2 := Lib.hid (hI.out.flush hx hxl hsx hF)
        have hwk : whole = true := by rcases hI.out.cas with q | q; exact q.2.2.1; omega
        subst hwk
        have hU := (hI.out.g.app (by omega) x hsx).up
        have KF := Lib.hid (wflush_any hW5 (by omega) (flush_up hU (f := 2) (by omega)))
        unfold lp at KF
        obtain ⟨D, hD⟩ : ∃ D : Int, (k : Int) - (F : Int) = D := ⟨_, rfl⟩
        have hD0 : D < 0 := by omega
        have hD1 : decide (D < 0) = true := decide_eq_true hD0
        have e2 : (F : Int) - 1 = (k : Int) := by omega
        have e3 : ((k : Int) == (k : Int)) = true := by simp
        replace hI := Lib.hid hI
        replace hU := Lib.hid hU
        clear hx hrt hle hac hW5
        go_wp2_with (first | (go_at_call 22; refine KF.out.mono ?_; rintro e w6 ⟨rfl, hW6, k6⟩; replace hW5 := Lib.hid hW6; clear hW6) | fail)
        go_quiet (fail)
        go_wp2_with fail
        go_roundw
        case rel => exact ⟨k + 1, k + 1, true, _, by omega, by go_num, rfl, by go_num, hI2, hW5.out.below_ (below_drewN (Below.refl _ _) _)⟩
        case measure => simp [intOf]; omega
      · -- behind the flush
        have hF2 : F ≤ k := by omega
        have hIh := fun w2 => hI.out.high (w2 := w2) hx hxl hsx hF2 hlt
        obtain ⟨j, hj⟩ : ∃ j, k - F = j := ⟨_, rfl⟩
        rw [hj] at hIh
        have hD : (k : Int) - (F : Int) = (j : Int) := by omega
        have hD1 : decide ((j : Int) < 0) = false := decide_eq_false (by omega)
        have e2 : ¬ (k : Int) = (F : Int) - 1 := by omega
        have e3 : ((k : Int) == (F : Int) - 1) = false := by rw [beq_eq_false_iff_ne]; exact e2
        have hC5 := hC.below hW5.below
        obtain ⟨L2, hL3⟩ : ∃ L2, L + (x.length + 7) = L2 := ⟨_, rfl⟩
        obtain ⟨m, hm⟩ : ∃ m, x.length + 7 = m := ⟨_, rfl⟩
        rw [hL3] at hL2
        rw [hm] at hIh hL3 hsx
        have v1 : IntKind.i64.wrap ((L2 : Int) - (L : Int)) = (m : Int) := by rw [IntKind.wrap_i64]; omega
        have v2 : (L2 : Int) - (L : Int) = (m : Int) := by omega
        have v3 : IntKind.i64.wrap (m : Int) = (m : Int) := by rw [IntKind.wrap_i64]; omega
        have KZ2 := Lib.hid fun n => (hW5.has.below_ (below_drewN (Below.refl _ _) n)).size (2 : Nat) (v := (L2 : Int)) (by rw [size_num (by omega), hL2])
        unfold dp at KZ2
        replace hW5 := Lib.hid hW5
        replace hI := Lib.hid hI
        clear hx hrt hle hac hL2 hm hL3
        cases whole
        · have hI2 := Lib.hid (hIh false (by simp))
          clear hIh KZ2 v1 v2 v3 hC5
          go_wp2_with fail
          go_quiet (fail)
          go_wp2_with fail
          go_roundw
          case rel => exact ⟨k + 1, want, false, _, by omega, by go_num, rfl, by go_num, hI2, hW5.out.below_ (below_drewN (Below.refl _ _) _)⟩
          case measure => simp [intOf]; omega
        by_cases hjl : j < keep.length
        · obtain ⟨kv, hkv⟩ : ∃ kv, keep[j]? = some kv := ⟨_, List.getElem?_eq_getElem hjl⟩
          obtain ⟨kb, ko, rfl, hkb, hkc⟩ := hC5.at_ hkv
          have p1 : decide ((j : Int) < (keep.length : Int)) = true := decide_eq_true (by omega)
          have p2 : (j : Int) < (keep.length : Int) := by omega
          have p3 : (0 : Int) ≤ (j : Int) := by omega
          by_cases hfull : (m : Int) ≤ kv
          · have hI2 := Lib.hid (hIh true (by rw [hkv]; simp; exact hfull))
            have p4 : decide ((m : Int) ≤ kv) = true := decide_eq_true hfull
            clear hIh hkv
            go_wp2_with fail
            go_quiet ((go_at_call 21; exact quiet_left (KZ2.out _)))
            go_wp2_with fail
            go_roundw
            case rel => exact ⟨k + 1, k + 1, true, _, by omega, by go_num, rfl, by go_num, hI2, hW5.out.below_ (below_drewN (Below.refl _ _) _)⟩
            case measure => simp [intOf]; omega
          · have hI2 := Lib.hid (hIh false (by rw [hkv]; simp; omega))
            have p4 : decide ((m : Int) ≤ kv) = false := decide_eq_false hfull
            clear hIh hkv
            go_wp2_with fail
            go_quiet ((go_at_call 21; exact quiet_left (KZ2.out _)))
            go_wp2_with fail
            go_roundw
            case rel => exact ⟨k + 1, want, false, _, by omega, by go_num, rfl, by go_num, hI2, hW5.out.below_ (below_drewN (Below.refl _ _) _)⟩
            case measure => simp [intOf]; omega
        · have p1 : decide ((j : Int) < (keep.length : Int)) = false := decide_eq_false (by omega)
          have p2 : ¬ (j : Int) < (keep.length : Int) := by omega
          have hI2 := Lib.hid (hIh false (by rw [List.getElem?_eq_none (by omega)]; simp))
          clear hIh KZ2 v1 v2 v3 hC5
          go_wp2_with fail
          go_quiet (fail)
          go_wp2_with fail
          go_roundw
          case rel => exact ⟨k + 1, want, false, _, by omega, by go_num, rfl, by go_num, hI2, hW5.out.below_ (below_drewN (Below.refl _ _) _)⟩
          case measure => simp [intOf]; omega
    · have e1 : ¬ (k : Int) < (l.length : Int) := by omega
      have hkn : k = l.length := by omega
      rw [hkn] at hI hW
      rw [List.take_length] at hW
      obtain ⟨hwn, hrow⟩ := hI.out.rows (by omega)
      have g2 := hI.out.g.crashed keep
      obtain ⟨s1, hs1⟩ : ∃ s1, crash s keep = s1 := ⟨_, rfl⟩
      rw [hs1] at hrow g2
      obtain ⟨s2, hs2⟩ : ∃ s2, DK.start s1 = s2 := ⟨_, rfl⟩
      have hrow2 : rowsOf (s2.data 2) = l.take want := by rw [← hs2]; exact hrow
      rw [hs2] at g2
      have ho := open_up g2.up (f := 2) (by omega)
      have hd3 := opnS_data s2 2
      rw [hrow2] at hd3
      have hU3 := opnS_up g2.up 2
      obtain ⟨s3, hs3⟩ : ∃ s3, opnS s2 2 = s3 := ⟨_, rfl⟩
      rw [hs3] at ho hd3 hU3
      have hrd := read_up hU3.down (f := 2) (by omega)
      rw [hd3] at hrd
      have KC := Lib.hid (wcrash_any hW.out (A := C) (c := d) (Apart.oldP hW.out.has hC) (by omega) (by omega) hs1)
      have KS := Lib.hid fun wx (h : Wal w b lb (2 : Nat) (fun k => k < w.heap.size) l.length wx s1 l) => wstart_any h hs2
      have KO := Lib.hid fun wx (h : Wal w b lb (2 : Nat) (fun k => k < w.heap.size) l.length wx s2 l) => open_yes h.has 2 (by omega) ho hrow2
      have hsub : ∀ x ∈ l.take want, x.length ≤ 1048576 := fun x hx => hS.out x (List.mem_of_mem_take hx)
      have hSA : ∀ wx, Below w.heap.size w wx → StrsAt wx wx.heap.size A (l.take want) := fun wx hb hp => by
        have hpl : 0 < l.length := by rw [List.length_take] at hp; omega
        obtain ⟨b1, o1, e1, hb1, hc1⟩ := (hA.on hb) hpl
        refine ⟨b1, o1, e1, hb1, fun j hj => ?_⟩
        rw [List.length_take] at hj
        rw [hc1 j (by omega)]
        simp [strF, List.getD_eq_getElem?_getD, List.getElem?_take, show j < want by omega]
      have htl : (l.take want).length = want := by rw [List.length_take]; omega
      have KF := Lib.hid fun wx (h : Below w.heap.size w wx) => file_any A c (l.take want) wx (hSA wx h) (by omega) hsub (by have := recs_take_le l want; omega)
      unfold FileIs at KF
      rw [htl] at KF
      have KD := Lib.hid fun (lb : Nat) wx (h : Wal w b lb (2 : Nat) (fun k => k < w.heap.size) l.length wx s3 (l.take want)) => h.has.read (2 : Nat) hrd
      have KL := Lib.hid fun (lb : Nat) wx (h : Wal w b lb (2 : Nat) (fun k => k < w.heap.size) l.length wx s3 (l.take want)) => all_any h (by omega)
      have KE := Lib.hid fun wx (h : Below w.heap.size w wx) B e (hB : StrsAt wx wx.heap.size B (l.take want)) => same_any B e (l.take want) A c (l.take want) wx hB (hSA wx h) (by omega) (by omega)
      rw [show same (l.take want) (l.take want) = true from decide_eq_true rfl, htl] at KE
      unfold StrsNew at KL
      rw [htl] at KL
      have zz := bs_size (recs (l.take want))
      have hwc : want ≤ c := by omega
      have hwc2 : (want : Int) ≤ (c : Int) := by omega
      unfold dp at KC KS KO KD
      unfold lp at KO KL
      clear hI hs1 hs2 hs3 hrow hrow2 ho hd3 hrd hkn
      go_wp2_with fail
      go_at_call 23
      refine KC.out.mono ?_
      rintro e w5 ⟨rfl, h5, k5⟩
      go_wp2_with fail
      go_at_call 24
      refine (KS.out _ h5).mono ?_
      rintro e w6 ⟨rfl, h6, k6⟩
      go_wp2_with fail
      go_at_call 17
      refine (KO.out _ h6).mono ?_
      rintro e w7 ⟨lb2, rfl, h7, k7, -⟩
      have hb7 := h7.below
      go_wp2_with fail
      go_at_call 11
      refine (KF.out _ hb7).mono ?_
      rintro e w8 ⟨rfl, hb8⟩
      have h8 := h7.below_ hb8
      have hb9 := h8.below
      have t1 := bs_toList (recs (l.take want))
      go_wp2_with fail
      go_at_call 20
      refine (KD.out _ _ h8).mono ?_
      rintro e _ ⟨rfl, rfl⟩
      go_upto_region 31 with fail
      refine Plan.wp_region_tree (.rd 0 (.rd 1 (.rd 2 (.rd 4 (.rd 5 (.rd 6 (.wr 3 (.wr 7 (.rd 8 (.rd 9 (.rd 10 (.rd 11 (.rd 12 (.rd 13 (.rd 14 (.rd 15 (.rd 16 (.rd 17 (.rd 18 .done))))))))))))))))))) (by kernel_rfl) (by kernel_rfl) ?_
      (repeat (first | (refine Plan.tree_read (v := ?_) rfl rfl ?_ ?_; rotate_left; (focus ((intro wS hSw; have hkS := (bcell hSw).1; go_simp); try with_reducible rfl)); simp only [Act.put, List.setIfInBounds_toArray, List.set_cons_zero, List.set_cons_succ]) | (refine Plan.tree_skip rfl rfl ?_; simp only [Act.put, List.setIfInBounds_toArray, List.set_cons_zero, List.set_cons_succ])))
      (refine Plan.tree_write rfl (fun K hK => ?_); try go_simp)
      go_at_call 25
      refine (KL.out _ _ (h8.below_ (Below.refl _ _).drew)).mono ?_
      rintro e w9 ⟨hb10, o9, c9, rfl, hO9⟩
      have hb11 := Plan.below_drew_go hb10
      (refine hK.out _ _ (hb11) ?_; clear hK K; try simp only [Act.put, List.setIfInBounds_toArray, List.set_cons_zero, List.set_cons_succ])
      (repeat (first | (refine Plan.tree_read (v := ?_) rfl rfl ?_ ?_; rotate_left; (focus ((intro wS hSw; have hkS := (bcell hSw).1; go_simp); try with_reducible rfl)); simp only [Act.put, List.setIfInBounds_toArray, List.set_cons_zero, List.set_cons_succ]) | (refine Plan.tree_skip rfl rfl ?_; simp only [Act.put, List.setIfInBounds_toArray, List.set_cons_zero, List.set_cons_succ])))
      (refine Plan.tree_write rfl (fun K hK => ?_); try go_simp)
      go_at_call 14
      refine (KE.out _ (trans2 hb9 hb11) _ _ (strs_of_owns (l := l.take want) (by rw [htl]; exact hO9)).at_).mono ?_
      rintro e w10 ⟨rfl, hb12⟩
      have hb13 := trans2 hb11 hb12
      (refine hK.out _ _ (hb13) ?_; clear hK K; try simp only [Act.put, List.setIfInBounds_toArray, List.set_cons_zero, List.set_cons_succ])
      (repeat (first | (refine Plan.tree_read (v := ?_) rfl rfl ?_ ?_; rotate_left; (focus ((intro wS hSw; have hkS := (bcell hSw).1; go_simp); try with_reducible rfl)); simp only [Act.put, List.setIfInBounds_toArray, List.set_cons_zero, List.set_cons_succ]) | (refine Plan.tree_skip rfl rfl ?_; simp only [Act.put, List.setIfInBounds_toArray, List.set_cons_zero, List.set_cons_succ])))
      refine Plan.tree_done ?_
      go_wp2_with fail
      go_ret
      exact ⟨rfl, trans2 hb9 hb13⟩
end Go.Proofs.Ytmnimcdbfolhaaa
