/- The stable sort's walks: symMergeCmpFunc. (Printed by gen_sw2.py.) -/
import Derived.Test.YtminphldifncaaaDoorSW1
set_option linter.unusedSimpArgs false
set_option linter.unusedVariables false
namespace Go.Proofs.YtminphldifncaaaDoor
open Go.Shelf Go.RowKit Go.Lib Go.Sort
variable {α : Type} [Inhabited α]

set_option maxHeartbeats 8000000 in
set_option maxRecDepth 1000000 in
theorem st_sym_left {P : Program} {k : Nat} (L : StL P k) (enc : α → List Value) (cf : α → α → Int) (g : Nat) (cb : Array Value) (blk off cap : Nat) (d0 : Array α) (w0 : World)
    (eg : ∀ args w, (callFunc g args).run P w = .ok (.enter g args) w) (hcmp : CmpLays P g cb enc k cf blk off d0.size w0) (R : RowK enc k w0 blk off d0) (hsz : d0.size < 4611686018427387904)
    (a m b : Nat) (d : Array α) (w : World) (hm1 : a < m) (hm2 : m ≤ a + 1) (hmb : m < b) (hb : b ≤ d0.size) (hds : d.size = d0.size) (S : SWK enc k w0 blk off d w) :
    Calls P 70 #[.slice (some ⟨blk, off, none⟩) d0.size cap, .int .i64 a, .int .i64 m, .int .i64 b, .func (.func g) #[] cb] w fun e w' =>
      e = .returned (.tuple #[]) ∧ Aside (SWK enc k w0 blk off (ST.symM (ltOf cf) a m b d) w') := by
  have mixed := L.mixed; have t0 := L.t0; have a0 := L.a0; have z0 := L.z0; have v0 := L.v0; have t3 := L.t3; have a3 := L.a3; have z3 := L.z3; have v3 := L.v3; have t4 := L.t4; have a4 := L.a4; have z4 := L.z4; have v4 := L.v4; have tS := L.tS; have aS := L.aS; have zS := L.zS; have aE := L.aE; have zE := L.zE
  have tU := L.tU; have aU := L.aU; have zU := L.zU; have vU := L.vU
  have cRo := L.cRo
  have cSy := L.cSy
  have S0 : Aside _ := S
  have HC : Aside _ := hcmp
  clear S hcmp
  have q1 : ((m : Int) - (a : Int) == 1) = true := by simp; omega
  have HR : Hid (ST.symM (ltOf cf) a m b d = ST.upR d a (ST.bs (fun h => ltOf cf d[h]! d[a]!) m b - 1 - a)) := ST.symM_left (ltOf cf) a m b d (by omega) hmb (by omega)
  go_enter L.fSy, Tryd.ntmps70
  go_wp2
  go_loopg [10, 11] (b - a) (fun gq s10 s11 wr => ∃ (i j : Nat), s10 = .int .i64 i ∧ s11 = .int .i64 j ∧ a < i ∧ i ≤ j ∧ j ≤ b ∧ j - i ≤ gq ∧ Aside (SWK enc k w0 blk off d wr) ∧ Hid (ST.bs (fun h => ltOf cf d[h]! d[a]!) i j = ST.bs (fun h => ltOf cf d[h]! d[a]!) m b))
  case atStart => exact ⟨m, b, rfl, rfl, by omega, by omega, by omega, by omega, S0, rfl⟩
  case round =>
    clear S0
    obtain ⟨i, j, rfl, rfl, hi, hij, hj, hg, S1, HE⟩ := hrel
    by_cases hlt : i < j
    · have hltz : (i : Int) < (j : Int) := by omega
      cases hG : ltOf cf d[(i + j) / 2]! d[a]! with
      | true =>
        have e1 : (((i : Int) + (j : Int)) / 2).toNat = (i + j) / 2 := by omega
        have p1 : (0 : Int) ≤ ((i : Int) + (j : Int)) / 2 := by omega
        have b1 : ((i : Int) + (j : Int)) / 2 < (d0.size : Int) := by omega
        have r1 : IntKind.i64.wrap (((i : Int) + (j : Int)) / 2) = ((i : Int) + (j : Int)) / 2 := by rw [IntKind.wrap_i64]; omega
        have ba : (a : Int) < (d0.size : Int) := by omega
        go_wp2_with fail
        obtain ⟨xq, hxq⟩ : ∃ x, x = d[(i + j) / 2]! := ⟨_, rfl⟩
        obtain ⟨yq, hyq⟩ : ∃ x, x = d[a]! := ⟨_, rfl⟩
        have la := S1.out.ld R (by omega) P ((i + j) / 2) (by omega)
        have lb := S1.out.ld R (by omega) P (a) (by omega)
        rw [← hxq] at la
        rw [← hyq] at lb
        have hc := S1.out.cmp HC.out (by omega) xq yq
        have hv : cf xq yq < 0 := by rw [hxq, hyq]; exact of_decide_eq_true hG
        have hd : decide (cf xq yq < 0) = true := decide_eq_true hv
        clear hxq hyq
        go_wp2_with fail
        go_quiet_grown (first | (go_at_fn g; refine Calls.grown_of (hc _ _)))
        have S2 : Aside (SWK enc k w0 blk off d (grow (wr.drewN nq) osq)) := S1.out.grown nq osq
        clear la lb hc S1
        generalize grow (wr.drewN nq) osq = w2 at S2 ⊢
        clear nq osq
        go_wp2
        go_roundg (gk - 1)
        case measure => omega
        case rel => exact ⟨(i + j) / 2 + 1, j, by congr 1 <;> omega, rfl, by omega, by omega, by omega, by omega, S2, (show Hid _ from (ST.bs_yes _ i j hlt hG).symm.trans HE.out)⟩
      | false =>
        have e1 : (((i : Int) + (j : Int)) / 2).toNat = (i + j) / 2 := by omega
        have p1 : (0 : Int) ≤ ((i : Int) + (j : Int)) / 2 := by omega
        have b1 : ((i : Int) + (j : Int)) / 2 < (d0.size : Int) := by omega
        have r1 : IntKind.i64.wrap (((i : Int) + (j : Int)) / 2) = ((i : Int) + (j : Int)) / 2 := by rw [IntKind.wrap_i64]; omega
        have ba : (a : Int) < (d0.size : Int) := by omega
        go_wp2_with fail
        obtain ⟨xq, hxq⟩ : ∃ x, x = d[(i + j) / 2]! := ⟨_, rfl⟩
        obtain ⟨yq, hyq⟩ : ∃ x, x = d[a]! := ⟨_, rfl⟩
        have la := S1.out.ld R (by omega) P ((i + j) / 2) (by omega)
        have lb := S1.out.ld R (by omega) P (a) (by omega)
        rw [← hxq] at la
        rw [← hyq] at lb
        have hc := S1.out.cmp HC.out (by omega) xq yq
        have hv : ¬ cf xq yq < 0 := by rw [hxq, hyq]; exact of_decide_eq_false hG
        have hd : decide (cf xq yq < 0) = false := decide_eq_false hv
        clear hxq hyq
        go_wp2_with fail
        go_quiet_grown (first | (go_at_fn g; refine Calls.grown_of (hc _ _)))
        have S2 : Aside (SWK enc k w0 blk off d (grow (wr.drewN nq) osq)) := S1.out.grown nq osq
        clear la lb hc S1
        generalize grow (wr.drewN nq) osq = w2 at S2 ⊢
        clear nq osq
        go_wp2
        go_roundg (gk - 1)
        case measure => omega
        case rel => exact ⟨i, (i + j) / 2, rfl, by congr 1 <;> omega, by omega, by omega, by omega, by omega, S2, (show Hid _ from (ST.bs_no _ i j hlt hG).symm.trans HE.out)⟩
    · have hltz : ¬ (i : Int) < (j : Int) := by omega
      have : j = i := by omega
      subst this
      have HR2 : Hid (ST.symM (ltOf cf) a m b d = ST.upR d a (j - 1 - a)) := by show _ = _; rw [HR.out, ← HE.out, ST.bs_stop _ _ _ hlt]
      clear HR HE
      go_wp2
      go_loopg [13] (j - 1 - a) (fun gq s13 wr2 => ∃ c : Nat, s13 = .int .i64 (a + c : Nat) ∧ gq + c = j - 1 - a ∧ Aside (SWK enc k w0 blk off (ST.upR d a c) wr2))
      case atStart => exact ⟨0, by simp, by omega, S1⟩
      case round =>
        clear S1
        obtain ⟨c, rfl, hc, S1⟩ := hrel
        have hdz : (ST.upR d a c).size = d.size := ST.size_upR d a c
        by_cases hlc : c < j - 1 - a
        · have hlz : ((a + c : Nat) : Int) < (j : Int) - 1 := by omega
          have hlz' : (a : Int) + (c : Int) < (j : Int) - 1 := by omega
          have e1 : ((a : Int) + (c : Int)).toNat = a + c := by omega
          have p1 : (0 : Int) ≤ (a : Int) + (c : Int) := by omega
          have b1 : (a : Int) + (c : Int) < (d0.size : Int) := by omega
          have r1 : IntKind.i64.wrap ((a : Int) + (c : Int)) = (a : Int) + (c : Int) := by rw [IntKind.wrap_i64]; omega
          have e2 : ((a : Int) + (c : Int) + 1).toNat = a + c + 1 := by omega
          have p2 : (0 : Int) ≤ (a : Int) + (c : Int) + 1 := by omega
          have b2 : (a : Int) + (c : Int) + 1 < (d0.size : Int) := by omega
          have r2 : IntKind.i64.wrap ((a : Int) + (c : Int) + 1) = (a : Int) + (c : Int) + 1 := by rw [IntKind.wrap_i64]; omega
          go_wp2_with fail
          have S2 : Aside (SWK enc k w0 blk off (ST.upR d a (c + 1)) ((wr.drew.setCells blk (off + (a + c) * k) (enc (ST.upR d a c)[a + c + 1]!)).setCells blk (off + (a + c + 1) * k) (enc (ST.upR d a c)[a + c]!))) := S1.out.swapped R (a + c) (a + c + 1) (by omega) (by omega)
          have la := S1.out.ld1 R (by omega) P (a + c) (by omega)
          have lb := S1.out.ld1 R (by omega) P (a + c + 1) (by omega)
          have sa := S1.out.st1 R (by omega) P (a + c) (by omega) (ST.upR d a c)[a + c + 1]!
          have sb := S1.out.st2 R (by omega) P (a + c) (a + c + 1) (by omega) (by omega) (ST.upR d a c)[a + c + 1]! (ST.upR d a c)[a + c]!
          have na : (enc (ST.upR d a c)[a + c]!).length = k := R.hk _
          have nb : (enc (ST.upR d a c)[a + c + 1]!).length = k := R.hk _
          generalize enc (ST.upR d a c)[a + c]! = cI at S2 la sb na
          generalize enc (ST.upR d a c)[a + c + 1]! = cJ at S2 lb sa sb nb
          clear S1
          go_big_region_o
          clear la lb sa sb
          generalize (wr.drew.setCells blk (off + (a + c) * k) cJ).setCells blk (off + (a + c + 1) * k) cI = w4 at S2 ⊢
          all_goals go_wp2
          go_roundg (gk - 1)
          case measure => omega
          case rel => exact ⟨c + 1, by congr 1 <;> omega, by omega, S2⟩
        · have hlz : ¬ ((a + c : Nat) : Int) < (j : Int) - 1 := by omega
          have hlz' : ¬ (a : Int) + (c : Int) < (j : Int) - 1 := by omega
          have : c = j - 1 - a := by omega
          subst this
          go_wp2
          (try simp only [Exit.inBlock, Exit.then]); refine bodyPost_ret (results_none rfl _ _ _) rfl ?_
          rw [HR2.out]
          exact ⟨rfl, S1⟩

set_option maxHeartbeats 8000000 in
set_option maxRecDepth 1000000 in
theorem st_sym_right {P : Program} {k : Nat} (L : StL P k) (enc : α → List Value) (cf : α → α → Int) (g : Nat) (cb : Array Value) (blk off cap : Nat) (d0 : Array α) (w0 : World)
    (eg : ∀ args w, (callFunc g args).run P w = .ok (.enter g args) w) (hcmp : CmpLays P g cb enc k cf blk off d0.size w0) (R : RowK enc k w0 blk off d0) (hsz : d0.size < 4611686018427387904)
    (a m b : Nat) (d : Array α) (w : World) (ham : a < m) (h1 : m - a ≠ 1) (hm1 : m < b) (hm2 : b ≤ m + 1) (hb : b ≤ d0.size) (hds : d.size = d0.size) (S : SWK enc k w0 blk off d w) :
    Calls P 70 #[.slice (some ⟨blk, off, none⟩) d0.size cap, .int .i64 a, .int .i64 m, .int .i64 b, .func (.func g) #[] cb] w fun e w' =>
      e = .returned (.tuple #[]) ∧ Aside (SWK enc k w0 blk off (ST.symM (ltOf cf) a m b d) w') := by
  have mixed := L.mixed; have t0 := L.t0; have a0 := L.a0; have z0 := L.z0; have v0 := L.v0; have t3 := L.t3; have a3 := L.a3; have z3 := L.z3; have v3 := L.v3; have t4 := L.t4; have a4 := L.a4; have z4 := L.z4; have v4 := L.v4; have tS := L.tS; have aS := L.aS; have zS := L.zS; have aE := L.aE; have zE := L.zE
  have tU := L.tU; have aU := L.aU; have zU := L.zU; have vU := L.vU
  have cRo := L.cRo
  have cSy := L.cSy
  have S0 : Aside _ := S
  have HC : Aside _ := hcmp
  clear S hcmp
  have q1 : ((m : Int) - (a : Int) == 1) = false := by simp; omega
  have q2 : ((b : Int) - (m : Int) == 1) = true := by simp; omega
  have HR : Hid (ST.symM (ltOf cf) a m b d = ST.downR d m (m - ST.bs (fun h => !ltOf cf d[m]! d[h]!) a m)) := ST.symM_right (ltOf cf) a m b d ham (by omega) h1 (by omega)
  go_enter L.fSy, Tryd.ntmps70
  go_wp2
  go_loopg [14, 15] (m - a) (fun gq s14 s15 wr => ∃ (i j : Nat), s14 = .int .i64 i ∧ s15 = .int .i64 j ∧ a ≤ i ∧ i ≤ j ∧ j ≤ m ∧ j - i ≤ gq ∧ Aside (SWK enc k w0 blk off d wr) ∧ Hid (ST.bs (fun h => !ltOf cf d[m]! d[h]!) i j = ST.bs (fun h => !ltOf cf d[m]! d[h]!) a m))
  case atStart => exact ⟨a, m, rfl, rfl, by omega, by omega, by omega, by omega, S0, rfl⟩
  case round =>
    clear S0
    obtain ⟨i, j, rfl, rfl, hi, hij, hj, hg, S1, HE⟩ := hrel
    by_cases hlt : i < j
    · have hltz : (i : Int) < (j : Int) := by omega
      cases hG : ltOf cf d[m]! d[(i + j) / 2]! with
      | true =>
        have e1 : (((i : Int) + (j : Int)) / 2).toNat = (i + j) / 2 := by omega
        have p1 : (0 : Int) ≤ ((i : Int) + (j : Int)) / 2 := by omega
        have b1 : ((i : Int) + (j : Int)) / 2 < (d0.size : Int) := by omega
        have r1 : IntKind.i64.wrap (((i : Int) + (j : Int)) / 2) = ((i : Int) + (j : Int)) / 2 := by rw [IntKind.wrap_i64]; omega
        have ba : (m : Int) < (d0.size : Int) := by omega
        go_wp2_with fail
        obtain ⟨xq, hxq⟩ : ∃ x, x = d[m]! := ⟨_, rfl⟩
        obtain ⟨yq, hyq⟩ : ∃ x, x = d[(i + j) / 2]! := ⟨_, rfl⟩
        have la := S1.out.ld R (by omega) P (m) (by omega)
        have lb := S1.out.ld R (by omega) P ((i + j) / 2) (by omega)
        rw [← hxq] at la
        rw [← hyq] at lb
        have hc := S1.out.cmp HC.out (by omega) xq yq
        have hv : cf xq yq < 0 := by rw [hxq, hyq]; exact of_decide_eq_true hG
        have hd : decide (cf xq yq < 0) = true := decide_eq_true hv
        clear hxq hyq
        go_wp2_with fail
        go_quiet_grown (first | (go_at_fn g; refine Calls.grown_of (hc _ _)))
        have S2 : Aside (SWK enc k w0 blk off d (grow (wr.drewN nq) osq)) := S1.out.grown nq osq
        clear la lb hc S1
        generalize grow (wr.drewN nq) osq = w2 at S2 ⊢
        clear nq osq
        go_wp2
        go_roundg (gk - 1)
        case measure => omega
        case rel => exact ⟨i, (i + j) / 2, rfl, by congr 1 <;> omega, by omega, by omega, by omega, by omega, S2, (show Hid _ from (ST.bs_no _ i j hlt (by simp only [hG]; rfl)).symm.trans HE.out)⟩
      | false =>
        have e1 : (((i : Int) + (j : Int)) / 2).toNat = (i + j) / 2 := by omega
        have p1 : (0 : Int) ≤ ((i : Int) + (j : Int)) / 2 := by omega
        have b1 : ((i : Int) + (j : Int)) / 2 < (d0.size : Int) := by omega
        have r1 : IntKind.i64.wrap (((i : Int) + (j : Int)) / 2) = ((i : Int) + (j : Int)) / 2 := by rw [IntKind.wrap_i64]; omega
        have ba : (m : Int) < (d0.size : Int) := by omega
        go_wp2_with fail
        obtain ⟨xq, hxq⟩ : ∃ x, x = d[m]! := ⟨_, rfl⟩
        obtain ⟨yq, hyq⟩ : ∃ x, x = d[(i + j) / 2]! := ⟨_, rfl⟩
        have la := S1.out.ld R (by omega) P (m) (by omega)
        have lb := S1.out.ld R (by omega) P ((i + j) / 2) (by omega)
        rw [← hxq] at la
        rw [← hyq] at lb
        have hc := S1.out.cmp HC.out (by omega) xq yq
        have hv : ¬ cf xq yq < 0 := by rw [hxq, hyq]; exact of_decide_eq_false hG
        have hd : decide (cf xq yq < 0) = false := decide_eq_false hv
        clear hxq hyq
        go_wp2_with fail
        go_quiet_grown (first | (go_at_fn g; refine Calls.grown_of (hc _ _)))
        have S2 : Aside (SWK enc k w0 blk off d (grow (wr.drewN nq) osq)) := S1.out.grown nq osq
        clear la lb hc S1
        generalize grow (wr.drewN nq) osq = w2 at S2 ⊢
        clear nq osq
        go_wp2
        go_roundg (gk - 1)
        case measure => omega
        case rel => exact ⟨(i + j) / 2 + 1, j, by congr 1 <;> omega, rfl, by omega, by omega, by omega, by omega, S2, (show Hid _ from (ST.bs_yes _ i j hlt (by simp only [hG]; rfl)).symm.trans HE.out)⟩
    · have hltz : ¬ (i : Int) < (j : Int) := by omega
      have : j = i := by omega
      subst this
      have HR2 : Hid (ST.symM (ltOf cf) a m b d = ST.downR d m (m - j)) := by show _ = _; rw [HR.out, ← HE.out, ST.bs_stop _ _ _ hlt]
      clear HR HE
      go_wp2
      go_loopg [17] (m - j) (fun gq s17 wr2 => ∃ c : Nat, s17 = .int .i64 ((m : Int) - (c : Int)) ∧ gq + c = m - j ∧ Aside (SWK enc k w0 blk off (ST.downR d m c) wr2))
      case atStart => exact ⟨0, by simp, by omega, S1⟩
      case round =>
        clear S1
        obtain ⟨c, rfl, hc, S1⟩ := hrel
        have hdz : (ST.downR d m c).size = d.size := ST.size_downR d m c
        by_cases hlc : c < m - j
        · have hlz : (j : Int) < (m : Int) - (c : Int) := by omega
          have e1 : ((m : Int) - (c : Int)).toNat = m - c := by omega
          have p1 : (0 : Int) ≤ (m : Int) - (c : Int) := by omega
          have b1 : (m : Int) - (c : Int) < (d0.size : Int) := by omega
          have r1 : IntKind.i64.wrap ((m : Int) - (c : Int)) = (m : Int) - (c : Int) := by rw [IntKind.wrap_i64]; omega
          have e2 : ((m : Int) - (c : Int) - 1).toNat = m - c - 1 := by omega
          have p2 : (0 : Int) ≤ (m : Int) - (c : Int) - 1 := by omega
          have b2 : (m : Int) - (c : Int) - 1 < (d0.size : Int) := by omega
          have r2 : IntKind.i64.wrap ((m : Int) - (c : Int) - 1) = (m : Int) - (c : Int) - 1 := by rw [IntKind.wrap_i64]; omega
          go_wp2_with fail
          have S2 : Aside (SWK enc k w0 blk off (ST.downR d m (c + 1)) ((wr.drew.setCells blk (off + (m - c) * k) (enc (ST.downR d m c)[m - c - 1]!)).setCells blk (off + (m - c - 1) * k) (enc (ST.downR d m c)[m - c]!))) := S1.out.swapped R (m - c) (m - c - 1) (by omega) (by omega)
          have la := S1.out.ld1 R (by omega) P (m - c) (by omega)
          have lb := S1.out.ld1 R (by omega) P (m - c - 1) (by omega)
          have sa := S1.out.st1 R (by omega) P (m - c) (by omega) (ST.downR d m c)[m - c - 1]!
          have sb := S1.out.st2 R (by omega) P (m - c) (m - c - 1) (by omega) (by omega) (ST.downR d m c)[m - c - 1]! (ST.downR d m c)[m - c]!
          have na : (enc (ST.downR d m c)[m - c]!).length = k := R.hk _
          have nb : (enc (ST.downR d m c)[m - c - 1]!).length = k := R.hk _
          generalize enc (ST.downR d m c)[m - c]! = cI at S2 la sb na
          generalize enc (ST.downR d m c)[m - c - 1]! = cJ at S2 lb sa sb nb
          clear S1
          go_big_region_o
          clear la lb sa sb
          generalize (wr.drew.setCells blk (off + (m - c) * k) cJ).setCells blk (off + (m - c - 1) * k) cI = w4 at S2 ⊢
          all_goals go_wp2
          go_roundg (gk - 1)
          case measure => omega
          case rel => exact ⟨c + 1, by congr 1 <;> omega, by omega, S2⟩
        · have hlz : ¬ (j : Int) < (m : Int) - (c : Int) := by omega
          have : c = m - j := by omega
          subst this
          go_wp2
          (try simp only [Exit.inBlock, Exit.then]); refine bodyPost_ret (results_none rfl _ _ _) rfl ?_
          rw [HR2.out]
          exact ⟨rfl, S1⟩
end Go.Proofs.YtminphldifncaaaDoor
