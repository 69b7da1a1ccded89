/- The stable sort's walks: symMergeCmpFunc, both parts of two and more; the middle behind m. (Printed by gen_sw2.py.) -/
import Derived.Test.YtminphldifncaaaDoorSW1
set_option linter.unusedSimpArgs false
set_option linter.unusedVariables false
namespace Go.Proofs.YtminphldifncaaaDoor
open Go.Shelf Go.RowKit Go.Lib Go.Sort
variable {α : Type} [Inhabited α]
set_option maxHeartbeats 16000000 in
set_option maxRecDepth 1000000 in
theorem st_sym_up {P : Program} {k : Nat} (L : StL P k) (enc : α → List Value) (cf : α → α → Int) (g : Nat) (cb : Array Value) (blk off cap : Nat) (d0 : Array α) (w0 : World)
    (eg : ∀ args w, (callFunc g args).run P w = .ok (.enter g args) w) (hcmp : CmpLays P g cb enc k cf blk off d0.size w0) (R : RowK enc k w0 blk off d0) (hsz : d0.size < 4611686018427387904) (N : Nat)
    (ih : ∀ (a m b : Nat) (d : Array α) (w : World), b - a ≤ N → a < m → m < b → b ≤ d0.size → d.size = d0.size → SWK enc k w0 blk off d w →
      Calls P 70 #[.slice (some ⟨blk, off, none⟩) d0.size cap, .int .i64 a, .int .i64 m, .int .i64 b, .func (.func g) #[] cb] w fun e w' =>
      e = .returned (.tuple #[]) ∧ Aside (SWK enc k w0 blk off (ST.symM (ltOf cf) a m b d) w'))
    (a m b : Nat) (d : Array α) (w : World) (hN : b - a ≤ N + 1) (ham : a < m) (hmb : m < b) (h1 : m - a ≠ 1) (h2 : b - m ≠ 1) (hb : b ≤ d0.size) (hds : d.size = d0.size) (hup : m > (a + b) / 2) (S : SWK enc k w0 blk off d w) :
    Calls P 70 #[.slice (some ⟨blk, off, none⟩) d0.size cap, .int .i64 a, .int .i64 m, .int .i64 b, .func (.func g) #[] cb] w fun e w' =>
      e = .returned (.tuple #[]) ∧ Aside (SWK enc k w0 blk off (ST.symM (ltOf cf) a m b d) w') := by
  have mixed := L.mixed; have t0 := L.t0; have a0 := L.a0; have z0 := L.z0; have v0 := L.v0; have t3 := L.t3; have a3 := L.a3; have z3 := L.z3; have v3 := L.v3; have t4 := L.t4; have a4 := L.a4; have z4 := L.z4; have v4 := L.v4; have tS := L.tS; have aS := L.aS; have zS := L.zS; have aE := L.aE; have zE := L.zE
  have tU := L.tU; have aU := L.aU; have zU := L.zU; have vU := L.vU
  have cRo := L.cRo
  have cSy := L.cSy
  have S0 : Aside _ := S
  have HC : Aside _ := hcmp
  have IH : Aside _ := ih
  clear S hcmp ih
  have q1 : ((m : Int) - (a : Int) == 1) = false := by simp; omega
  have q2 : ((b : Int) - (m : Int) == 1) = false := by simp; omega
  have HR : Hid (ST.symM (ltOf cf) a m b d = ST.symM (ltOf cf) ((a + b) / 2) ((a + b) / 2 + m - ST.cut (ltOf cf) a m b d) b (ST.symM (ltOf cf) a (ST.cut (ltOf cf) a m b d) ((a + b) / 2) (ST.turned (ltOf cf) a m b d))) := ST.symM_halves (ltOf cf) a m b d ham hmb h1 h2
  obtain ⟨md, hmd0⟩ : ∃ md, md = (a + b) / 2 := ⟨_, rfl⟩
  have hmz : ((a : Int) + (b : Int)) / 2 = (md : Int) := by omega
  have hmd : Hid (md = (a + b) / 2) := hmd0
  have hma : a < md := by omega
  have hmb2 : md < b := by omega
  have hmd2 : 2 * md ≤ a + b := by omega
  have hmd3 : a + b ≤ 2 * md + 1 := by omega
  obtain ⟨s0, hs0⟩ : ∃ s0, s0 = ST.sM a m b := ⟨_, rfl⟩
  obtain ⟨r0, hr0⟩ : ∃ r0, r0 = ST.rM a m b := ⟨_, rfl⟩
  have hS0 : (m > md → md + m = s0 + b) ∧ (¬ m > md → s0 = a) := by rw [hs0]; unfold ST.sM; rw [← hmd0]; constructor <;> intro h <;> split <;> omega
  have hR0 : (m > md → r0 = md) ∧ (¬ m > md → r0 = m) := by rw [hr0]; unfold ST.rM; rw [← hmd0]; constructor <;> intro h <;> split <;> omega
  have HP : Hid (ST.cut (ltOf cf) a m b d = ST.bs (fun c => !ltOf cf d[md + m - 1 - c]! d[c]!) s0 r0) := by show _ = _; unfold ST.cut; rw [← hmd0, ← hs0, ← hr0]
  clear hmd0 hs0 hr0
  have hsr : s0 ≤ r0 := by rcases Nat.lt_or_ge md m with h | h <;> omega
  have has : a ≤ s0 := by rcases Nat.lt_or_ge md m with h | h <;> omega
  have hrm : r0 ≤ m := by rcases Nat.lt_or_ge md m with h | h <;> omega
  have hrd : r0 ≤ md := by rcases Nat.lt_or_ge md m with h | h <;> omega
  have hpb : md + m ≤ s0 + b := by rcases Nat.lt_or_ge md m with h | h <;> omega
  have q3 : (md : Int) < (m : Int) := by have := hmd.out; omega
  have hs0z : (md : Int) + (m : Int) - (b : Int) = (s0 : Int) := by have := hmd.out; have := hS0.1 (by omega); omega
  have hr0e : Hid (r0 = md) := hR0.1 (by have := hmd.out; omega)
  clear hS0 hR0 hup
  go_enter L.fSy, Tryd.ntmps70
  go_wp2
  go_loopg [20, 21] (b - a) (fun gq s20 s21 wr => ∃ (i j : Nat), s20 = .int .i64 i ∧ s21 = .int .i64 j ∧ s0 ≤ i ∧ i ≤ j ∧ j ≤ r0 ∧ j - i ≤ gq ∧ Aside (SWK enc k w0 blk off d wr) ∧ Hid (ST.bs (fun c => !ltOf cf d[md + m - 1 - c]! d[c]!) i j = ST.bs (fun c => !ltOf cf d[md + m - 1 - c]! d[c]!) s0 r0))
  case atStart => exact ⟨s0, r0, by rfl, by rw [hr0e.out], by omega, hsr, by omega, by omega, S0, rfl⟩
  case round =>
    clear S0
    obtain ⟨i, j, rfl, rfl, hi, hij, hj, hg, S1, HE⟩ := hrel
    by_cases hlt : i < j
    · have hltz : (i : Int) < (j : Int) := by omega
      obtain ⟨pc, hpc0⟩ : ∃ pc : Nat, pc = md + m - 1 - (i + j) / 2 := ⟨_, rfl⟩
      have v1 : IntKind.i64.wrap ((md : Int) + (m : Int) - 1 - ((i : Int) + (j : Int)) / 2) = (pc : Int) := by rw [IntKind.wrap_i64]; omega
      have v2 : (md : Int) + (m : Int) - 1 - ((i : Int) + (j : Int)) / 2 = (pc : Int) := by omega
      have v5 : IntKind.i64.wrap (pc : Int) = (pc : Int) := by rw [IntKind.wrap_i64]; omega
      have v3 : (pc : Int) < (d0.size : Int) := by omega
      have v4 : pc < d0.size := by omega
      have hpc : Hid (pc = md + m - 1 - (i + j) / 2) := hpc0
      clear hpc0
      cases hG : ltOf cf d[pc]! d[(i + j) / 2]! with
      | true =>
        have e1 : (((i : Int) + (j : Int)) / 2).toNat = (i + j) / 2 := by omega
        have p1 : (0 : Int) ≤ ((i : Int) + (j : Int)) / 2 := by omega
        have b1 : ((i : Int) + (j : Int)) / 2 < (d0.size : Int) := by omega
        have r1 : IntKind.i64.wrap (((i : Int) + (j : Int)) / 2) = ((i : Int) + (j : Int)) / 2 := by rw [IntKind.wrap_i64]; omega
        go_wp2_with fail
        obtain ⟨xq, hxq⟩ : ∃ x, x = d[pc]! := ⟨_, rfl⟩
        obtain ⟨yq, hyq⟩ : ∃ x, x = d[(i + j) / 2]! := ⟨_, rfl⟩
        have la := S1.out.ld R (by omega) P (pc) (by omega)
        have lb := S1.out.ld R (by omega) P ((i + j) / 2) (by omega)
        rw [← hxq] at la
        rw [← hyq] at lb
        have hc := S1.out.cmp HC.out (by omega) xq yq
        have hv : cf xq yq < 0 := by rw [hxq, hyq]; exact of_decide_eq_true hG
        have hd : decide (cf xq yq < 0) = true := decide_eq_true hv
        clear hxq hyq
        go_wp2_with fail
        go_quiet_grown (first | (go_at_fn g; refine Calls.grown_of (hc _ _)))
        have S2 : Aside (SWK enc k w0 blk off d (grow (wr.drewN nq) osq)) := S1.out.grown nq osq
        clear la lb hc S1
        generalize grow (wr.drewN nq) osq = w2 at S2 ⊢
        clear nq osq
        go_wp2
        go_roundg (gk - 1)
        case measure => omega
        case rel => exact ⟨i, (i + j) / 2, rfl, by congr 1 <;> omega, by omega, by omega, by omega, by omega, S2, (show Hid _ from (ST.bs_no _ i j hlt (by simp only [← hpc.out, hG]; rfl)).symm.trans HE.out)⟩
      | false =>
        have e1 : (((i : Int) + (j : Int)) / 2).toNat = (i + j) / 2 := by omega
        have p1 : (0 : Int) ≤ ((i : Int) + (j : Int)) / 2 := by omega
        have b1 : ((i : Int) + (j : Int)) / 2 < (d0.size : Int) := by omega
        have r1 : IntKind.i64.wrap (((i : Int) + (j : Int)) / 2) = ((i : Int) + (j : Int)) / 2 := by rw [IntKind.wrap_i64]; omega
        go_wp2_with fail
        obtain ⟨xq, hxq⟩ : ∃ x, x = d[pc]! := ⟨_, rfl⟩
        obtain ⟨yq, hyq⟩ : ∃ x, x = d[(i + j) / 2]! := ⟨_, rfl⟩
        have la := S1.out.ld R (by omega) P (pc) (by omega)
        have lb := S1.out.ld R (by omega) P ((i + j) / 2) (by omega)
        rw [← hxq] at la
        rw [← hyq] at lb
        have hc := S1.out.cmp HC.out (by omega) xq yq
        have hv : ¬ cf xq yq < 0 := by rw [hxq, hyq]; exact of_decide_eq_false hG
        have hd : decide (cf xq yq < 0) = false := decide_eq_false hv
        clear hxq hyq
        go_wp2_with fail
        go_quiet_grown (first | (go_at_fn g; refine Calls.grown_of (hc _ _)))
        have S2 : Aside (SWK enc k w0 blk off d (grow (wr.drewN nq) osq)) := S1.out.grown nq osq
        clear la lb hc S1
        generalize grow (wr.drewN nq) osq = w2 at S2 ⊢
        clear nq osq
        go_wp2
        go_roundg (gk - 1)
        case measure => omega
        case rel => exact ⟨(i + j) / 2 + 1, j, by congr 1 <;> omega, rfl, by omega, by omega, by omega, by omega, S2, (show Hid _ from (ST.bs_yes _ i j hlt (by simp only [← hpc.out, hG]; rfl)).symm.trans HE.out)⟩
    · have hltz : ¬ (i : Int) < (j : Int) := by omega
      have : j = i := by omega
      subst this
      obtain ⟨s, hsj⟩ : ∃ s, s = j := ⟨_, rfl⟩
      have hcut : Hid (ST.cut (ltOf cf) a m b d = s) := by show _ = _; rw [HP.out, ← HE.out, ST.bs_stop _ _ _ hlt, hsj]
      subst hsj
      obtain ⟨ed, hed⟩ : ∃ ed, ed = md + m - s := ⟨_, rfl⟩
      have hen : (md : Int) + (m : Int) - (s : Int) = (ed : Int) := by omega
      have hes : ed + s = md + m := by omega
      have HED : Hid (ed = md + m - s) := hed
      clear hed
      have hsm : s ≤ m := by omega
      have hsd : s ≤ md := by omega
      have hsa : a ≤ s := by omega
      have hsb : ed ≤ b := by omega
      clear HE HP hg hlt hltz
      rcases Nat.lt_or_ge s m with c1 | c1
      · rcases Nat.lt_or_ge s md with c2 | c2
        · rcases Nat.lt_or_ge a s with c3 | c3
          · rcases Nat.lt_or_ge ed b with c4 | c4
            · have k1 : (s : Int) < (m : Int) := by omega
              have k2 : (m : Int) < (ed : Int) := by omega
              have k3 : (a : Int) < (s : Int) := by omega
              have k4 : (s : Int) < (md : Int) := by omega
              have k5 : (md : Int) < (ed : Int) := by omega
              have k6 : (ed : Int) < (b : Int) := by omega
              have c1 := st_rot L enc (.func (.func g) #[] cb) blk off cap s m ed d0 d w0 wr R (by omega) S1.out (by omega) (by omega) (by omega) (by omega)
              rw [hds] at c1
              go_wp2_with fail
              go_at_fn 76
              refine c1.mono ?_
              rintro e w1 ⟨rfl, T1⟩
              have S1q : Aside _ := T1
              clear T1 c1 S1
              have c2 := IH.out a s md (ST.rot m (m - s) (ed - m) d) w1 (by omega) (by omega) (by omega) (by omega) (by first | exact hds | (rw [ST.size_rot]; exact hds)) S1q.out
              go_wp2_with fail
              go_at_fn 70
              refine c2.mono ?_
              rintro e w2 ⟨rfl, S2q⟩
              clear c2 S1q
              have c3 := IH.out md ed b (ST.symM (ltOf cf) a s md (ST.rot m (m - s) (ed - m) d)) w2 (by omega) (by omega) (by omega) (by omega) (by first | exact hds | (simp only [ST.size_rot, ST.size_symM]; exact hds)) S2q.out
              go_wp2_with fail
              go_at_fn 70
              refine c3.mono ?_
              rintro e w3 ⟨rfl, S3q⟩
              clear c3 S2q
              go_wp2
              go_end0
              have T : ST.turned (ltOf cf) a m b d = ST.rot m (m - s) (ed - m) d := by unfold ST.turned; rw [hcut.out, ← hmd.out, ← HED.out]; exact if_pos ⟨by omega, by omega⟩
              have HF := HR.out
              rw [hcut.out, ← hmd.out, ← HED.out, T] at HF
              rw [HF]
              exact ⟨rfl, S3q⟩
            · have k1 : (s : Int) < (m : Int) := by omega
              have k2 : (m : Int) < (ed : Int) := by omega
              have k3 : (a : Int) < (s : Int) := by omega
              have k4 : (s : Int) < (md : Int) := by omega
              have k5 : (md : Int) < (ed : Int) := by omega
              have k6 : ¬ (ed : Int) < (b : Int) := by omega
              have c1 := st_rot L enc (.func (.func g) #[] cb) blk off cap s m ed d0 d w0 wr R (by omega) S1.out (by omega) (by omega) (by omega) (by omega)
              rw [hds] at c1
              go_wp2_with fail
              go_at_fn 76
              refine c1.mono ?_
              rintro e w1 ⟨rfl, T1⟩
              have S1q : Aside _ := T1
              clear T1 c1 S1
              have c2 := IH.out a s md (ST.rot m (m - s) (ed - m) d) w1 (by omega) (by omega) (by omega) (by omega) (by first | exact hds | (rw [ST.size_rot]; exact hds)) S1q.out
              go_wp2_with fail
              go_at_fn 70
              refine c2.mono ?_
              rintro e w2 ⟨rfl, S2q⟩
              clear c2 S1q
              go_wp2
              go_end0
              have T : ST.turned (ltOf cf) a m b d = ST.rot m (m - s) (ed - m) d := by unfold ST.turned; rw [hcut.out, ← hmd.out, ← HED.out]; exact if_pos ⟨by omega, by omega⟩
              have HF := HR.out
              rw [hcut.out, ← hmd.out, ← HED.out, T] at HF
              rw [ST.symM_none (ltOf cf) md ed b _ (by omega)] at HF
              rw [HF]
              exact ⟨rfl, S2q⟩
          · rcases Nat.lt_or_ge ed b with c4 | c4
            · exfalso; omega
            · have k1 : (s : Int) < (m : Int) := by omega
              have k2 : (m : Int) < (ed : Int) := by omega
              have k3 : ¬ (a : Int) < (s : Int) := by omega
              have k4 : (s : Int) < (md : Int) := by omega
              have k5 : (md : Int) < (ed : Int) := by omega
              have k6 : ¬ (ed : Int) < (b : Int) := by omega
              have c1 := st_rot L enc (.func (.func g) #[] cb) blk off cap s m ed d0 d w0 wr R (by omega) S1.out (by omega) (by omega) (by omega) (by omega)
              rw [hds] at c1
              go_wp2_with fail
              go_at_fn 76
              refine c1.mono ?_
              rintro e w1 ⟨rfl, T1⟩
              have S1q : Aside _ := T1
              clear T1 c1 S1
              go_wp2
              go_end0
              have T : ST.turned (ltOf cf) a m b d = ST.rot m (m - s) (ed - m) d := by unfold ST.turned; rw [hcut.out, ← hmd.out, ← HED.out]; exact if_pos ⟨by omega, by omega⟩
              have HF := HR.out
              rw [hcut.out, ← hmd.out, ← HED.out, T] at HF
              rw [ST.symM_none (ltOf cf) a s md _ (by omega)] at HF
              rw [ST.symM_none (ltOf cf) md ed b _ (by omega)] at HF
              rw [HF]
              exact ⟨rfl, S1q⟩
        · have k1 : (s : Int) < (m : Int) := by omega
          have k2 : ¬ (m : Int) < (ed : Int) := by omega
          have k3 : (a : Int) < (s : Int) := by omega
          have k4 : ¬ (s : Int) < (md : Int) := by omega
          have k5 : (md : Int) < (ed : Int) := by omega
          have k6 : (ed : Int) < (b : Int) := by omega
          have c1 := IH.out md ed b (d) wr (by omega) (by omega) (by omega) (by omega) (by first | exact hds | (simp only [ST.size_rot, ST.size_symM]; exact hds)) S1.out
          go_wp2_with fail
          go_at_fn 70
          refine c1.mono ?_
          rintro e w1 ⟨rfl, S1q⟩
          clear c1 S1
          go_wp2
          go_end0
          have T : ST.turned (ltOf cf) a m b d = d := by unfold ST.turned; rw [hcut.out, ← hmd.out, ← HED.out]; exact if_neg (by omega)
          have HF := HR.out
          rw [hcut.out, ← hmd.out, ← HED.out, T] at HF
          rw [ST.symM_none (ltOf cf) a s md _ (by omega)] at HF
          rw [HF]
          exact ⟨rfl, S1q⟩
      · rcases Nat.lt_or_ge s md with c2 | c2
        · exfalso; omega
        · have k1 : ¬ (s : Int) < (m : Int) := by omega
          have k3 : (a : Int) < (s : Int) := by omega
          have k4 : ¬ (s : Int) < (md : Int) := by omega
          have k5 : ¬ (md : Int) < (ed : Int) := by omega
          go_wp2
          go_end0
          have T : ST.turned (ltOf cf) a m b d = d := by unfold ST.turned; rw [hcut.out, ← hmd.out, ← HED.out]; exact if_neg (by omega)
          have HF := HR.out
          rw [hcut.out, ← hmd.out, ← HED.out, T] at HF
          rw [ST.symM_none (ltOf cf) a s md _ (by omega)] at HF
          rw [ST.symM_none (ltOf cf) md ed b _ (by omega)] at HF
          rw [HF]
          exact ⟨rfl, S1⟩
end Go.Proofs.YtminphldifncaaaDoor
