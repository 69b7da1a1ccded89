/- Joined of: SW4 SW5 SW6 RP. -/
import Derived.Shelf.SlLaysF0
import Derived.Test.YtkbceeobnbbfbaaDoorG03
import Derived.Test.YtkbceeobnbbfbaaDoorG02
/- The stable sort's walks: symMergeCmpFunc, both parts of two and more; the middle not behind m. (Printed by gen_sw2.py.) -/
set_option linter.unusedSimpArgs false
set_option linter.unusedVariables false
namespace Go.Proofs.YtkbceeobnbbfbaaDoor.RR
open Go.Shelf Go.RowKit Go.Lib Go.Sort
variable {α : Type} [Inhabited α]
set_option maxHeartbeats 16000000 in
set_option maxRecDepth 1000000 in
theorem st_sym_low {P : Program} {k : Nat} (L : StL P k) (enc : α → List Value) (cf : α → α → Int) (g : Nat) (cb : Array Value) (blk off cap : Nat) (d0 : Array α) (w0 : World)
    (eg : ∀ args w, (callFunc g args).run P w = .ok (.enter g args) w) (hcmp : CmpLays P g cb enc k cf blk off d0.size w0) (R : RowK enc k w0 blk off d0) (hsz : d0.size < 4611686018427387904) (N : Nat)
    (ih : ∀ (a m b : Nat) (d : Array α) (w : World), b - a ≤ N → a < m → m < b → b ≤ d0.size → d.size = d0.size → SWK enc k w0 blk off d w →
      Calls P 52 #[.slice (some ⟨blk, off, none⟩) d0.size cap, .int .i64 a, .int .i64 m, .int .i64 b, .func (.func g) #[] cb] w fun e w' =>
      e = .returned (.tuple #[]) ∧ Aside (SWK enc k w0 blk off (ST.symM (ltOf cf) a m b d) w'))
    (a m b : Nat) (d : Array α) (w : World) (hN : b - a ≤ N + 1) (ham : a < m) (hmb : m < b) (h1 : m - a ≠ 1) (h2 : b - m ≠ 1) (hb : b ≤ d0.size) (hds : d.size = d0.size) (hup : ¬ m > (a + b) / 2) (S : SWK enc k w0 blk off d w) :
    Calls P 52 #[.slice (some ⟨blk, off, none⟩) d0.size cap, .int .i64 a, .int .i64 m, .int .i64 b, .func (.func g) #[] cb] w fun e w' =>
      e = .returned (.tuple #[]) ∧ Aside (SWK enc k w0 blk off (ST.symM (ltOf cf) a m b d) w') := by
  have mixed := L.mixed; have t0 := L.t0; have a0 := L.a0; have z0 := L.z0; have v0 := L.v0; have t3 := L.t3; have a3 := L.a3; have z3 := L.z3; have v3 := L.v3; have t4 := L.t4; have a4 := L.a4; have z4 := L.z4; have v4 := L.v4; have tS := L.tS; have aS := L.aS; have zS := L.zS; have aE := L.aE; have zE := L.zE
  have tU := L.tU; have aU := L.aU; have zU := L.zU; have vU := L.vU
  have cRo := L.cRo
  have cSy := L.cSy
  have S0 : Aside _ := S
  have HC : Aside _ := hcmp
  have IH : Aside _ := ih
  clear S hcmp ih
  have q1 : ((m : Int) - (a : Int) == 1) = false := by simp; omega
  have q2 : ((b : Int) - (m : Int) == 1) = false := by simp; omega
  have HR : Hid (ST.symM (ltOf cf) a m b d = ST.symM (ltOf cf) ((a + b) / 2) ((a + b) / 2 + m - ST.cut (ltOf cf) a m b d) b (ST.symM (ltOf cf) a (ST.cut (ltOf cf) a m b d) ((a + b) / 2) (ST.turned (ltOf cf) a m b d))) := ST.symM_halves (ltOf cf) a m b d ham hmb h1 h2
  obtain ⟨md, hmd0⟩ : ∃ md, md = (a + b) / 2 := ⟨_, rfl⟩
  have hmz : ((a : Int) + (b : Int)) / 2 = (md : Int) := by omega
  have hmd : Hid (md = (a + b) / 2) := hmd0
  have hma : a < md := by omega
  have hmb2 : md < b := by omega
  have hmd2 : 2 * md ≤ a + b := by omega
  have hmd3 : a + b ≤ 2 * md + 1 := by omega
  obtain ⟨s0, hs0⟩ : ∃ s0, s0 = ST.sM a m b := ⟨_, rfl⟩
  obtain ⟨r0, hr0⟩ : ∃ r0, r0 = ST.rM a m b := ⟨_, rfl⟩
  have hS0 : (m > md → md + m = s0 + b) ∧ (¬ m > md → s0 = a) := by rw [hs0]; unfold ST.sM; rw [← hmd0]; constructor <;> intro h <;> split <;> omega
  have hR0 : (m > md → r0 = md) ∧ (¬ m > md → r0 = m) := by rw [hr0]; unfold ST.rM; rw [← hmd0]; constructor <;> intro h <;> split <;> omega
  have HP : Hid (ST.cut (ltOf cf) a m b d = ST.bs (fun c => !ltOf cf d[md + m - 1 - c]! d[c]!) s0 r0) := by show _ = _; unfold ST.cut; rw [← hmd0, ← hs0, ← hr0]
  clear hmd0 hs0 hr0
  have hsr : s0 ≤ r0 := by rcases Nat.lt_or_ge md m with h | h <;> omega
  have has : a ≤ s0 := by rcases Nat.lt_or_ge md m with h | h <;> omega
  have hrm : r0 ≤ m := by rcases Nat.lt_or_ge md m with h | h <;> omega
  have hrd : r0 ≤ md := by rcases Nat.lt_or_ge md m with h | h <;> omega
  have hpb : md + m ≤ s0 + b := by rcases Nat.lt_or_ge md m with h | h <;> omega
  have q3 : ¬ (md : Int) < (m : Int) := by have := hmd.out; omega
  have hs0e : Hid (s0 = a) := hS0.2 (by have := hmd.out; omega)
  have hr0e : Hid (r0 = m) := hR0.2 (by have := hmd.out; omega)
  clear hS0 hR0 hup
  go_enter L.fSy, Tryd.ntmps52
  go_wp2
  go_loopg [20, 21] (b - a) (fun gq s20 s21 wr => ∃ (i j : Nat), s20 = .int .i64 i ∧ s21 = .int .i64 j ∧ s0 ≤ i ∧ i ≤ j ∧ j ≤ r0 ∧ j - i ≤ gq ∧ Aside (SWK enc k w0 blk off d wr) ∧ Hid (ST.bs (fun c => !ltOf cf d[md + m - 1 - c]! d[c]!) i j = ST.bs (fun c => !ltOf cf d[md + m - 1 - c]! d[c]!) s0 r0))
  case atStart => exact ⟨s0, r0, by rw [hs0e.out], by rw [hr0e.out], by omega, hsr, by omega, by omega, S0, rfl⟩
  case round =>
    clear S0
    obtain ⟨i, j, rfl, rfl, hi, hij, hj, hg, S1, HE⟩ := hrel
    by_cases hlt : i < j
    · have hltz : (i : Int) < (j : Int) := by omega
      obtain ⟨pc, hpc0⟩ : ∃ pc : Nat, pc = md + m - 1 - (i + j) / 2 := ⟨_, rfl⟩
      have v1 : IntKind.i64.wrap ((md : Int) + (m : Int) - 1 - ((i : Int) + (j : Int)) / 2) = (pc : Int) := by rw [IntKind.wrap_i64]; omega
      have v2 : (md : Int) + (m : Int) - 1 - ((i : Int) + (j : Int)) / 2 = (pc : Int) := by omega
      have v5 : IntKind.i64.wrap (pc : Int) = (pc : Int) := by rw [IntKind.wrap_i64]; omega
      have v3 : (pc : Int) < (d0.size : Int) := by omega
      have v4 : pc < d0.size := by omega
      have hpc : Hid (pc = md + m - 1 - (i + j) / 2) := hpc0
      clear hpc0
      cases hG : ltOf cf d[pc]! d[(i + j) / 2]! with
      | true =>
        have e1 : (((i : Int) + (j : Int)) / 2).toNat = (i + j) / 2 := by omega
        have p1 : (0 : Int) ≤ ((i : Int) + (j : Int)) / 2 := by omega
        have b1 : ((i : Int) + (j : Int)) / 2 < (d0.size : Int) := by omega
        have r1 : IntKind.i64.wrap (((i : Int) + (j : Int)) / 2) = ((i : Int) + (j : Int)) / 2 := by rw [IntKind.wrap_i64]; omega
        go_wp2_with fail
        obtain ⟨xq, hxq⟩ : ∃ x, x = d[pc]! := ⟨_, rfl⟩
        obtain ⟨yq, hyq⟩ : ∃ x, x = d[(i + j) / 2]! := ⟨_, rfl⟩
        have la := S1.out.ld R (by omega) P (pc) (by omega)
        have lb := S1.out.ld R (by omega) P ((i + j) / 2) (by omega)
        rw [← hxq] at la
        rw [← hyq] at lb
        have hc := S1.out.cmp HC.out (by omega) xq yq
        have hv : cf xq yq < 0 := by rw [hxq, hyq]; exact of_decide_eq_true hG
        have hd : decide (cf xq yq < 0) = true := decide_eq_true hv
        clear hxq hyq
        go_wp2_with fail
        go_quiet_grown (first | (go_at_fn g; refine Calls.grown_of (hc _ _)))
        have S2 : Aside (SWK enc k w0 blk off d (grow (wr.drewN nq) osq)) := S1.out.grown nq osq
        clear la lb hc S1
        generalize grow (wr.drewN nq) osq = w2 at S2 ⊢
        clear nq osq
        go_wp2
        go_roundg (gk - 1)
        case measure => omega
        case rel => exact ⟨i, (i + j) / 2, rfl, by congr 1 <;> omega, by omega, by omega, by omega, by omega, S2, (show Hid _ from (ST.bs_no _ i j hlt (by simp only [← hpc.out, hG]; rfl)).symm.trans HE.out)⟩
      | false =>
        have e1 : (((i : Int) + (j : Int)) / 2).toNat = (i + j) / 2 := by omega
        have p1 : (0 : Int) ≤ ((i : Int) + (j : Int)) / 2 := by omega
        have b1 : ((i : Int) + (j : Int)) / 2 < (d0.size : Int) := by omega
        have r1 : IntKind.i64.wrap (((i : Int) + (j : Int)) / 2) = ((i : Int) + (j : Int)) / 2 := by rw [IntKind.wrap_i64]; omega
        go_wp2_with fail
        obtain ⟨xq, hxq⟩ : ∃ x, x = d[pc]! := ⟨_, rfl⟩
        obtain ⟨yq, hyq⟩ : ∃ x, x = d[(i + j) / 2]! := ⟨_, rfl⟩
        have la := S1.out.ld R (by omega) P (pc) (by omega)
        have lb := S1.out.ld R (by omega) P ((i + j) / 2) (by omega)
        rw [← hxq] at la
        rw [← hyq] at lb
        have hc := S1.out.cmp HC.out (by omega) xq yq
        have hv : ¬ cf xq yq < 0 := by rw [hxq, hyq]; exact of_decide_eq_false hG
        have hd : decide (cf xq yq < 0) = false := decide_eq_false hv
        clear hxq hyq
        go_wp2_with fail
        go_quiet_grown (first | (go_at_fn g; refine Calls.grown_of (hc _ _)))
        have S2 : Aside (SWK enc k w0 blk off d (grow (wr.drewN nq) osq)) := S1.out.grown nq osq
        clear la lb hc S1
        generalize grow (wr.drewN nq) osq = w2 at S2 ⊢
        clear nq osq
        go_wp2
        go_roundg (gk - 1)
        case measure => omega
        case rel => exact ⟨(i + j) / 2 + 1, j, by congr 1 <;> omega, rfl, by omega, by omega, by omega, by omega, S2, (show Hid _ from (ST.bs_yes _ i j hlt (by simp only [← hpc.out, hG]; rfl)).symm.trans HE.out)⟩
    · have hltz : ¬ (i : Int) < (j : Int) := by omega
      have : j = i := by omega
      subst this
      obtain ⟨s, hsj⟩ : ∃ s, s = j := ⟨_, rfl⟩
      have hcut : Hid (ST.cut (ltOf cf) a m b d = s) := by show _ = _; rw [HP.out, ← HE.out, ST.bs_stop _ _ _ hlt, hsj]
      subst hsj
      obtain ⟨ed, hed⟩ : ∃ ed, ed = md + m - s := ⟨_, rfl⟩
      have hen : (md : Int) + (m : Int) - (s : Int) = (ed : Int) := by omega
      have hes : ed + s = md + m := by omega
      have HED : Hid (ed = md + m - s) := hed
      clear hed
      have hsm : s ≤ m := by omega
      have hsd : s ≤ md := by omega
      have hsa : a ≤ s := by omega
      have hsb : ed ≤ b := by omega
      clear HE HP hg hlt hltz
      rcases Nat.lt_or_ge s m with c1 | c1
      · rcases Nat.lt_or_ge s md with c2 | c2
        · rcases Nat.lt_or_ge a s with c3 | c3
          · rcases Nat.lt_or_ge ed b with c4 | c4
            · have k1 : (s : Int) < (m : Int) := by omega
              have k2 : (m : Int) < (ed : Int) := by omega
              have k3 : (a : Int) < (s : Int) := by omega
              have k4 : (s : Int) < (md : Int) := by omega
              have k5 : (md : Int) < (ed : Int) := by omega
              have k6 : (ed : Int) < (b : Int) := by omega
              have c1 := st_rot L enc (.func (.func g) #[] cb) blk off cap s m ed d0 d w0 wr R (by omega) S1.out (by omega) (by omega) (by omega) (by omega)
              rw [hds] at c1
              go_wp2_with fail
              go_at_fn 53
              refine c1.mono ?_
              rintro e w1 ⟨rfl, T1⟩
              have S1q : Aside _ := T1
              clear T1 c1 S1
              have c2 := IH.out a s md (ST.rot m (m - s) (ed - m) d) w1 (by omega) (by omega) (by omega) (by omega) (by first | exact hds | (rw [ST.size_rot]; exact hds)) S1q.out
              go_wp2_with fail
              go_at_fn 52
              refine c2.mono ?_
              rintro e w2 ⟨rfl, S2q⟩
              clear c2 S1q
              have c3 := IH.out md ed b (ST.symM (ltOf cf) a s md (ST.rot m (m - s) (ed - m) d)) w2 (by omega) (by omega) (by omega) (by omega) (by first | exact hds | (simp only [ST.size_rot, ST.size_symM]; exact hds)) S2q.out
              go_wp2_with fail
              go_at_fn 52
              refine c3.mono ?_
              rintro e w3 ⟨rfl, S3q⟩
              clear c3 S2q
              go_wp2
              go_end0
              have T : ST.turned (ltOf cf) a m b d = ST.rot m (m - s) (ed - m) d := by unfold ST.turned; rw [hcut.out, ← hmd.out, ← HED.out]; exact if_pos ⟨by omega, by omega⟩
              have HF := HR.out
              rw [hcut.out, ← hmd.out, ← HED.out, T] at HF
              rw [HF]
              exact ⟨rfl, S3q⟩
            · exfalso; omega
          · rcases Nat.lt_or_ge ed b with c4 | c4
            · have k1 : (s : Int) < (m : Int) := by omega
              have k2 : (m : Int) < (ed : Int) := by omega
              have k3 : ¬ (a : Int) < (s : Int) := by omega
              have k4 : (s : Int) < (md : Int) := by omega
              have k5 : (md : Int) < (ed : Int) := by omega
              have k6 : (ed : Int) < (b : Int) := by omega
              have c1 := st_rot L enc (.func (.func g) #[] cb) blk off cap s m ed d0 d w0 wr R (by omega) S1.out (by omega) (by omega) (by omega) (by omega)
              rw [hds] at c1
              go_wp2_with fail
              go_at_fn 53
              refine c1.mono ?_
              rintro e w1 ⟨rfl, T1⟩
              have S1q : Aside _ := T1
              clear T1 c1 S1
              have c2 := IH.out md ed b (ST.rot m (m - s) (ed - m) d) w1 (by omega) (by omega) (by omega) (by omega) (by first | exact hds | (simp only [ST.size_rot, ST.size_symM]; exact hds)) S1q.out
              go_wp2_with fail
              go_at_fn 52
              refine c2.mono ?_
              rintro e w2 ⟨rfl, S2q⟩
              clear c2 S1q
              go_wp2
              go_end0
              have T : ST.turned (ltOf cf) a m b d = ST.rot m (m - s) (ed - m) d := by unfold ST.turned; rw [hcut.out, ← hmd.out, ← HED.out]; exact if_pos ⟨by omega, by omega⟩
              have HF := HR.out
              rw [hcut.out, ← hmd.out, ← HED.out, T] at HF
              rw [ST.symM_none (ltOf cf) a s md _ (by omega)] at HF
              rw [HF]
              exact ⟨rfl, S2q⟩
            · have k1 : (s : Int) < (m : Int) := by omega
              have k2 : (m : Int) < (ed : Int) := by omega
              have k3 : ¬ (a : Int) < (s : Int) := by omega
              have k4 : (s : Int) < (md : Int) := by omega
              have k5 : (md : Int) < (ed : Int) := by omega
              have k6 : ¬ (ed : Int) < (b : Int) := by omega
              have c1 := st_rot L enc (.func (.func g) #[] cb) blk off cap s m ed d0 d w0 wr R (by omega) S1.out (by omega) (by omega) (by omega) (by omega)
              rw [hds] at c1
              go_wp2_with fail
              go_at_fn 53
              refine c1.mono ?_
              rintro e w1 ⟨rfl, T1⟩
              have S1q : Aside _ := T1
              clear T1 c1 S1
              go_wp2
              go_end0
              have T : ST.turned (ltOf cf) a m b d = ST.rot m (m - s) (ed - m) d := by unfold ST.turned; rw [hcut.out, ← hmd.out, ← HED.out]; exact if_pos ⟨by omega, by omega⟩
              have HF := HR.out
              rw [hcut.out, ← hmd.out, ← HED.out, T] at HF
              rw [ST.symM_none (ltOf cf) a s md _ (by omega)] at HF
              rw [ST.symM_none (ltOf cf) md ed b _ (by omega)] at HF
              rw [HF]
              exact ⟨rfl, S1q⟩
        · exfalso; omega
      · rcases Nat.lt_or_ge s md with c2 | c2
        · have k1 : ¬ (s : Int) < (m : Int) := by omega
          have k3 : (a : Int) < (s : Int) := by omega
          have k4 : (s : Int) < (md : Int) := by omega
          have k5 : ¬ (md : Int) < (ed : Int) := by omega
          have c1 := IH.out a s md (d) wr (by omega) (by omega) (by omega) (by omega) (by first | exact hds | (rw [ST.size_rot]; exact hds)) S1.out
          go_wp2_with fail
          go_at_fn 52
          refine c1.mono ?_
          rintro e w1 ⟨rfl, S1q⟩
          clear c1 S1
          go_wp2
          go_end0
          have T : ST.turned (ltOf cf) a m b d = d := by unfold ST.turned; rw [hcut.out, ← hmd.out, ← HED.out]; exact if_neg (by omega)
          have HF := HR.out
          rw [hcut.out, ← hmd.out, ← HED.out, T] at HF
          rw [ST.symM_none (ltOf cf) md ed b _ (by omega)] at HF
          rw [HF]
          exact ⟨rfl, S1q⟩
        · have k1 : ¬ (s : Int) < (m : Int) := by omega
          have k3 : (a : Int) < (s : Int) := by omega
          have k4 : ¬ (s : Int) < (md : Int) := by omega
          have k5 : ¬ (md : Int) < (ed : Int) := by omega
          go_wp2
          go_end0
          have T : ST.turned (ltOf cf) a m b d = d := by unfold ST.turned; rw [hcut.out, ← hmd.out, ← HED.out]; exact if_neg (by omega)
          have HF := HR.out
          rw [hcut.out, ← hmd.out, ← HED.out, T] at HF
          rw [ST.symM_none (ltOf cf) a s md _ (by omega)] at HF
          rw [ST.symM_none (ltOf cf) md ed b _ (by omega)] at HF
          rw [HF]
          exact ⟨rfl, S1⟩
end Go.Proofs.YtkbceeobnbbfbaaDoor.RR

/- The stable sort's walks: symMergeCmpFunc at all sizes, stableCmpFunc, SortStableFunc. -/
namespace Go.Proofs.YtkbceeobnbbfbaaDoor.RR
open Go.Shelf Go.RowKit Go.Lib Go.Sort
variable {α : Type} [Inhabited α]

theorem st_sym {P : Program} {k : Nat} (L : StL P k) (enc : α → List Value) (cf : α → α → Int) (g : Nat) (cb : Array Value) (blk off cap : Nat) (d0 : Array α) (w0 : World)
    (eg : ∀ args w, (callFunc g args).run P w = .ok (.enter g args) w) (hcmp : CmpLays P g cb enc k cf blk off d0.size w0) (R : RowK enc k w0 blk off d0) (hsz : d0.size < 4611686018427387904) :
    ∀ (N a m b : Nat) (d : Array α) (w : World), b - a ≤ N → a < m → m < b → b ≤ d0.size → d.size = d0.size → SWK enc k w0 blk off d w →
    Calls P 52 #[.slice (some ⟨blk, off, none⟩) d0.size cap, .int .i64 a, .int .i64 m, .int .i64 b, .func (.func g) #[] cb] w fun e w' =>
      e = .returned (.tuple #[]) ∧ Aside (SWK enc k w0 blk off (ST.symM (ltOf cf) a m b d) w') := by
  intro N
  induction N with
  | zero => intro a m b d w h1 h2 h3; omega
  | succ N ih =>
    intro a m b d w hN ham hmb hb hds S
    by_cases h1 : m - a = 1
    · exact st_sym_left L enc cf g cb blk off cap d0 w0 eg hcmp R hsz a m b d w ham (by omega) hmb hb hds S
    · by_cases h2 : b - m = 1
      · exact st_sym_right L enc cf g cb blk off cap d0 w0 eg hcmp R hsz a m b d w ham h1 hmb (by omega) hb hds S
      · by_cases h3 : m > (a + b) / 2
        · exact st_sym_up L enc cf g cb blk off cap d0 w0 eg hcmp R hsz N ih a m b d w hN ham hmb h1 h2 hb hds h3 S
        · exact st_sym_low L enc cf g cb blk off cap d0 w0 eg hcmp R hsz N ih a m b d w hN ham hmb h1 h2 hb hds h3 S

/-- The kit's contract of the insertion sort, at this program's numbers. -/
def insRen : Go.Shelf.Ren := ⟨fun | 20 => 51 | n => n, fun | 24 => 36 | 22 => 39 | 25 => 94 | n => n, fun n => n⟩
theorem insLays : SlLaysF0.n20 Tryd.prog insRen where
  mixed := by kernel_rfl
  f20 := ⟨"slices.insertionSortCmpFunc[bourne/api.Right]", by kernel_rfl, Tryd.func51.trans (congrArg some (by kernel_rfl))⟩
  t0 := Tryd.underlying0
  a0 := Tryd.isAgg0
  z0 := Tryd.sizeOf0
  v0 := Tryd.zeroValue0
  t3 := Tryd.underlying3
  a3 := Tryd.isAgg3
  z3 := Tryd.sizeOf3
  v3 := Tryd.zeroValue3
  t4 := Tryd.underlying4
  a4 := Tryd.isAgg4
  z4 := Tryd.sizeOf4
  v4 := Tryd.zeroValue4
  t22 := Tryd.underlying39
  a22 := Tryd.isAgg39
  z22 := Tryd.sizeOf39
  v22 := Tryd.zeroValue39
  t25 := Tryd.underlying94
  a25 := Tryd.isAgg94
  z25 := Tryd.sizeOf94
  v25 := Tryd.zeroValue94

/-- The insertion sort, from a world of the sort's to another. -/
theorem st_ins (enc : α → List Value) (cf : α → α → Int) (g : Nat) (cb : Array Value) (blk off cap : Nat) (d0 : Array α) (w0 : World)
    (eg : ∀ args w, (callFunc g args).run Tryd.prog w = .ok (.enter g args) w) (hcmp : CmpLays Tryd.prog g cb enc 9 cf blk off d0.size w0) (R : RowK enc 9 w0 blk off d0) (hsz : d0.size < 4611686018427387904)
    (a b : Nat) (d : Array α) (w : World) (hab : a ≤ b) (hb : b ≤ d0.size) (hds : d.size = d0.size) (S : SWK enc 9 w0 blk off d w) :
    Calls Tryd.prog 51 #[.slice (some ⟨blk, off, none⟩) d0.size cap, .int .i64 a, .int .i64 b, .func (.func g) #[] cb] w fun e w' =>
      e = .returned (.tuple #[]) ∧ Aside (SWK enc 9 w0 blk off (Sort.insertionSort (ltOf cf) d a b) w') := by
  have hH : HoldsK enc 9 w blk off d := S.holds R.hblk R.hH hds
  have hc : CmpLays Tryd.prog g cb enc 9 cf blk off d.size w := fun m os dk hz x y => by
    obtain ⟨n, os', he⟩ := S.on R.hblk m dk os (by omega)
    rw [he]
    exact hcmp n os' dk (by omega) x y
  have := AnyQ.insertionSortCmpFunc insLays 9 Tryd.isAgg36 Tryd.sizeOf36 enc R.hk R.h1 cf g cb blk off cap a b d w eg hc hH (S.lt R.hblk) hab (by omega) (by omega)
  rw [hds] at this
  refine this.mono ?_
  rintro e w' ⟨rfl, n, os, rfl⟩
  exact ⟨rfl, S.on R.hblk n _ os (ST.insertionSort_size (ltOf cf) d a b)⟩
end Go.Proofs.YtkbceeobnbbfbaaDoor.RR

/- The stable sort's walks: stableCmpFunc, SortStableFunc. -/
namespace Go.Proofs.YtkbceeobnbbfbaaDoor.RR
open Go.Shelf Go.RowKit Go.Lib Go.Sort
variable {α : Type} [Inhabited α]

/-- Where the sort stands: the row holds d, of which so much is sorted. -/
def StAt (enc : α → List Value) (cf : α → α → Int) (blk off : Nat) (d0 : Array α) (w0 : World) (P : Array α → Prop) (w : World) : Prop := ∃ d : Array α, P d ∧ SWK enc 9 w0 blk off d w

set_option maxHeartbeats 8000000 in
set_option maxRecDepth 1000000 in
/-- The first pass: blocks of 20. -/
theorem st_stable (enc : α → List Value) (cf : α → α → Int) (g : Nat) (cb : Array Value) (blk off cap : Nat) (d0 : Array α) (w0 : World) (hS : SWO (ltOf cf))
    (eg : ∀ args w, (callFunc g args).run Tryd.prog w = .ok (.enter g args) w) (hcmp : CmpLays Tryd.prog g cb enc 9 cf blk off d0.size w0) (R : RowK enc 9 w0 blk off d0) (hsz : d0.size < 1152921504606846976) :
    Calls Tryd.prog 48 #[.slice (some ⟨blk, off, none⟩) d0.size cap, .int .i64 d0.size, .func (.func g) #[] cb] w0 fun e w' =>
      e = .returned (.tuple #[]) ∧ StAt enc cf blk off d0 w0 (fun d => ST.Stab (ltOf cf) d0.toList d.toList) w' := by
  have CI : Hid (∀ (a b : Nat) (d : Array α) (w : World), a ≤ b → b ≤ d0.size → d.size = d0.size → SWK enc 9 w0 blk off d w →
    Calls Tryd.prog 51 #[.slice (some ⟨blk, off, none⟩) d0.size cap, .int .i64 a, .int .i64 b, .func (.func g) #[] cb] w fun e w' =>
      e = .returned (.tuple #[]) ∧ Aside (SWK enc 9 w0 blk off (Sort.insertionSort (ltOf cf) d a b) w')) := fun a b d w h1 h2 h3 h4 => st_ins enc cf g cb blk off cap d0 w0 eg hcmp R (by omega) a b d w h1 h2 h3 h4
  have CS : Hid (∀ (a m b : Nat) (d : Array α) (w : World), a < m → m < b → b ≤ d0.size → d.size = d0.size → SWK enc 9 w0 blk off d w →
    Calls Tryd.prog 52 #[.slice (some ⟨blk, off, none⟩) d0.size cap, .int .i64 a, .int .i64 m, .int .i64 b, .func (.func g) #[] cb] w fun e w' =>
      e = .returned (.tuple #[]) ∧ Aside (SWK enc 9 w0 blk off (ST.symM (ltOf cf) a m b d) w')) := fun a m b d w h1 h2 h3 h4 h5 => st_sym stL enc cf g cb blk off cap d0 w0 eg hcmp R (by omega) (b - a) a m b d w (Nat.le_refl _) h1 h2 h3 h4 h5
  have S0 : Hid (SWK enc 9 w0 blk off d0 w0) := SWK.start R.hH
  obtain ⟨n, hn⟩ : ∃ n, n = d0.size := ⟨_, rfl⟩
  have HN : Hid (n = d0.size) := hn
  rw [← hn] at CI CS hsz ⊢
  clear hcmp hn
  go_enter Tryd.func48, Tryd.ntmps48
  go_wp2_with fail
  go_loopg [7, 8] n (fun gq s7 s8 wr => ∃ (q x : Nat) (d : Array α), s7 = .int .i64 x ∧ s8 = .int .i64 ((x + 20 : Nat) : Int) ∧ x ≤ n ∧ n - x ≤ gq ∧ Hid (x = q * 20) ∧ Hid (ST.Done (ltOf cf) d0 d 20 (q * 20) ∧ ST.Same d0 d (q * 20)) ∧ Hid (SWK enc 9 w0 blk off d wr))
  case atStart => exact ⟨0, 0, d0, rfl, rfl, by omega, by omega, rfl, ⟨ST.done_zero _ _ _, fun _ _ => rfl⟩, S0⟩
  case round =>
    clear S0
    obtain ⟨q, x, d, rfl, rfl, hx, hg, HX, HD, S1⟩ := hrel
    by_cases hlt : x + 20 ≤ n
    · have hltz : (x : Int) + 20 ≤ (n : Int) := by omega
      have c := CI.out x (x + 20) d wr (by omega) hlt (by have := HD.out.1.1; have := HN.out; omega) S1.out
      have K : Hid _ := ST.done_ins (ltOf cf) hS HD.out.1 HD.out.2 (by have := HX.out; have := HN.out; omega) (q * 20 + 20) (by have := HX.out; have := HN.out; omega)
      clear S1 HD
      go_wp2_with fail
      go_at_call 51
      refine c.mono ?_
      rintro e w1 ⟨rfl, T1⟩
      have S2 : Hid _ := T1.out
      clear T1 c
      go_wp2_with fail
      go_roundg (n - (x + 20))
      case measure => omega
      case rel =>
        have hx20 := HX.out
        subst hx20
        exact ⟨q + 1, q * 20 + 20, _, by congr 1, by congr 1 <;> omega, hlt, by omega, (by show _ = _; omega), (by show _ ∧ _; rw [show (q + 1) * 20 = q * 20 + 20 by omega]; exact K.out), S2⟩
    · have hltz : ¬ (x : Int) + 20 ≤ (n : Int) := by omega
      have c := CI.out x n d wr hx (Nat.le_refl _) (by have := HD.out.1.1; have := HN.out; omega) S1.out
      have K : Hid (ST.Done (ltOf cf) d0 (Sort.insertionSort (ltOf cf) d x n) 20 d0.size) := by
        have hx20 := HX.out
        have hn0 := HN.out
        subst hx20
        exact ST.done_end _ (ST.done_ins (ltOf cf) hS HD.out.1 HD.out.2 (by omega) n (by omega)).1 (by omega)
      clear S1 HD
      go_wp2_with fail
      go_at_call 51
      refine c.mono ?_
      rintro e w1 ⟨rfl, T1⟩
      have S2 : Hid _ := T1.out
      clear T1 c HX hg hlt hltz
      generalize Sort.insertionSort (ltOf cf) d x n = dI at K S2
      go_wp2_with fail
      go_loopg [6] n (fun gq s6 wr => ∃ (bs : Nat) (d : Array α), s6 = .int .i64 bs ∧ 0 < bs ∧ bs ≤ 2 * n + 20 ∧ n - bs ≤ gq ∧ Hid (ST.Done (ltOf cf) d0 d bs d0.size) ∧ Hid (SWK enc 9 w0 blk off d wr))
      case atStart => exact ⟨20, dI, rfl, by omega, by omega, by omega, K, S2⟩
      case round =>
        clear K S2
        obtain ⟨bs, d, rfl, hb0, hbn, hg, K, S2⟩ := hrel
        by_cases hbs : bs < n
        · have hbz : (bs : Int) < (n : Int) := by omega
          have KR : Hid (ST.Rest (ltOf cf) d0 d bs 0) := ST.done_rest _ K.out
          have KS : Hid (d.size = d0.size) := K.out.1
          clear K
          go_wp2_with fail
          go_loopg [7, 8] n (fun gq s7 s8 wr => ∃ (q x : Nat) (d : Array α), s7 = .int .i64 x ∧ s8 = .int .i64 ((x : Int) + 2 * (bs : Int)) ∧ x ≤ n ∧ n - x ≤ gq ∧ Hid (x = q * (2 * bs)) ∧ Hid (ST.Done (ltOf cf) d0 d (2 * bs) (q * (2 * bs)) ∧ ST.Rest (ltOf cf) d0 d bs (q * (2 * bs))) ∧ Hid (SWK enc 9 w0 blk off d wr))
          case atStart => exact ⟨0, 0, d, rfl, by congr 1 <;> omega, by omega, by omega, (by show _ = _; simp), (by show _ ∧ _; rw [Nat.zero_mul]; exact ⟨⟨KS.out, fun _ h _ => absurd h (by omega)⟩, KR.out⟩), S2⟩
          case round =>
            clear S2 KR KS
            obtain ⟨q, x, d, rfl, rfl, hx, hg2, HX, HD, S2⟩ := hrel
            have HZ : d.size = n := by have := HD.out.1.1; have := HN.out; omega
            have HZ' : Hid _ := HZ
            clear HZ
            by_cases hlt : x + 2 * bs ≤ n
            · have hltz : (x : Int) + 2 * (bs : Int) ≤ (n : Int) := by omega
              have c := CS.out x (x + bs) (x + 2 * bs) d wr (by omega) (by omega) hlt (by have := HZ'.out; have := HN.out; omega) S2.out
              have K : Hid _ := ST.done_merge (ltOf cf) hS HD.out.1 HD.out.2 (q * (2 * bs) + bs) (q * (2 * bs) + 2 * bs) rfl (by have := HX.out; have := HN.out; omega) (by have := HX.out; have := HN.out; omega)
              clear S2 HD HZ'
              go_wp2_with fail
              go_at_call 52
              refine c.mono ?_
              rintro e w1 ⟨rfl, T1⟩
              have S3 : Hid _ := T1.out
              clear T1 c
              go_wp2_with fail
              go_roundg (n - (x + 2 * bs))
              case measure => omega
              case rel =>
                have hx20 := HX.out
                subst hx20
                exact ⟨q + 1, q * (2 * bs) + 2 * bs, _, by congr 1 <;> simp, by congr 1 <;> omega, hlt, by omega, (by show _ = _; rw [Nat.add_mul, Nat.one_mul]), (by show _ ∧ _; rw [Nat.add_mul, Nat.one_mul]; exact K.out), S3⟩
            · have hltz : ¬ (x : Int) + 2 * (bs : Int) ≤ (n : Int) := by omega
              by_cases hm : x + bs < n
              · have hmz : (x : Int) + (bs : Int) < (n : Int) := by omega
                have c := CS.out x (x + bs) n d wr (by omega) hm (Nat.le_refl _) (by have := HZ'.out; have := HN.out; omega) S2.out
                have K : Hid (ST.Done (ltOf cf) d0 (ST.symM (ltOf cf) x (x + bs) n d) (2 * bs) d0.size) := by
                  have hx20 := HX.out
                  have hn0 := HN.out
                  subst hx20
                  exact ST.done_end _ (ST.done_merge (ltOf cf) hS HD.out.1 HD.out.2 (q * (2 * bs) + bs) n rfl (by omega) (by omega)).1 (by omega)
                clear S2 HD HZ'
                go_wp2_with fail
                go_at_call 52
                refine c.mono ?_
                rintro e w1 ⟨rfl, T1⟩
                have S3 : Hid _ := T1.out
                clear T1 c
                go_wp2_with fail
                go_roundg (n - 2 * bs)
                case measure => omega
                case rel => exact ⟨2 * bs, _, by congr 1 <;> omega, by omega, by omega, by omega, K, S3⟩
              · have hmz : ¬ (x : Int) + (bs : Int) < (n : Int) := by omega
                have K : Hid (ST.Done (ltOf cf) d0 d (2 * bs) d0.size) := ST.done_tail _ HD.out.1 HD.out.2 (by have := HX.out; have := HN.out; omega)
                clear HD HZ'
                go_wp2_with fail
                go_roundg (n - 2 * bs)
                case measure => omega
                case rel => exact ⟨2 * bs, _, by congr 1 <;> omega, by omega, by omega, by omega, K, S2⟩
        · have hbz : ¬ (bs : Int) < (n : Int) := by omega
          go_wp2_with fail
          go_end0
          exact ⟨rfl, d, ST.done_all _ K.out (by have := HN.out; omega), S2.out⟩

set_option maxHeartbeats 1000000 in
/-- The stable sort: the row holds what it held, ascending, equals in their order. -/
theorem st_sort (enc : α → List Value) (cf : α → α → Int) (g : Nat) (cb : Array Value) (blk off cap : Nat) (d0 : Array α) (w0 : World) (hS : SWO (ltOf cf))
    (eg : ∀ args w, (callFunc g args).run Tryd.prog w = .ok (.enter g args) w) (hcmp : CmpLays Tryd.prog g cb enc 9 cf blk off d0.size w0) (R : RowK enc 9 w0 blk off d0) (hsz : d0.size < 1152921504606846976) :
    Calls Tryd.prog 36 #[.slice (some ⟨blk, off, none⟩) d0.size cap, .func (.func g) #[] cb] w0 fun e w' =>
      e = .returned (.tuple #[]) ∧ StAt enc cf blk off d0 w0 (fun d => ST.Stab (ltOf cf) d0.toList d.toList) w' := by
  have c := st_stable enc cf g cb blk off cap d0 w0 hS eg hcmp R hsz
  clear hcmp R
  go_enter Tryd.func36, Tryd.ntmps36
  go_wp2_with fail
  go_at_call 48
  refine c.mono ?_
  rintro e w1 ⟨rfl, T1⟩
  have T2 : Hid _ := T1
  clear T1 c
  go_wp2_with fail
  go_end0
  exact ⟨rfl, T2⟩
end Go.Proofs.YtkbceeobnbbfbaaDoor.RR

/- Plain laws of the roster. -/
set_option linter.unusedSectionVars false
namespace Go.Proofs.YtkbceeobnbbfbaaDoor.RR
open CM
namespace RG
theorem pick_is : ∀ (L : List Dl) (b : Option Dl), (L.foldl pick b = b ∧ (L = [] ∨ b.isSome)) ∨ ∃ d ∈ L, L.foldl pick b = some d
  | [], b => .inl ⟨rfl, .inl rfl⟩
  | d :: L, b => by
    rw [List.foldl_cons]
    rcases pick_is L (pick b d) with ⟨h, _⟩ | ⟨x, hx, h⟩
    · rw [h]
      cases b with
      | none => exact .inr ⟨d, List.mem_cons_self .., rfl⟩
      | some y =>
        by_cases g : y.known ≤ d.known
        · exact .inr ⟨d, List.mem_cons_self .., by simp [pick, g]⟩
        · exact .inl ⟨by simp [pick, g], .inr rfl⟩
    · exact .inr ⟨x, List.mem_cons_of_mem _ hx, h⟩
theorem lastOf_mem {k i : Int} {K : List Dl} {d : Dl} (h : lastOf k i K = some d) : d ∈ K ∧ d.kind = k ∧ d.right.id = i := by
  unfold lastOf at h
  have hm : d ∈ K.filter (fun d => decide (d.kind = k) && decide (d.right.id = i)) := by
    rcases pick_is (K.filter (fun d => decide (d.kind = k) && decide (d.right.id = i))) none with ⟨e, _⟩ | ⟨x, hx, e⟩
    · rw [e] at h; cases h
    · rw [e] at h; cases h; exact hx
  rw [List.mem_filter] at hm
  simpa using hm
theorem lastOf_none {k i : Int} {K : List Dl} (h : lastOf k i K = none) : ∀ d ∈ K, ¬ (d.kind = k ∧ d.right.id = i) := by
  intro d hd hk
  unfold lastOf at h
  have hm : d ∈ K.filter (fun d => decide (d.kind = k) && decide (d.right.id = i)) := List.mem_filter.2 ⟨hd, by simp [hk]⟩
  rcases pick_is (K.filter (fun d => decide (d.kind = k) && decide (d.right.id = i))) none with ⟨e, e2⟩ | ⟨x, hx, e⟩
  · rcases e2 with e2 | e2
    · rw [e2] at hm; cases hm
    · cases e2
  · rw [e] at h; cases h
theorem lastOf_snoc (k i : Int) (K : List Dl) (d : Dl) : lastOf k i (K ++ [d]) = if d.kind = k ∧ d.right.id = i then pick (lastOf k i K) d else lastOf k i K := by
  unfold lastOf
  rw [List.filter_append, List.foldl_append]
  by_cases h : d.kind = k ∧ d.right.id = i
  · rw [if_pos h]; simp [List.filter, h]
  · rw [if_neg h]
    have : (decide (d.kind = k) && decide (d.right.id = i)) = false := by rw [Bool.and_eq_false_iff]; simp; simp at h; by_cases g : d.kind = k; exact .inr (h g); exact .inl g
    simp [List.filter, this]
def gstep (g : List Rt) (d : Dl) : List Rt := if d.kind = 0 ∧ d.right.id ∉ g.map (·.id) then g ++ [d.right] else g
theorem grantsOf_eq (K : List Dl) : grantsOf K = K.foldl gstep [] := rfl
theorem grantsOf_snoc (K : List Dl) (d : Dl) : grantsOf (K ++ [d]) = if d.kind = 0 ∧ d.right.id ∉ (grantsOf K).map (·.id) then grantsOf K ++ [d.right] else grantsOf K := by
  rw [grantsOf_eq, List.foldl_append]; rfl
theorem gfold_spec : ∀ (K : List Dl) (g : List Rt), (g.map (·.id)).Nodup → ((K.foldl gstep g).map (·.id)).Nodup ∧ (∀ r ∈ K.foldl gstep g, r ∈ g ∨ ∃ d ∈ K, d.kind = 0 ∧ d.right = r) ∧ (K.foldl gstep g).length ≤ g.length + K.length
  | [], g, h => ⟨h, fun r hr => .inl hr, by simp⟩
  | d :: K, g, h => by
    rw [List.foldl_cons]
    have h1 : ((gstep g d).map (·.id)).Nodup := by
      unfold gstep
      split
      · rename_i q
        rw [List.map_append]
        exact List.nodup_append.2 ⟨h, by simp, fun a ha b hb e => by simp at hb; subst hb; subst e; exact q.2 ha⟩
      · exact h
    have h2 : (gstep g d).length ≤ g.length + 1 := by unfold gstep; split <;> simp
    obtain ⟨a, b, c⟩ := gfold_spec K (gstep g d) h1
    refine ⟨a, fun r hr => ?_, by rw [List.length_cons]; omega⟩
    rcases b r hr with q | ⟨x, hx, q⟩
    · unfold gstep at q
      split at q
      · rename_i q2
        rcases List.mem_append.1 q with q | q
        · exact .inl q
        · simp at q; subst q; exact .inr ⟨d, List.mem_cons_self .., q2.1, rfl⟩
      · exact .inl q
    · exact .inr ⟨x, List.mem_cons_of_mem _ hx, q⟩
theorem grantsOf_nodup (K : List Dl) : ((grantsOf K).map (·.id)).Nodup := (gfold_spec K [] (by simp)).1
theorem grantsOf_mem {K : List Dl} {r : Rt} (h : r ∈ grantsOf K) : ∃ d ∈ K, d.kind = 0 ∧ d.right = r := by
  rcases (gfold_spec K [] (by simp)).2.1 r h with q | q
  · cases q
  · exact q
theorem grantsOf_len (K : List Dl) : (grantsOf K).length ≤ K.length := by have := (gfold_spec K [] (by simp)).2.2; rw [List.length_nil, Nat.zero_add] at this; exact this
theorem changed_id (K : List Dl) (r : Rt) : (changed K r).id = r.id := rfl
/-- The stable sort of what is left of a list. -/
theorem order_filter (p : Rt → Bool) (A : List Rt) : (orderR A).filter p = orderR (A.filter p) := by
  have h := ST.insSort_stab ltR swoR A
  refine ST.Stab.eq ltR swoR (l := A.filter p) ⟨h.perm.filter p, List.Pairwise.sublist List.filter_sublist h.asc, fun e => ?_⟩ (ST.insSort_stab ltR swoR _)
  rw [List.filter_filter, List.filter_filter]
  have := congrArg (List.filter p) (h.keep e)
  rw [List.filter_filter, List.filter_filter] at this
  simpa [Bool.and_comm, orderR] using this
theorem order_perm (A : List Rt) : (orderR A).Perm A := (ST.insSort_stab ltR swoR A).perm
theorem order_len (A : List Rt) : (orderR A).length = A.length := (order_perm A).length_eq
theorem order_asc {A : List Rt} {i j : Nat} {x y : Rt} (hij : i < j) (hx : (orderR A)[i]? = some x) (hy : (orderR A)[j]? = some y) : x.date < y.date ∨ (x.date = y.date ∧ x.id ≤ y.id) := by
  have ha := (ST.insSort_stab ltR swoR A).asc
  obtain ⟨h1, e1⟩ := List.getElem?_eq_some_iff.1 hx
  obtain ⟨h2, e2⟩ := List.getElem?_eq_some_iff.1 hy
  have := List.pairwise_iff_getElem.1 ha i j h1 h2 hij
  unfold orderR at e1 e2
  rw [e1, e2] at this
  unfold ltR at this
  simp at this
  omega
theorem order_twice (A : List Rt) : orderR (orderR A) = orderR A :=
  ST.Stab.eq ltR swoR (ST.insSort_stab ltR swoR _) (ST.Stab.refl ltR (ST.insSort_stab ltR swoR A).asc)
section
variable {no np : Nat} {day known : Int} {l : List Dl}
theorem counted_mem {d : Dl} : d ∈ counted no np day known l ↔ d ∈ l ∧ d.known ≤ known ∧ appB no np day d = true := by
  unfold counted; rw [List.mem_filter]; simp
theorem roster_ids : ((rosterR no np day known l).map (·.id)).Nodup := by
  have h : ((rowsR day (counted no np day known l)).map (·.id)).Nodup := by
    unfold rowsR
    rw [List.map_map]
    have : ((fun x => x.id) ∘ changed (counted no np day known l)) = (fun r : Rt => r.id) := rfl
    rw [this]
    exact List.Nodup.sublist (List.Sublist.map _ List.filter_sublist) (grantsOf_nodup _)
  exact ((order_perm _).map (·.id)).nodup_iff.2 h
theorem roster_len : (rosterR no np day known l).length ≤ l.length := by
  unfold rosterR
  rw [order_len]
  unfold rowsR
  rw [List.length_map]
  refine Nat.le_trans (List.length_filter_le _ _) (Nat.le_trans (grantsOf_len _) ?_)
  unfold counted
  exact List.length_filter_le _ _
theorem wit_iff {n a b : Int} : wit n a b = true ↔ a ≤ n ∧ n ≤ b := by simp [wit]
/-- What each right of the roster is. -/
theorem roster_row {r : Rt} (h : r ∈ rosterR no np day known l) : ∃ K q, K = counted no np day known l ∧ q ∈ grantsOf K ∧ seasonB q day = true ∧ endedB K q.id = false ∧ r = changed K q := by
  have := (order_perm _).mem_iff.1 h
  unfold rowsR at this
  obtain ⟨q, hq, rfl⟩ := List.mem_map.1 this
  rw [List.mem_filter] at hq
  obtain ⟨h1, h2⟩ := hq
  rw [Bool.and_eq_true] at h2
  exact ⟨_, q, rfl, h1, h2.1, by simpa using h2.2, rfl⟩
theorem app0 {d : Dl} (h : appB no np day d = true) (hk : d.kind = 0) : rightB no np d.right = true := by
  unfold appB at h; rw [if_pos hk] at h; exact h
theorem app1 {d : Dl} (h : appB no np day d = true) (hk : d.kind = 1) : wit d.right.owner 0 (no - 1) = true ∧ d.from1 ≤ day ∧ day ≤ d.until1 := by
  unfold appB at h; rw [if_neg (by omega), if_pos hk] at h; simpa [Bool.and_eq_true] using h
theorem app2 {d : Dl} (h : appB no np day d = true) (hk : d.kind = 2) : wit d.right.place 0 (np - 1) = true ∧ d.from1 ≤ day ∧ day ≤ d.until1 := by
  unfold appB at h; rw [if_neg (by omega), if_neg (by omega), if_pos hk] at h; simpa [Bool.and_eq_true] using h
theorem right_parts {r : Rt} : rightB no np r = true ↔ (wit r.id 0 2147483647 = true ∧ wit r.date 0 1125899906842624 = true ∧ wit r.rate 0 1125899906842624 = true ∧ wit r.owner 0 (no - 1) = true ∧ wit r.place 0 (np - 1) = true ∧ wit r.back 0 1000 = true ∧
    (wit r.backTo 0 (np - 1) || (decide (r.backTo = -1) && decide (r.back = 0))) = true ∧ mdB r.from1 = true ∧ mdB r.until1 = true) := by
  unfold rightB
  rw [Bool.and_eq_true, Bool.and_eq_true, Bool.and_eq_true, Bool.and_eq_true, Bool.and_eq_true, Bool.and_eq_true, Bool.and_eq_true, Bool.and_eq_true]
  constructor
  · rintro ⟨⟨⟨⟨⟨⟨⟨⟨a, b⟩, c⟩, d⟩, e⟩, f⟩, g⟩, h⟩, i⟩; exact ⟨a, b, c, d, e, f, g, h, i⟩
  · rintro ⟨a, b, c, d, e, f, g, h, i⟩; exact ⟨⟨⟨⟨⟨⟨⟨⟨a, b⟩, c⟩, d⟩, e⟩, f⟩, g⟩, h⟩, i⟩
theorem roster_right {r : Rt} (h : r ∈ rosterR no np day known l) : rightB no np r = true ∧ seasonB r day = true := by
  obtain ⟨K, q, rfl, hq, hs, he, rfl⟩ := roster_row h
  obtain ⟨d, hd, hk, rfl⟩ := grantsOf_mem hq
  have hd2 := counted_mem.1 hd
  obtain ⟨p1, p2, p3, p4, p5, p6, p7, p8, p9⟩ := right_parts.1 (app0 hd2.2.2 hk)
  refine ⟨right_parts.2 ⟨p1, p2, p3, ?_, ?_, p6, p7, p8, p9⟩, hs⟩
  · unfold changed
    simp only
    cases hx : lastOf 1 d.right.id (counted no np day known l) with
    | none => exact p4
    | some x =>
      obtain ⟨m1, m2, _⟩ := lastOf_mem hx
      exact (app1 (counted_mem.1 m1).2.2 m2).1
  · unfold changed
    simp only
    cases hx : lastOf 2 d.right.id (counted no np day known l) with
    | none => exact p5
    | some x =>
      obtain ⟨m1, m2, _⟩ := lastOf_mem hx
      exact (app2 (counted_mem.1 m1).2.2 m2).1
/-- No known deal has ended it. -/
theorem roster_lives {r : Rt} (h : r ∈ rosterR no np day known l) {d : Dl} (hd : d ∈ l) (h1 : d.known ≤ known) (h2 : d.right.id = r.id) : ¬ (d.kind = 3 ∧ d.from1 ≤ day) := by
  rintro ⟨h3, h4⟩
  obtain ⟨K, q, rfl, hq, hs, he, rfl⟩ := roster_row h
  have hd2 : d ∈ counted no np day known l := counted_mem.2 ⟨hd, h1, by unfold appB; rw [if_neg (by omega), if_neg (by omega), if_neg (by omega), if_pos h3]; simpa using h4⟩
  unfold endedB at he
  have : lastOf 3 q.id (counted no np day known l) = none := by simpa using he
  exact lastOf_none this d hd2 ⟨h3, h2⟩
/-- It was granted, and sold and moved at most. -/
theorem roster_from {r : Rt} (h : r ∈ rosterR no np day known l) :
    (∃ d ∈ l, d.known ≤ known ∧ d.right.id = r.id ∧ d.kind = 0 ∧ { d.right with owner := r.owner, place := r.place } = r) ∧
    (∃ d ∈ l, d.known ≤ known ∧ d.right.id = r.id ∧ d.right.owner = r.owner ∧ (d.kind = 0 ∨ (d.kind = 1 ∧ d.from1 ≤ day ∧ day ≤ d.until1))) ∧
    (∃ d ∈ l, d.known ≤ known ∧ d.right.id = r.id ∧ d.right.place = r.place ∧ (d.kind = 0 ∨ (d.kind = 2 ∧ d.from1 ≤ day ∧ day ≤ d.until1))) := by
  obtain ⟨K, q, rfl, hq, hs, he, rfl⟩ := roster_row h
  obtain ⟨d, hd, hk, rfl⟩ := grantsOf_mem hq
  have hd2 := counted_mem.1 hd
  refine ⟨⟨d, hd2.1, hd2.2.1, rfl, hk, rfl⟩, ?_, ?_⟩
  · cases hx : lastOf 1 d.right.id (counted no np day known l) with
    | none => exact ⟨d, hd2.1, hd2.2.1, rfl, by simp [changed, hx], .inl hk⟩
    | some x =>
      obtain ⟨m1, m2, m3⟩ := lastOf_mem hx
      have hm := counted_mem.1 m1
      exact ⟨x, hm.1, hm.2.1, m3, by simp [changed, hx], .inr ⟨m2, (app1 hm.2.2 m2).2⟩⟩
  · cases hx : lastOf 2 d.right.id (counted no np day known l) with
    | none => exact ⟨d, hd2.1, hd2.2.1, rfl, by simp [changed, hx], .inl hk⟩
    | some x =>
      obtain ⟨m1, m2, m3⟩ := lastOf_mem hx
      have hm := counted_mem.1 m1
      exact ⟨x, hm.1, hm.2.1, m3, by simp [changed, hx], .inr ⟨m2, (app2 hm.2.2 m2).2⟩⟩
/-- In ascending order, by different Ids. -/
theorem roster_asc {i j : Nat} {x y : Rt} (hij : i < j) (hx : (rosterR no np day known l)[i]? = some x) (hy : (rosterR no np day known l)[j]? = some y) :
    (x.date < y.date ∨ (x.date = y.date ∧ x.id < y.id)) ∧ x.id ≠ y.id := by
  have h := order_asc hij hx hy
  have hne : x.id ≠ y.id := fun e => by
    have hn := roster_ids (no := no) (np := np) (day := day) (known := known) (l := l)
    obtain ⟨h1, e1⟩ := List.getElem?_eq_some_iff.1 hx
    obtain ⟨h2, e2⟩ := List.getElem?_eq_some_iff.1 hy
    have := List.pairwise_iff_getElem.1 hn i j (by simpa using h1) (by simpa using h2) hij
    simp [e1, e2] at this
    exact this e
  exact ⟨by omega, hne⟩
theorem counted_snoc (d : Dl) : counted no np day known (l ++ [d]) = counted no np day known l ++ (if d.known ≤ known ∧ appB no np day d = true then [d] else []) := by
  unfold counted
  rw [List.filter_append]
  congr 1
  by_cases h1 : d.known ≤ known <;> cases h2 : appB no np day d <;> simp [List.filter, h1, h2]
/-- A deal that becomes known later. -/
theorem roster_later {d : Dl} (h : known < d.known) : rosterR no np day known (l ++ [d]) = rosterR no np day known l := by
  unfold rosterR
  rw [counted_snoc, if_neg (by omega), List.append_nil]
theorem lastOf_other {k i : Int} {K : List Dl} {d : Dl} (h : d.right.id ≠ i) : lastOf k i (K ++ [d]) = lastOf k i K := by
  rw [lastOf_snoc, if_neg (fun e => h e.2)]
theorem changed_other {K : List Dl} {d : Dl} {r : Rt} (h : r.id ≠ d.right.id) : changed (K ++ [d]) r = changed K r := by
  unfold changed; rw [lastOf_other (fun e => h e.symm), lastOf_other (fun e => h e.symm)]
theorem ended_other {K : List Dl} {d : Dl} {i : Int} (h : i ≠ d.right.id) : endedB (K ++ [d]) i = endedB K i := by
  unfold endedB; rw [lastOf_other (fun e => h e.symm)]
theorem filter_map_ne {f g : Rt → Rt} (hf : ∀ r, (f r).id = r.id) (hg : ∀ r, (g r).id = r.id) {x : Int} {A B : List Rt} (hAB : A.filter (fun r => decide (r.id ≠ x)) = B.filter (fun r => decide (r.id ≠ x))) (hfg : ∀ r, r.id ≠ x → f r = g r) :
    (A.map f).filter (fun r => decide (r.id ≠ x)) = (B.map g).filter (fun r => decide (r.id ≠ x)) := by
  rw [List.filter_map, List.filter_map]
  have e1 : ((fun r : Rt => decide (r.id ≠ x)) ∘ f) = (fun r : Rt => decide (r.id ≠ x)) := by funext r; simp [hf]
  have e2 : ((fun r : Rt => decide (r.id ≠ x)) ∘ g) = (fun r : Rt => decide (r.id ≠ x)) := by funext r; simp [hg]
  rw [e1, e2, hAB]
  refine List.map_congr_left fun r hr => hfg r ?_
  have := (List.mem_filter.1 hr).2
  simpa using this
theorem rows_others {K : List Dl} {d : Dl} : (rowsR day (K ++ [d])).filter (fun r => decide (r.id ≠ d.right.id)) = (rowsR day K).filter (fun r => decide (r.id ≠ d.right.id)) := by
  unfold rowsR
  refine filter_map_ne (f := changed (K ++ [d])) (g := changed K) (fun _ => rfl) (fun _ => rfl) ?_ (fun r hr => changed_other hr)
  rw [List.filter_filter, List.filter_filter]
  have hg : (grantsOf (K ++ [d])).filter (fun r => decide (r.id ≠ d.right.id)) = (grantsOf K).filter (fun r => decide (r.id ≠ d.right.id)) := by
    rw [grantsOf_snoc]
    split
    · rw [List.filter_append]; simp [List.filter]
    · rfl
  have key : ∀ (A : List Rt) (p q : Rt → Bool), A.filter (fun r => p r && q r) = (A.filter p).filter q := fun A p q => by rw [List.filter_filter]; congr 1; funext r; exact Bool.and_comm _ _
  rw [key _ (fun r => decide (r.id ≠ d.right.id)) (fun r => seasonB r day && !endedB (K ++ [d]) r.id), key _ (fun r => decide (r.id ≠ d.right.id)) (fun r => seasonB r day && !endedB K r.id), hg]
  refine List.filter_congr fun r hr => ?_
  have := (List.mem_filter.1 hr).2
  rw [ended_other (by simpa using this)]
theorem roster_others {d : Dl} : (rosterR no np day known (l ++ [d])).filter (fun r => decide (r.id ≠ d.right.id)) = (rosterR no np day known l).filter (fun r => decide (r.id ≠ d.right.id)) := by
  unfold rosterR
  rw [order_filter, order_filter, counted_snoc]
  congr 1
  split
  · exact rows_others
  · rw [List.append_nil]
/-- A deal that ends its right. -/
theorem roster_ended {d : Dl} (h0 : d.known ≤ known) (h1 : d.kind = 3) (h2 : d.from1 ≤ day) : (rosterR no np day known (l ++ [d])).filter (fun r => decide (r.id ≠ d.right.id)) = rosterR no np day known (l ++ [d]) := by
  rw [List.filter_eq_self]
  intro r hr
  rw [decide_eq_true_iff]
  intro e
  exact roster_lives hr (d := d) (by simp) h0 e.symm ⟨h1, h2⟩
theorem ids_split (A : List Rt) (h : (A.map (·.id)).Nodup) (x : Int) : A.length ≤ (A.filter (fun r => decide (r.id ≠ x))).length + 1 := by
  induction A with
  | nil => simp
  | cons r A ih =>
    rw [List.map_cons, List.nodup_cons] at h
    by_cases e : r.id = x
    · have : A.filter (fun r => decide (r.id ≠ x)) = A := List.filter_eq_self.2 fun q hq => by
        rw [decide_eq_true_iff]; intro e2; exact h.1 (List.mem_map.2 ⟨q, hq, by rw [e2, e]⟩)
      rw [List.filter_cons, if_neg (by simp [e]), this]; simp
    · rw [List.filter_cons, if_pos (by simp [e])]
      have := ih h.2
      simp only [List.length_cons]; omega
theorem roster_one {d : Dl} : (rosterR no np day known (l ++ [d])).length ≤ (rosterR no np day known l).length + 1 := by
  have h1 := ids_split _ (roster_ids (no := no) (np := np) (day := day) (known := known) (l := l ++ [d])) d.right.id
  rw [roster_others] at h1
  have h2 := List.length_filter_le (fun r : Rt => decide (r.id ≠ d.right.id)) (rosterR no np day known l)
  omega
theorem pick_swap {b : Option Dl} {c d : Dl} (h : c.known ≠ d.known) : pick (pick b c) d = pick (pick b d) c := by
  cases b with
  | none => unfold pick; simp only; by_cases g : c.known ≤ d.known
            · rw [if_pos g, if_neg (by omega)]
            · rw [if_neg g, if_pos (by omega)]
  | some x =>
    unfold pick
    simp only
    by_cases g1 : x.known ≤ c.known <;> by_cases g2 : x.known ≤ d.known <;> by_cases g3 : c.known ≤ d.known <;> by_cases g4 : d.known ≤ c.known <;> simp [g1, g2, g3, g4] <;> omega
theorem lastOf_swap {A B : List Dl} {c d : Dl} (h : c.known ≠ d.known) (k i : Int) : lastOf k i (A ++ c :: d :: B) = lastOf k i (A ++ d :: c :: B) := by
  unfold lastOf
  rw [List.filter_append, List.filter_append, List.foldl_append, List.foldl_append]
  cases h1 : (decide (c.kind = k) && decide (c.right.id = i)) <;> cases h2 : (decide (d.kind = k) && decide (d.right.id = i)) <;> simp [List.filter, h1, h2]
  rw [pick_swap h]
theorem grants_swap {A B : List Dl} {c d : Dl} (h : ¬ (c.kind = 0 ∧ d.kind = 0)) : grantsOf (A ++ c :: d :: B) = grantsOf (A ++ d :: c :: B) := by
  rw [grantsOf_eq, grantsOf_eq, List.foldl_append, List.foldl_append]
  simp only [List.foldl_cons]
  congr 1
  by_cases h1 : c.kind = 0
  · have h2 : ¬ d.kind = 0 := fun e => h ⟨h1, e⟩
    simp [gstep, h2]
  · simp [gstep, h1]
theorem rows_swap {A B : List Dl} {c d : Dl} (h : c.known ≠ d.known) (h0 : ¬ (c.kind = 0 ∧ d.kind = 0)) : rowsR day (A ++ c :: d :: B) = rowsR day (A ++ d :: c :: B) := by
  unfold rowsR
  rw [grants_swap h0]
  have e1 : ∀ i, endedB (A ++ c :: d :: B) i = endedB (A ++ d :: c :: B) i := fun i => by unfold endedB; rw [lastOf_swap h]
  have e2 : changed (A ++ c :: d :: B) = changed (A ++ d :: c :: B) := by funext r; unfold changed; rw [lastOf_swap h, lastOf_swap h]
  simp only [e1, e2]
/-- Two neighbours exchanged. -/
theorem roster_swap {A B : List Dl} {c d : Dl} (h : c.known ≠ d.known) (h0 : ¬ (c.kind = 0 ∧ d.kind = 0)) : rosterR no np day known (A ++ c :: d :: B) = rosterR no np day known (A ++ d :: c :: B) := by
  unfold rosterR counted
  rw [List.filter_append, List.filter_append]
  congr 1
  cases h1 : (decide (c.known ≤ known) && appB no np day c) <;> cases h2 : (decide (d.known ≤ known) && appB no np day d) <;> simp only [List.filter, h1, h2]
  exact rows_swap h h0
/-- The deals that are known early are enough. -/
theorem roster_early : rosterR no np day known (l.filter (fun d => decide (d.known ≤ known))) = rosterR no np day known l := by
  unfold rosterR counted
  rw [List.filter_filter]
  congr 3
  funext d
  cases h : decide (d.known ≤ known) <;> simp
end
end RG
end Go.Proofs.YtkbceeobnbbfbaaDoor.RR

