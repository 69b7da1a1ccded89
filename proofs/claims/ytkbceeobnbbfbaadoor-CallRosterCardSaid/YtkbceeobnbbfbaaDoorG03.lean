/- Joined of: SW1 SW2 SW3. -/
import Derived.Shelf.SlSortCmp.KitK
import Derived.Deep.LoopGhost
import Derived.Test.YtkbceeobnbbfbaaDoorChecked
import Derived.Test.YtkbceeobnbbfbaaDoorG02
/- The stable sort's walks: swapRangeCmpFunc, rotateCmpFunc. -/
set_option linter.unusedSimpArgs false
set_option linter.unusedVariables false
namespace Go.Proofs.YtkbceeobnbbfbaaDoor.RR
open Go.Shelf Go.RowKit Go.Lib Go.Sort

/-- What the sort's walks lean on. -/
structure StL (P : Program) (k : Nat) : Prop where
  mixed : P.follows .mixedOrders = true
  fSw : P.funcs[54]? = some Tryd.f54
  fRo : P.funcs[53]? = some Tryd.f53
  fSy : P.funcs[52]? = some Tryd.f52
  cSw : ∀ args w, (callFunc 54 args).run P w = .ok (.enter 54 args) w
  cRo : ∀ args w, (callFunc 53 args).run P w = .ok (.enter 53 args) w
  cSy : ∀ args w, (callFunc 52 args).run P w = .ok (.enter 52 args) w
  t0 : P.underlying 0 = some (TypeDesc.tuple #[])
  a0 : ∀ w, (isAgg 0).run P w = .ok false w
  z0 : ∀ w, (Go.sizeOf 0).run P w = .ok 1 w
  v0 : ∀ w, (zeroValue 0).run P w = .ok (Value.tuple #[]) w
  t3 : P.underlying 3 = some (TypeDesc.int IntKind.i64)
  a3 : ∀ w, (isAgg 3).run P w = .ok false w
  z3 : ∀ w, (Go.sizeOf 3).run P w = .ok 1 w
  v3 : ∀ w, (zeroValue 3).run P w = .ok (Value.int IntKind.i64 0) w
  t4 : P.underlying 4 = some TypeDesc.bool
  a4 : ∀ w, (isAgg 4).run P w = .ok false w
  z4 : ∀ w, (Go.sizeOf 4).run P w = .ok 1 w
  v4 : ∀ w, (zeroValue 4).run P w = .ok (Value.bool false) w
  tU : P.underlying 102 = some (TypeDesc.int IntKind.u64)
  aU : ∀ w, (isAgg 102).run P w = .ok false w
  zU : ∀ w, (Go.sizeOf 102).run P w = .ok 1 w
  vU : ∀ w, (zeroValue 102).run P w = .ok (Value.int IntKind.u64 0) w
  tS : P.underlying 39 = some (TypeDesc.slice 36)
  aS : ∀ w, (isAgg 39).run P w = .ok false w
  zS : ∀ w, (Go.sizeOf 39).run P w = .ok 1 w
  aE : ∀ w, (isAgg 36).run P w = .ok true w
  zE : ∀ w, (Go.sizeOf 36).run P w = .ok k w

theorem stL : StL Tryd.prog 9 where
  mixed := by kernel_rfl
  fSw := Tryd.func54
  fRo := Tryd.func53
  fSy := Tryd.func52
  cSw := Tryd.call54
  cRo := Tryd.call53
  cSy := Tryd.call52
  t0 := Tryd.underlying0
  a0 := Tryd.isAgg0
  z0 := Tryd.sizeOf0
  v0 := Tryd.zeroValue0
  t3 := Tryd.underlying3
  a3 := Tryd.isAgg3
  z3 := Tryd.sizeOf3
  v3 := Tryd.zeroValue3
  t4 := Tryd.underlying4
  a4 := Tryd.isAgg4
  z4 := Tryd.sizeOf4
  v4 := Tryd.zeroValue4
  tU := Tryd.underlying102
  aU := Tryd.isAgg102
  zU := Tryd.sizeOf102
  vU := Tryd.zeroValue102
  tS := Tryd.underlying39
  aS := Tryd.isAgg39
  zS := Tryd.sizeOf39
  aE := Tryd.isAgg36
  zE := Tryd.sizeOf36

variable {α : Type} [Inhabited α]

set_option maxHeartbeats 4000000 in
set_option maxRecDepth 1000000 in
/-- n elements from a on are exchanged for those from b on. -/
theorem st_swap {P : Program} {k : Nat} (L : StL P k) (enc : α → List Value) (fv : Value) (blk off cap a b n : Nat) (d0 d : Array α) (w0 w : World)
    (R : RowK enc k w0 blk off d0) (hs : d0.size = d.size) (S : SWK enc k w0 blk off d w) (hab : a + n ≤ b) (hb : b + n ≤ d.size) (hsz : d.size < 4611686018427387904) :
    Calls P 54 #[.slice (some ⟨blk, off, none⟩) d.size cap, .int .i64 a, .int .i64 b, .int .i64 n, fv] w fun e w' =>
      e = .returned (.tuple #[]) ∧ SWK enc k w0 blk off (ST.swapR d a b n) w' := by
  have mixed := L.mixed; have t0 := L.t0; have a0 := L.a0; have z0 := L.z0; have v0 := L.v0; have t3 := L.t3; have a3 := L.a3; have z3 := L.z3; have v3 := L.v3; have t4 := L.t4; have a4 := L.a4; have z4 := L.z4; have v4 := L.v4; have tS := L.tS; have aS := L.aS; have zS := L.zS; have aE := L.aE; have zE := L.zE
  have S0 : Aside _ := S
  clear S
  go_enter L.fSw, Tryd.ntmps54
  go_wp2
  go_loopg [10] n (fun g s wr => ∃ i : Nat, s = .int .i64 i ∧ g + i = n ∧ Aside (SWK enc k w0 blk off (ST.swapR d a b i) wr))
  case atStart => exact ⟨0, rfl, by omega, S0⟩
  case round =>
    clear S0
    obtain ⟨i, rfl, hi, S1⟩ := hrel
    have hds : (ST.swapR d a b i).size = d.size := ST.size_swapR d a b i
    by_cases hlt : i < n
    · have hltz : (i : Int) < (n : Int) := by omega
      go_wp2_with fail
      have ea : ((a : Int) + (i : Int)).toNat = a + i := by omega
      have pa : (0 : Int) ≤ (a : Int) + (i : Int) := by omega
      have ba : (a : Int) + (i : Int) < (d.size : Int) := by omega
      have ra : IntKind.i64.wrap ((a : Int) + (i : Int)) = (a : Int) + (i : Int) := by rw [IntKind.wrap_i64]; omega
      have ec : ((b : Int) + (i : Int)).toNat = b + i := by omega
      have pc : (0 : Int) ≤ (b : Int) + (i : Int) := by omega
      have bc : (b : Int) + (i : Int) < (d.size : Int) := by omega
      have rc : IntKind.i64.wrap ((b : Int) + (i : Int)) = (b : Int) + (i : Int) := by rw [IntKind.wrap_i64]; omega
      have S2 : Aside (SWK enc k w0 blk off (ST.swapR d a b (i + 1)) ((wr.drew.setCells blk (off + (a + i) * k) (enc (ST.swapR d a b i)[b + i]!)).setCells blk (off + (b + i) * k) (enc (ST.swapR d a b i)[a + i]!))) := S1.out.swapped R (a + i) (b + i) (by omega) (by omega)
      have la := S1.out.ld1 R (by omega) P (a + i) (by omega)
      have lb := S1.out.ld1 R (by omega) P (b + i) (by omega)
      have sa := S1.out.st1 R (by omega) P (a + i) (by omega) (ST.swapR d a b i)[b + i]!
      have sb := S1.out.st2 R (by omega) P (a + i) (b + i) (by omega) (by omega) (ST.swapR d a b i)[b + i]! (ST.swapR d a b i)[a + i]!
      have na : (enc (ST.swapR d a b i)[a + i]!).length = k := R.hk _
      have nb : (enc (ST.swapR d a b i)[b + i]!).length = k := R.hk _
      generalize enc (ST.swapR d a b i)[a + i]! = cI at S2 la sb na
      generalize enc (ST.swapR d a b i)[b + i]! = cJ at S2 lb sa sb nb
      clear S1
      go_big_region_o
      clear la lb sa sb
      generalize (wr.drew.setCells blk (off + (a + i) * k) cJ).setCells blk (off + (b + i) * k) cI = w4 at S2 ⊢
      all_goals go_wp2
      go_roundg (gk - 1)
      case measure => omega
      case rel => exact ⟨i + 1, by go_num, by omega, S2⟩
    · have hltz : ¬ (i : Int) < (n : Int) := by omega
      go_wp2
      go_end0
      have : i = n := by omega
      subst this
      exact ⟨rfl, S1.out⟩

set_option maxHeartbeats 4000000 in
set_option maxRecDepth 1000000 in
/-- The part ahead of m changes its place with the part behind it. -/
theorem st_rot {P : Program} {k : Nat} (L : StL P k) (enc : α → List Value) (fv : Value) (blk off cap a m b : Nat) (d0 d : Array α) (w0 w : World)
    (R : RowK enc k w0 blk off d0) (hs : d0.size = d.size) (S : SWK enc k w0 blk off d w) (ham : a < m) (hmb : m < b) (hb : b ≤ d.size) (hsz : d.size < 4611686018427387904) :
    Calls P 53 #[.slice (some ⟨blk, off, none⟩) d.size cap, .int .i64 a, .int .i64 m, .int .i64 b, fv] w fun e w' =>
      e = .returned (.tuple #[]) ∧ SWK enc k w0 blk off (ST.rot m (m - a) (b - m) d) w' := by
  have mixed := L.mixed; have t0 := L.t0; have a0 := L.a0; have z0 := L.z0; have v0 := L.v0; have t3 := L.t3; have a3 := L.a3; have z3 := L.z3; have v3 := L.v3; have t4 := L.t4; have a4 := L.a4; have z4 := L.z4; have v4 := L.v4; have tS := L.tS; have aS := L.aS; have zS := L.zS
  have cSw := L.cSw
  have S0 : Aside _ := S
  have C : Hid (∀ (a b n : Nat) (e : Array α) (w : World), e.size = d.size → SWK enc k w0 blk off e w → a + n ≤ b → b + n ≤ d.size → Calls P 54 #[.slice (some ⟨blk, off, none⟩) d.size cap, .int .i64 a, .int .i64 b, .int .i64 n, fv] w fun x w' =>
      x = .returned (.tuple #[]) ∧ Aside (SWK enc k w0 blk off (ST.swapR e a b n) w')) := fun a b n e w hs' S' h1 h2 => by
    rw [← hs']
    exact (st_swap L enc fv blk off cap a b n d0 e w0 w R (by omega) S' h1 (by omega) (by omega)).mono fun _ _ h => h
  clear S
  have e1 : ((m - a : Nat) : Int) = (m : Int) - (a : Int) := by omega
  have e2 : ((b - m : Nat) : Int) = (b : Int) - (m : Int) := by omega
  go_enter L.fRo, Tryd.ntmps53
  go_wp2
  go_loopg [10, 11] (b - a) (fun gq s10 s11 wr => ∃ (i j : Nat) (dk : Array α), s10 = .int .i64 i ∧ s11 = .int .i64 j ∧ i + j ≤ gq ∧ 0 < i ∧ 0 < j ∧ i ≤ m - a ∧ m + j ≤ b ∧ dk.size = d.size ∧ Aside (SWK enc k w0 blk off dk wr) ∧ Hid (ST.rot m i j dk = ST.rot m (m - a) (b - m) d))
  case atStart => exact ⟨m - a, b - m, d, by rw [e1], by rw [e2], by omega, by omega, by omega, by omega, by omega, rfl, S0, rfl⟩
  case round =>
    clear S0 e1 e2
    obtain ⟨i, j, dk, rfl, rfl, hg, hi0, hj0, hia, hjb, hds, S1, HE⟩ := hrel
    have hmi : ((m : Int) - (i : Int)) = ((m - i : Nat) : Int) := by omega
    rcases Nat.lt_trichotomy i j with hij | hij | hij
    · have n1 : ((i : Int) != (j : Int)) = true := by simp; omega
      have n2 : ¬ (j : Int) < (i : Int) := by omega
      have hmj : ((m : Int) + (j : Int) - (i : Int)) = ((m + j - i : Nat) : Int) := by omega
      have c := C.out (m - i) (m + j - i) i dk wr (by omega) S1.out (by omega) (by omega)
      rw [← hmi, ← hmj] at c
      clear hmi hmj S1
      go_wp2_with (go_at_fn 54; refine c.mono ?_; rintro e w1 ⟨rfl, S3⟩)
      go_roundg (i + (j - i))
      case measure => omega
      case rel => exact ⟨i, j - i, _, rfl, by congr 1; omega, by omega, hi0, by omega, by omega, by omega, by rw [ST.size_swapR]; exact hds, S3, (show Hid _ from (ST.rot_lt m i j dk hi0 hij).symm.trans HE.out)⟩
    · subst hij
      have n1 : ((i : Int) != (i : Int)) = false := by simp
      have c := C.out (m - i) m i dk wr (by omega) S1.out (by omega) (by omega)
      rw [← hmi] at c
      have HE2 : ST.rot m (m - a) (b - m) d = ST.swapR dk (m - i) m i := HE.out.symm.trans (ST.rot_eq m i dk)
      have HE3 : Hid _ := HE2
      clear hmi S1 HE2
      go_wp2_with (go_at_fn 54; refine c.mono ?_; rintro e w1 ⟨rfl, S3⟩)
      go_end0
      rw [HE3.out]
      exact ⟨rfl, S3.out⟩
    · have n1 : ((i : Int) != (j : Int)) = true := by simp; omega
      have n2 : (j : Int) < (i : Int) := by omega
      have c := C.out (m - i) m j dk wr (by omega) S1.out (by omega) (by omega)
      rw [← hmi] at c
      clear hmi S1
      go_wp2_with (go_at_fn 54; refine c.mono ?_; rintro e w1 ⟨rfl, S3⟩)
      go_roundg (i - j + j)
      case measure => omega
      case rel => exact ⟨i - j, j, _, by congr 1; omega, rfl, by omega, by omega, hj0, by omega, by omega, by rw [ST.size_swapR]; exact hds, S3, (show Hid _ from (ST.rot_gt m i j dk hj0 hij).symm.trans HE.out)⟩
end Go.Proofs.YtkbceeobnbbfbaaDoor.RR

/- The stable sort's walks: symMergeCmpFunc. (Printed by gen_sw2.py.) -/
namespace Go.Proofs.YtkbceeobnbbfbaaDoor.RR
open Go.Shelf Go.RowKit Go.Lib Go.Sort
variable {α : Type} [Inhabited α]

set_option maxHeartbeats 8000000 in
set_option maxRecDepth 1000000 in
theorem st_sym_left {P : Program} {k : Nat} (L : StL P k) (enc : α → List Value) (cf : α → α → Int) (g : Nat) (cb : Array Value) (blk off cap : Nat) (d0 : Array α) (w0 : World)
    (eg : ∀ args w, (callFunc g args).run P w = .ok (.enter g args) w) (hcmp : CmpLays P g cb enc k cf blk off d0.size w0) (R : RowK enc k w0 blk off d0) (hsz : d0.size < 4611686018427387904)
    (a m b : Nat) (d : Array α) (w : World) (hm1 : a < m) (hm2 : m ≤ a + 1) (hmb : m < b) (hb : b ≤ d0.size) (hds : d.size = d0.size) (S : SWK enc k w0 blk off d w) :
    Calls P 52 #[.slice (some ⟨blk, off, none⟩) d0.size cap, .int .i64 a, .int .i64 m, .int .i64 b, .func (.func g) #[] cb] w fun e w' =>
      e = .returned (.tuple #[]) ∧ Aside (SWK enc k w0 blk off (ST.symM (ltOf cf) a m b d) w') := by
  have mixed := L.mixed; have t0 := L.t0; have a0 := L.a0; have z0 := L.z0; have v0 := L.v0; have t3 := L.t3; have a3 := L.a3; have z3 := L.z3; have v3 := L.v3; have t4 := L.t4; have a4 := L.a4; have z4 := L.z4; have v4 := L.v4; have tS := L.tS; have aS := L.aS; have zS := L.zS; have aE := L.aE; have zE := L.zE
  have tU := L.tU; have aU := L.aU; have zU := L.zU; have vU := L.vU
  have cRo := L.cRo
  have cSy := L.cSy
  have S0 : Aside _ := S
  have HC : Aside _ := hcmp
  clear S hcmp
  have q1 : ((m : Int) - (a : Int) == 1) = true := by simp; omega
  have HR : Hid (ST.symM (ltOf cf) a m b d = ST.upR d a (ST.bs (fun h => ltOf cf d[h]! d[a]!) m b - 1 - a)) := ST.symM_left (ltOf cf) a m b d (by omega) hmb (by omega)
  go_enter L.fSy, Tryd.ntmps52
  go_wp2
  go_loopg [10, 11] (b - a) (fun gq s10 s11 wr => ∃ (i j : Nat), s10 = .int .i64 i ∧ s11 = .int .i64 j ∧ a < i ∧ i ≤ j ∧ j ≤ b ∧ j - i ≤ gq ∧ Aside (SWK enc k w0 blk off d wr) ∧ Hid (ST.bs (fun h => ltOf cf d[h]! d[a]!) i j = ST.bs (fun h => ltOf cf d[h]! d[a]!) m b))
  case atStart => exact ⟨m, b, rfl, rfl, by omega, by omega, by omega, by omega, S0, rfl⟩
  case round =>
    clear S0
    obtain ⟨i, j, rfl, rfl, hi, hij, hj, hg, S1, HE⟩ := hrel
    by_cases hlt : i < j
    · have hltz : (i : Int) < (j : Int) := by omega
      cases hG : ltOf cf d[(i + j) / 2]! d[a]! with
      | true =>
        have e1 : (((i : Int) + (j : Int)) / 2).toNat = (i + j) / 2 := by omega
        have p1 : (0 : Int) ≤ ((i : Int) + (j : Int)) / 2 := by omega
        have b1 : ((i : Int) + (j : Int)) / 2 < (d0.size : Int) := by omega
        have r1 : IntKind.i64.wrap (((i : Int) + (j : Int)) / 2) = ((i : Int) + (j : Int)) / 2 := by rw [IntKind.wrap_i64]; omega
        have ba : (a : Int) < (d0.size : Int) := by omega
        go_wp2_with fail
        obtain ⟨xq, hxq⟩ : ∃ x, x = d[(i + j) / 2]! := ⟨_, rfl⟩
        obtain ⟨yq, hyq⟩ : ∃ x, x = d[a]! := ⟨_, rfl⟩
        have la := S1.out.ld R (by omega) P ((i + j) / 2) (by omega)
        have lb := S1.out.ld R (by omega) P (a) (by omega)
        rw [← hxq] at la
        rw [← hyq] at lb
        have hc := S1.out.cmp HC.out (by omega) xq yq
        have hv : cf xq yq < 0 := by rw [hxq, hyq]; exact of_decide_eq_true hG
        have hd : decide (cf xq yq < 0) = true := decide_eq_true hv
        clear hxq hyq
        go_wp2_with fail
        go_quiet_grown (first | (go_at_fn g; refine Calls.grown_of (hc _ _)))
        have S2 : Aside (SWK enc k w0 blk off d (grow (wr.drewN nq) osq)) := S1.out.grown nq osq
        clear la lb hc S1
        generalize grow (wr.drewN nq) osq = w2 at S2 ⊢
        clear nq osq
        go_wp2
        go_roundg (gk - 1)
        case measure => omega
        case rel => exact ⟨(i + j) / 2 + 1, j, by congr 1 <;> omega, rfl, by omega, by omega, by omega, by omega, S2, (show Hid _ from (ST.bs_yes _ i j hlt hG).symm.trans HE.out)⟩
      | false =>
        have e1 : (((i : Int) + (j : Int)) / 2).toNat = (i + j) / 2 := by omega
        have p1 : (0 : Int) ≤ ((i : Int) + (j : Int)) / 2 := by omega
        have b1 : ((i : Int) + (j : Int)) / 2 < (d0.size : Int) := by omega
        have r1 : IntKind.i64.wrap (((i : Int) + (j : Int)) / 2) = ((i : Int) + (j : Int)) / 2 := by rw [IntKind.wrap_i64]; omega
        have ba : (a : Int) < (d0.size : Int) := by omega
        go_wp2_with fail
        obtain ⟨xq, hxq⟩ : ∃ x, x = d[(i + j) / 2]! := ⟨_, rfl⟩
        obtain ⟨yq, hyq⟩ : ∃ x, x = d[a]! := ⟨_, rfl⟩
        have la := S1.out.ld R (by omega) P ((i + j) / 2) (by omega)
        have lb := S1.out.ld R (by omega) P (a) (by omega)
        rw [← hxq] at la
        rw [← hyq] at lb
        have hc := S1.out.cmp HC.out (by omega) xq yq
        have hv : ¬ cf xq yq < 0 := by rw [hxq, hyq]; exact of_decide_eq_false hG
        have hd : decide (cf xq yq < 0) = false := decide_eq_false hv
        clear hxq hyq
        go_wp2_with fail
        go_quiet_grown (first | (go_at_fn g; refine Calls.grown_of (hc _ _)))
        have S2 : Aside (SWK enc k w0 blk off d (grow (wr.drewN nq) osq)) := S1.out.grown nq osq
        clear la lb hc S1
        generalize grow (wr.drewN nq) osq = w2 at S2 ⊢
        clear nq osq
        go_wp2
        go_roundg (gk - 1)
        case measure => omega
        case rel => exact ⟨i, (i + j) / 2, rfl, by congr 1 <;> omega, by omega, by omega, by omega, by omega, S2, (show Hid _ from (ST.bs_no _ i j hlt hG).symm.trans HE.out)⟩
    · have hltz : ¬ (i : Int) < (j : Int) := by omega
      have : j = i := by omega
      subst this
      have HR2 : Hid (ST.symM (ltOf cf) a m b d = ST.upR d a (j - 1 - a)) := by show _ = _; rw [HR.out, ← HE.out, ST.bs_stop _ _ _ hlt]
      clear HR HE
      go_wp2
      go_loopg [13] (j - 1 - a) (fun gq s13 wr2 => ∃ c : Nat, s13 = .int .i64 (a + c : Nat) ∧ gq + c = j - 1 - a ∧ Aside (SWK enc k w0 blk off (ST.upR d a c) wr2))
      case atStart => exact ⟨0, by simp, by omega, S1⟩
      case round =>
        clear S1
        obtain ⟨c, rfl, hc, S1⟩ := hrel
        have hdz : (ST.upR d a c).size = d.size := ST.size_upR d a c
        by_cases hlc : c < j - 1 - a
        · have hlz : ((a + c : Nat) : Int) < (j : Int) - 1 := by omega
          have hlz' : (a : Int) + (c : Int) < (j : Int) - 1 := by omega
          have e1 : ((a : Int) + (c : Int)).toNat = a + c := by omega
          have p1 : (0 : Int) ≤ (a : Int) + (c : Int) := by omega
          have b1 : (a : Int) + (c : Int) < (d0.size : Int) := by omega
          have r1 : IntKind.i64.wrap ((a : Int) + (c : Int)) = (a : Int) + (c : Int) := by rw [IntKind.wrap_i64]; omega
          have e2 : ((a : Int) + (c : Int) + 1).toNat = a + c + 1 := by omega
          have p2 : (0 : Int) ≤ (a : Int) + (c : Int) + 1 := by omega
          have b2 : (a : Int) + (c : Int) + 1 < (d0.size : Int) := by omega
          have r2 : IntKind.i64.wrap ((a : Int) + (c : Int) + 1) = (a : Int) + (c : Int) + 1 := by rw [IntKind.wrap_i64]; omega
          go_wp2_with fail
          have S2 : Aside (SWK enc k w0 blk off (ST.upR d a (c + 1)) ((wr.drew.setCells blk (off + (a + c) * k) (enc (ST.upR d a c)[a + c + 1]!)).setCells blk (off + (a + c + 1) * k) (enc (ST.upR d a c)[a + c]!))) := S1.out.swapped R (a + c) (a + c + 1) (by omega) (by omega)
          have la := S1.out.ld1 R (by omega) P (a + c) (by omega)
          have lb := S1.out.ld1 R (by omega) P (a + c + 1) (by omega)
          have sa := S1.out.st1 R (by omega) P (a + c) (by omega) (ST.upR d a c)[a + c + 1]!
          have sb := S1.out.st2 R (by omega) P (a + c) (a + c + 1) (by omega) (by omega) (ST.upR d a c)[a + c + 1]! (ST.upR d a c)[a + c]!
          have na : (enc (ST.upR d a c)[a + c]!).length = k := R.hk _
          have nb : (enc (ST.upR d a c)[a + c + 1]!).length = k := R.hk _
          generalize enc (ST.upR d a c)[a + c]! = cI at S2 la sb na
          generalize enc (ST.upR d a c)[a + c + 1]! = cJ at S2 lb sa sb nb
          clear S1
          go_big_region_o
          clear la lb sa sb
          generalize (wr.drew.setCells blk (off + (a + c) * k) cJ).setCells blk (off + (a + c + 1) * k) cI = w4 at S2 ⊢
          all_goals go_wp2
          go_roundg (gk - 1)
          case measure => omega
          case rel => exact ⟨c + 1, by congr 1 <;> omega, by omega, S2⟩
        · have hlz : ¬ ((a + c : Nat) : Int) < (j : Int) - 1 := by omega
          have hlz' : ¬ (a : Int) + (c : Int) < (j : Int) - 1 := by omega
          have : c = j - 1 - a := by omega
          subst this
          go_wp2
          (try simp only [Exit.inBlock, Exit.then]); refine bodyPost_ret (results_none rfl _ _ _) rfl ?_
          rw [HR2.out]
          exact ⟨rfl, S1⟩

set_option maxHeartbeats 8000000 in
set_option maxRecDepth 1000000 in
theorem st_sym_right {P : Program} {k : Nat} (L : StL P k) (enc : α → List Value) (cf : α → α → Int) (g : Nat) (cb : Array Value) (blk off cap : Nat) (d0 : Array α) (w0 : World)
    (eg : ∀ args w, (callFunc g args).run P w = .ok (.enter g args) w) (hcmp : CmpLays P g cb enc k cf blk off d0.size w0) (R : RowK enc k w0 blk off d0) (hsz : d0.size < 4611686018427387904)
    (a m b : Nat) (d : Array α) (w : World) (ham : a < m) (h1 : m - a ≠ 1) (hm1 : m < b) (hm2 : b ≤ m + 1) (hb : b ≤ d0.size) (hds : d.size = d0.size) (S : SWK enc k w0 blk off d w) :
    Calls P 52 #[.slice (some ⟨blk, off, none⟩) d0.size cap, .int .i64 a, .int .i64 m, .int .i64 b, .func (.func g) #[] cb] w fun e w' =>
      e = .returned (.tuple #[]) ∧ Aside (SWK enc k w0 blk off (ST.symM (ltOf cf) a m b d) w') := by
  have mixed := L.mixed; have t0 := L.t0; have a0 := L.a0; have z0 := L.z0; have v0 := L.v0; have t3 := L.t3; have a3 := L.a3; have z3 := L.z3; have v3 := L.v3; have t4 := L.t4; have a4 := L.a4; have z4 := L.z4; have v4 := L.v4; have tS := L.tS; have aS := L.aS; have zS := L.zS; have aE := L.aE; have zE := L.zE
  have tU := L.tU; have aU := L.aU; have zU := L.zU; have vU := L.vU
  have cRo := L.cRo
  have cSy := L.cSy
  have S0 : Aside _ := S
  have HC : Aside _ := hcmp
  clear S hcmp
  have q1 : ((m : Int) - (a : Int) == 1) = false := by simp; omega
  have q2 : ((b : Int) - (m : Int) == 1) = true := by simp; omega
  have HR : Hid (ST.symM (ltOf cf) a m b d = ST.downR d m (m - ST.bs (fun h => !ltOf cf d[m]! d[h]!) a m)) := ST.symM_right (ltOf cf) a m b d ham (by omega) h1 (by omega)
  go_enter L.fSy, Tryd.ntmps52
  go_wp2
  go_loopg [14, 15] (m - a) (fun gq s14 s15 wr => ∃ (i j : Nat), s14 = .int .i64 i ∧ s15 = .int .i64 j ∧ a ≤ i ∧ i ≤ j ∧ j ≤ m ∧ j - i ≤ gq ∧ Aside (SWK enc k w0 blk off d wr) ∧ Hid (ST.bs (fun h => !ltOf cf d[m]! d[h]!) i j = ST.bs (fun h => !ltOf cf d[m]! d[h]!) a m))
  case atStart => exact ⟨a, m, rfl, rfl, by omega, by omega, by omega, by omega, S0, rfl⟩
  case round =>
    clear S0
    obtain ⟨i, j, rfl, rfl, hi, hij, hj, hg, S1, HE⟩ := hrel
    by_cases hlt : i < j
    · have hltz : (i : Int) < (j : Int) := by omega
      cases hG : ltOf cf d[m]! d[(i + j) / 2]! with
      | true =>
        have e1 : (((i : Int) + (j : Int)) / 2).toNat = (i + j) / 2 := by omega
        have p1 : (0 : Int) ≤ ((i : Int) + (j : Int)) / 2 := by omega
        have b1 : ((i : Int) + (j : Int)) / 2 < (d0.size : Int) := by omega
        have r1 : IntKind.i64.wrap (((i : Int) + (j : Int)) / 2) = ((i : Int) + (j : Int)) / 2 := by rw [IntKind.wrap_i64]; omega
        have ba : (m : Int) < (d0.size : Int) := by omega
        go_wp2_with fail
        obtain ⟨xq, hxq⟩ : ∃ x, x = d[m]! := ⟨_, rfl⟩
        obtain ⟨yq, hyq⟩ : ∃ x, x = d[(i + j) / 2]! := ⟨_, rfl⟩
        have la := S1.out.ld R (by omega) P (m) (by omega)
        have lb := S1.out.ld R (by omega) P ((i + j) / 2) (by omega)
        rw [← hxq] at la
        rw [← hyq] at lb
        have hc := S1.out.cmp HC.out (by omega) xq yq
        have hv : cf xq yq < 0 := by rw [hxq, hyq]; exact of_decide_eq_true hG
        have hd : decide (cf xq yq < 0) = true := decide_eq_true hv
        clear hxq hyq
        go_wp2_with fail
        go_quiet_grown (first | (go_at_fn g; refine Calls.grown_of (hc _ _)))
        have S2 : Aside (SWK enc k w0 blk off d (grow (wr.drewN nq) osq)) := S1.out.grown nq osq
        clear la lb hc S1
        generalize grow (wr.drewN nq) osq = w2 at S2 ⊢
        clear nq osq
        go_wp2
        go_roundg (gk - 1)
        case measure => omega
        case rel => exact ⟨i, (i + j) / 2, rfl, by congr 1 <;> omega, by omega, by omega, by omega, by omega, S2, (show Hid _ from (ST.bs_no _ i j hlt (by simp only [hG]; rfl)).symm.trans HE.out)⟩
      | false =>
        have e1 : (((i : Int) + (j : Int)) / 2).toNat = (i + j) / 2 := by omega
        have p1 : (0 : Int) ≤ ((i : Int) + (j : Int)) / 2 := by omega
        have b1 : ((i : Int) + (j : Int)) / 2 < (d0.size : Int) := by omega
        have r1 : IntKind.i64.wrap (((i : Int) + (j : Int)) / 2) = ((i : Int) + (j : Int)) / 2 := by rw [IntKind.wrap_i64]; omega
        have ba : (m : Int) < (d0.size : Int) := by omega
        go_wp2_with fail
        obtain ⟨xq, hxq⟩ : ∃ x, x = d[m]! := ⟨_, rfl⟩
        obtain ⟨yq, hyq⟩ : ∃ x, x = d[(i + j) / 2]! := ⟨_, rfl⟩
        have la := S1.out.ld R (by omega) P (m) (by omega)
        have lb := S1.out.ld R (by omega) P ((i + j) / 2) (by omega)
        rw [← hxq] at la
        rw [← hyq] at lb
        have hc := S1.out.cmp HC.out (by omega) xq yq
        have hv : ¬ cf xq yq < 0 := by rw [hxq, hyq]; exact of_decide_eq_false hG
        have hd : decide (cf xq yq < 0) = false := decide_eq_false hv
        clear hxq hyq
        go_wp2_with fail
        go_quiet_grown (first | (go_at_fn g; refine Calls.grown_of (hc _ _)))
        have S2 : Aside (SWK enc k w0 blk off d (grow (wr.drewN nq) osq)) := S1.out.grown nq osq
        clear la lb hc S1
        generalize grow (wr.drewN nq) osq = w2 at S2 ⊢
        clear nq osq
        go_wp2
        go_roundg (gk - 1)
        case measure => omega
        case rel => exact ⟨(i + j) / 2 + 1, j, by congr 1 <;> omega, rfl, by omega, by omega, by omega, by omega, S2, (show Hid _ from (ST.bs_yes _ i j hlt (by simp only [hG]; rfl)).symm.trans HE.out)⟩
    · have hltz : ¬ (i : Int) < (j : Int) := by omega
      have : j = i := by omega
      subst this
      have HR2 : Hid (ST.symM (ltOf cf) a m b d = ST.downR d m (m - j)) := by show _ = _; rw [HR.out, ← HE.out, ST.bs_stop _ _ _ hlt]
      clear HR HE
      go_wp2
      go_loopg [17] (m - j) (fun gq s17 wr2 => ∃ c : Nat, s17 = .int .i64 ((m : Int) - (c : Int)) ∧ gq + c = m - j ∧ Aside (SWK enc k w0 blk off (ST.downR d m c) wr2))
      case atStart => exact ⟨0, by simp, by omega, S1⟩
      case round =>
        clear S1
        obtain ⟨c, rfl, hc, S1⟩ := hrel
        have hdz : (ST.downR d m c).size = d.size := ST.size_downR d m c
        by_cases hlc : c < m - j
        · have hlz : (j : Int) < (m : Int) - (c : Int) := by omega
          have e1 : ((m : Int) - (c : Int)).toNat = m - c := by omega
          have p1 : (0 : Int) ≤ (m : Int) - (c : Int) := by omega
          have b1 : (m : Int) - (c : Int) < (d0.size : Int) := by omega
          have r1 : IntKind.i64.wrap ((m : Int) - (c : Int)) = (m : Int) - (c : Int) := by rw [IntKind.wrap_i64]; omega
          have e2 : ((m : Int) - (c : Int) - 1).toNat = m - c - 1 := by omega
          have p2 : (0 : Int) ≤ (m : Int) - (c : Int) - 1 := by omega
          have b2 : (m : Int) - (c : Int) - 1 < (d0.size : Int) := by omega
          have r2 : IntKind.i64.wrap ((m : Int) - (c : Int) - 1) = (m : Int) - (c : Int) - 1 := by rw [IntKind.wrap_i64]; omega
          go_wp2_with fail
          have S2 : Aside (SWK enc k w0 blk off (ST.downR d m (c + 1)) ((wr.drew.setCells blk (off + (m - c) * k) (enc (ST.downR d m c)[m - c - 1]!)).setCells blk (off + (m - c - 1) * k) (enc (ST.downR d m c)[m - c]!))) := S1.out.swapped R (m - c) (m - c - 1) (by omega) (by omega)
          have la := S1.out.ld1 R (by omega) P (m - c) (by omega)
          have lb := S1.out.ld1 R (by omega) P (m - c - 1) (by omega)
          have sa := S1.out.st1 R (by omega) P (m - c) (by omega) (ST.downR d m c)[m - c - 1]!
          have sb := S1.out.st2 R (by omega) P (m - c) (m - c - 1) (by omega) (by omega) (ST.downR d m c)[m - c - 1]! (ST.downR d m c)[m - c]!
          have na : (enc (ST.downR d m c)[m - c]!).length = k := R.hk _
          have nb : (enc (ST.downR d m c)[m - c - 1]!).length = k := R.hk _
          generalize enc (ST.downR d m c)[m - c]! = cI at S2 la sb na
          generalize enc (ST.downR d m c)[m - c - 1]! = cJ at S2 lb sa sb nb
          clear S1
          go_big_region_o
          clear la lb sa sb
          generalize (wr.drew.setCells blk (off + (m - c) * k) cJ).setCells blk (off + (m - c - 1) * k) cI = w4 at S2 ⊢
          all_goals go_wp2
          go_roundg (gk - 1)
          case measure => omega
          case rel => exact ⟨c + 1, by congr 1 <;> omega, by omega, S2⟩
        · have hlz : ¬ (j : Int) < (m : Int) - (c : Int) := by omega
          have : c = m - j := by omega
          subst this
          go_wp2
          (try simp only [Exit.inBlock, Exit.then]); refine bodyPost_ret (results_none rfl _ _ _) rfl ?_
          rw [HR2.out]
          exact ⟨rfl, S1⟩
end Go.Proofs.YtkbceeobnbbfbaaDoor.RR

/- The stable sort's walks: symMergeCmpFunc, both parts of two and more; the middle behind m. (Printed by gen_sw2.py.) -/
namespace Go.Proofs.YtkbceeobnbbfbaaDoor.RR
open Go.Shelf Go.RowKit Go.Lib Go.Sort
variable {α : Type} [Inhabited α]
set_option maxHeartbeats 16000000 in
set_option maxRecDepth 1000000 in
theorem st_sym_up {P : Program} {k : Nat} (L : StL P k) (enc : α → List Value) (cf : α → α → Int) (g : Nat) (cb : Array Value) (blk off cap : Nat) (d0 : Array α) (w0 : World)
    (eg : ∀ args w, (callFunc g args).run P w = .ok (.enter g args) w) (hcmp : CmpLays P g cb enc k cf blk off d0.size w0) (R : RowK enc k w0 blk off d0) (hsz : d0.size < 4611686018427387904) (N : Nat)
    (ih : ∀ (a m b : Nat) (d : Array α) (w : World), b - a ≤ N → a < m → m < b → b ≤ d0.size → d.size = d0.size → SWK enc k w0 blk off d w →
      Calls P 52 #[.slice (some ⟨blk, off, none⟩) d0.size cap, .int .i64 a, .int .i64 m, .int .i64 b, .func (.func g) #[] cb] w fun e w' =>
      e = .returned (.tuple #[]) ∧ Aside (SWK enc k w0 blk off (ST.symM (ltOf cf) a m b d) w'))
    (a m b : Nat) (d : Array α) (w : World) (hN : b - a ≤ N + 1) (ham : a < m) (hmb : m < b) (h1 : m - a ≠ 1) (h2 : b - m ≠ 1) (hb : b ≤ d0.size) (hds : d.size = d0.size) (hup : m > (a + b) / 2) (S : SWK enc k w0 blk off d w) :
    Calls P 52 #[.slice (some ⟨blk, off, none⟩) d0.size cap, .int .i64 a, .int .i64 m, .int .i64 b, .func (.func g) #[] cb] w fun e w' =>
      e = .returned (.tuple #[]) ∧ Aside (SWK enc k w0 blk off (ST.symM (ltOf cf) a m b d) w') := by
  have mixed := L.mixed; have t0 := L.t0; have a0 := L.a0; have z0 := L.z0; have v0 := L.v0; have t3 := L.t3; have a3 := L.a3; have z3 := L.z3; have v3 := L.v3; have t4 := L.t4; have a4 := L.a4; have z4 := L.z4; have v4 := L.v4; have tS := L.tS; have aS := L.aS; have zS := L.zS; have aE := L.aE; have zE := L.zE
  have tU := L.tU; have aU := L.aU; have zU := L.zU; have vU := L.vU
  have cRo := L.cRo
  have cSy := L.cSy
  have S0 : Aside _ := S
  have HC : Aside _ := hcmp
  have IH : Aside _ := ih
  clear S hcmp ih
  have q1 : ((m : Int) - (a : Int) == 1) = false := by simp; omega
  have q2 : ((b : Int) - (m : Int) == 1) = false := by simp; omega
  have HR : Hid (ST.symM (ltOf cf) a m b d = ST.symM (ltOf cf) ((a + b) / 2) ((a + b) / 2 + m - ST.cut (ltOf cf) a m b d) b (ST.symM (ltOf cf) a (ST.cut (ltOf cf) a m b d) ((a + b) / 2) (ST.turned (ltOf cf) a m b d))) := ST.symM_halves (ltOf cf) a m b d ham hmb h1 h2
  obtain ⟨md, hmd0⟩ : ∃ md, md = (a + b) / 2 := ⟨_, rfl⟩
  have hmz : ((a : Int) + (b : Int)) / 2 = (md : Int) := by omega
  have hmd : Hid (md = (a + b) / 2) := hmd0
  have hma : a < md := by omega
  have hmb2 : md < b := by omega
  have hmd2 : 2 * md ≤ a + b := by omega
  have hmd3 : a + b ≤ 2 * md + 1 := by omega
  obtain ⟨s0, hs0⟩ : ∃ s0, s0 = ST.sM a m b := ⟨_, rfl⟩
  obtain ⟨r0, hr0⟩ : ∃ r0, r0 = ST.rM a m b := ⟨_, rfl⟩
  have hS0 : (m > md → md + m = s0 + b) ∧ (¬ m > md → s0 = a) := by rw [hs0]; unfold ST.sM; rw [← hmd0]; constructor <;> intro h <;> split <;> omega
  have hR0 : (m > md → r0 = md) ∧ (¬ m > md → r0 = m) := by rw [hr0]; unfold ST.rM; rw [← hmd0]; constructor <;> intro h <;> split <;> omega
  have HP : Hid (ST.cut (ltOf cf) a m b d = ST.bs (fun c => !ltOf cf d[md + m - 1 - c]! d[c]!) s0 r0) := by show _ = _; unfold ST.cut; rw [← hmd0, ← hs0, ← hr0]
  clear hmd0 hs0 hr0
  have hsr : s0 ≤ r0 := by rcases Nat.lt_or_ge md m with h | h <;> omega
  have has : a ≤ s0 := by rcases Nat.lt_or_ge md m with h | h <;> omega
  have hrm : r0 ≤ m := by rcases Nat.lt_or_ge md m with h | h <;> omega
  have hrd : r0 ≤ md := by rcases Nat.lt_or_ge md m with h | h <;> omega
  have hpb : md + m ≤ s0 + b := by rcases Nat.lt_or_ge md m with h | h <;> omega
  have q3 : (md : Int) < (m : Int) := by have := hmd.out; omega
  have hs0z : (md : Int) + (m : Int) - (b : Int) = (s0 : Int) := by have := hmd.out; have := hS0.1 (by omega); omega
  have hr0e : Hid (r0 = md) := hR0.1 (by have := hmd.out; omega)
  clear hS0 hR0 hup
  go_enter L.fSy, Tryd.ntmps52
  go_wp2
  go_loopg [20, 21] (b - a) (fun gq s20 s21 wr => ∃ (i j : Nat), s20 = .int .i64 i ∧ s21 = .int .i64 j ∧ s0 ≤ i ∧ i ≤ j ∧ j ≤ r0 ∧ j - i ≤ gq ∧ Aside (SWK enc k w0 blk off d wr) ∧ Hid (ST.bs (fun c => !ltOf cf d[md + m - 1 - c]! d[c]!) i j = ST.bs (fun c => !ltOf cf d[md + m - 1 - c]! d[c]!) s0 r0))
  case atStart => exact ⟨s0, r0, by rfl, by rw [hr0e.out], by omega, hsr, by omega, by omega, S0, rfl⟩
  case round =>
    clear S0
    obtain ⟨i, j, rfl, rfl, hi, hij, hj, hg, S1, HE⟩ := hrel
    by_cases hlt : i < j
    · have hltz : (i : Int) < (j : Int) := by omega
      obtain ⟨pc, hpc0⟩ : ∃ pc : Nat, pc = md + m - 1 - (i + j) / 2 := ⟨_, rfl⟩
      have v1 : IntKind.i64.wrap ((md : Int) + (m : Int) - 1 - ((i : Int) + (j : Int)) / 2) = (pc : Int) := by rw [IntKind.wrap_i64]; omega
      have v2 : (md : Int) + (m : Int) - 1 - ((i : Int) + (j : Int)) / 2 = (pc : Int) := by omega
      have v5 : IntKind.i64.wrap (pc : Int) = (pc : Int) := by rw [IntKind.wrap_i64]; omega
      have v3 : (pc : Int) < (d0.size : Int) := by omega
      have v4 : pc < d0.size := by omega
      have hpc : Hid (pc = md + m - 1 - (i + j) / 2) := hpc0
      clear hpc0
      cases hG : ltOf cf d[pc]! d[(i + j) / 2]! with
      | true =>
        have e1 : (((i : Int) + (j : Int)) / 2).toNat = (i + j) / 2 := by omega
        have p1 : (0 : Int) ≤ ((i : Int) + (j : Int)) / 2 := by omega
        have b1 : ((i : Int) + (j : Int)) / 2 < (d0.size : Int) := by omega
        have r1 : IntKind.i64.wrap (((i : Int) + (j : Int)) / 2) = ((i : Int) + (j : Int)) / 2 := by rw [IntKind.wrap_i64]; omega
        go_wp2_with fail
        obtain ⟨xq, hxq⟩ : ∃ x, x = d[pc]! := ⟨_, rfl⟩
        obtain ⟨yq, hyq⟩ : ∃ x, x = d[(i + j) / 2]! := ⟨_, rfl⟩
        have la := S1.out.ld R (by omega) P (pc) (by omega)
        have lb := S1.out.ld R (by omega) P ((i + j) / 2) (by omega)
        rw [← hxq] at la
        rw [← hyq] at lb
        have hc := S1.out.cmp HC.out (by omega) xq yq
        have hv : cf xq yq < 0 := by rw [hxq, hyq]; exact of_decide_eq_true hG
        have hd : decide (cf xq yq < 0) = true := decide_eq_true hv
        clear hxq hyq
        go_wp2_with fail
        go_quiet_grown (first | (go_at_fn g; refine Calls.grown_of (hc _ _)))
        have S2 : Aside (SWK enc k w0 blk off d (grow (wr.drewN nq) osq)) := S1.out.grown nq osq
        clear la lb hc S1
        generalize grow (wr.drewN nq) osq = w2 at S2 ⊢
        clear nq osq
        go_wp2
        go_roundg (gk - 1)
        case measure => omega
        case rel => exact ⟨i, (i + j) / 2, rfl, by congr 1 <;> omega, by omega, by omega, by omega, by omega, S2, (show Hid _ from (ST.bs_no _ i j hlt (by simp only [← hpc.out, hG]; rfl)).symm.trans HE.out)⟩
      | false =>
        have e1 : (((i : Int) + (j : Int)) / 2).toNat = (i + j) / 2 := by omega
        have p1 : (0 : Int) ≤ ((i : Int) + (j : Int)) / 2 := by omega
        have b1 : ((i : Int) + (j : Int)) / 2 < (d0.size : Int) := by omega
        have r1 : IntKind.i64.wrap (((i : Int) + (j : Int)) / 2) = ((i : Int) + (j : Int)) / 2 := by rw [IntKind.wrap_i64]; omega
        go_wp2_with fail
        obtain ⟨xq, hxq⟩ : ∃ x, x = d[pc]! := ⟨_, rfl⟩
        obtain ⟨yq, hyq⟩ : ∃ x, x = d[(i + j) / 2]! := ⟨_, rfl⟩
        have la := S1.out.ld R (by omega) P (pc) (by omega)
        have lb := S1.out.ld R (by omega) P ((i + j) / 2) (by omega)
        rw [← hxq] at la
        rw [← hyq] at lb
        have hc := S1.out.cmp HC.out (by omega) xq yq
        have hv : ¬ cf xq yq < 0 := by rw [hxq, hyq]; exact of_decide_eq_false hG
        have hd : decide (cf xq yq < 0) = false := decide_eq_false hv
        clear hxq hyq
        go_wp2_with fail
        go_quiet_grown (first | (go_at_fn g; refine Calls.grown_of (hc _ _)))
        have S2 : Aside (SWK enc k w0 blk off d (grow (wr.drewN nq) osq)) := S1.out.grown nq osq
        clear la lb hc S1
        generalize grow (wr.drewN nq) osq = w2 at S2 ⊢
        clear nq osq
        go_wp2
        go_roundg (gk - 1)
        case measure => omega
        case rel => exact ⟨(i + j) / 2 + 1, j, by congr 1 <;> omega, rfl, by omega, by omega, by omega, by omega, S2, (show Hid _ from (ST.bs_yes _ i j hlt (by simp only [← hpc.out, hG]; rfl)).symm.trans HE.out)⟩
    · have hltz : ¬ (i : Int) < (j : Int) := by omega
      have : j = i := by omega
      subst this
      obtain ⟨s, hsj⟩ : ∃ s, s = j := ⟨_, rfl⟩
      have hcut : Hid (ST.cut (ltOf cf) a m b d = s) := by show _ = _; rw [HP.out, ← HE.out, ST.bs_stop _ _ _ hlt, hsj]
      subst hsj
      obtain ⟨ed, hed⟩ : ∃ ed, ed = md + m - s := ⟨_, rfl⟩
      have hen : (md : Int) + (m : Int) - (s : Int) = (ed : Int) := by omega
      have hes : ed + s = md + m := by omega
      have HED : Hid (ed = md + m - s) := hed
      clear hed
      have hsm : s ≤ m := by omega
      have hsd : s ≤ md := by omega
      have hsa : a ≤ s := by omega
      have hsb : ed ≤ b := by omega
      clear HE HP hg hlt hltz
      rcases Nat.lt_or_ge s m with c1 | c1
      · rcases Nat.lt_or_ge s md with c2 | c2
        · rcases Nat.lt_or_ge a s with c3 | c3
          · rcases Nat.lt_or_ge ed b with c4 | c4
            · have k1 : (s : Int) < (m : Int) := by omega
              have k2 : (m : Int) < (ed : Int) := by omega
              have k3 : (a : Int) < (s : Int) := by omega
              have k4 : (s : Int) < (md : Int) := by omega
              have k5 : (md : Int) < (ed : Int) := by omega
              have k6 : (ed : Int) < (b : Int) := by omega
              have c1 := st_rot L enc (.func (.func g) #[] cb) blk off cap s m ed d0 d w0 wr R (by omega) S1.out (by omega) (by omega) (by omega) (by omega)
              rw [hds] at c1
              go_wp2_with fail
              go_at_fn 53
              refine c1.mono ?_
              rintro e w1 ⟨rfl, T1⟩
              have S1q : Aside _ := T1
              clear T1 c1 S1
              have c2 := IH.out a s md (ST.rot m (m - s) (ed - m) d) w1 (by omega) (by omega) (by omega) (by omega) (by first | exact hds | (rw [ST.size_rot]; exact hds)) S1q.out
              go_wp2_with fail
              go_at_fn 52
              refine c2.mono ?_
              rintro e w2 ⟨rfl, S2q⟩
              clear c2 S1q
              have c3 := IH.out md ed b (ST.symM (ltOf cf) a s md (ST.rot m (m - s) (ed - m) d)) w2 (by omega) (by omega) (by omega) (by omega) (by first | exact hds | (simp only [ST.size_rot, ST.size_symM]; exact hds)) S2q.out
              go_wp2_with fail
              go_at_fn 52
              refine c3.mono ?_
              rintro e w3 ⟨rfl, S3q⟩
              clear c3 S2q
              go_wp2
              go_end0
              have T : ST.turned (ltOf cf) a m b d = ST.rot m (m - s) (ed - m) d := by unfold ST.turned; rw [hcut.out, ← hmd.out, ← HED.out]; exact if_pos ⟨by omega, by omega⟩
              have HF := HR.out
              rw [hcut.out, ← hmd.out, ← HED.out, T] at HF
              rw [HF]
              exact ⟨rfl, S3q⟩
            · have k1 : (s : Int) < (m : Int) := by omega
              have k2 : (m : Int) < (ed : Int) := by omega
              have k3 : (a : Int) < (s : Int) := by omega
              have k4 : (s : Int) < (md : Int) := by omega
              have k5 : (md : Int) < (ed : Int) := by omega
              have k6 : ¬ (ed : Int) < (b : Int) := by omega
              have c1 := st_rot L enc (.func (.func g) #[] cb) blk off cap s m ed d0 d w0 wr R (by omega) S1.out (by omega) (by omega) (by omega) (by omega)
              rw [hds] at c1
              go_wp2_with fail
              go_at_fn 53
              refine c1.mono ?_
              rintro e w1 ⟨rfl, T1⟩
              have S1q : Aside _ := T1
              clear T1 c1 S1
              have c2 := IH.out a s md (ST.rot m (m - s) (ed - m) d) w1 (by omega) (by omega) (by omega) (by omega) (by first | exact hds | (rw [ST.size_rot]; exact hds)) S1q.out
              go_wp2_with fail
              go_at_fn 52
              refine c2.mono ?_
              rintro e w2 ⟨rfl, S2q⟩
              clear c2 S1q
              go_wp2
              go_end0
              have T : ST.turned (ltOf cf) a m b d = ST.rot m (m - s) (ed - m) d := by unfold ST.turned; rw [hcut.out, ← hmd.out, ← HED.out]; exact if_pos ⟨by omega, by omega⟩
              have HF := HR.out
              rw [hcut.out, ← hmd.out, ← HED.out, T] at HF
              rw [ST.symM_none (ltOf cf) md ed b _ (by omega)] at HF
              rw [HF]
              exact ⟨rfl, S2q⟩
          · rcases Nat.lt_or_ge ed b with c4 | c4
            · exfalso; omega
            · have k1 : (s : Int) < (m : Int) := by omega
              have k2 : (m : Int) < (ed : Int) := by omega
              have k3 : ¬ (a : Int) < (s : Int) := by omega
              have k4 : (s : Int) < (md : Int) := by omega
              have k5 : (md : Int) < (ed : Int) := by omega
              have k6 : ¬ (ed : Int) < (b : Int) := by omega
              have c1 := st_rot L enc (.func (.func g) #[] cb) blk off cap s m ed d0 d w0 wr R (by omega) S1.out (by omega) (by omega) (by omega) (by omega)
              rw [hds] at c1
              go_wp2_with fail
              go_at_fn 53
              refine c1.mono ?_
              rintro e w1 ⟨rfl, T1⟩
              have S1q : Aside _ := T1
              clear T1 c1 S1
              go_wp2
              go_end0
              have T : ST.turned (ltOf cf) a m b d = ST.rot m (m - s) (ed - m) d := by unfold ST.turned; rw [hcut.out, ← hmd.out, ← HED.out]; exact if_pos ⟨by omega, by omega⟩
              have HF := HR.out
              rw [hcut.out, ← hmd.out, ← HED.out, T] at HF
              rw [ST.symM_none (ltOf cf) a s md _ (by omega)] at HF
              rw [ST.symM_none (ltOf cf) md ed b _ (by omega)] at HF
              rw [HF]
              exact ⟨rfl, S1q⟩
        · have k1 : (s : Int) < (m : Int) := by omega
          have k2 : ¬ (m : Int) < (ed : Int) := by omega
          have k3 : (a : Int) < (s : Int) := by omega
          have k4 : ¬ (s : Int) < (md : Int) := by omega
          have k5 : (md : Int) < (ed : Int) := by omega
          have k6 : (ed : Int) < (b : Int) := by omega
          have c1 := IH.out md ed b (d) wr (by omega) (by omega) (by omega) (by omega) (by first | exact hds | (simp only [ST.size_rot, ST.size_symM]; exact hds)) S1.out
          go_wp2_with fail
          go_at_fn 52
          refine c1.mono ?_
          rintro e w1 ⟨rfl, S1q⟩
          clear c1 S1
          go_wp2
          go_end0
          have T : ST.turned (ltOf cf) a m b d = d := by unfold ST.turned; rw [hcut.out, ← hmd.out, ← HED.out]; exact if_neg (by omega)
          have HF := HR.out
          rw [hcut.out, ← hmd.out, ← HED.out, T] at HF
          rw [ST.symM_none (ltOf cf) a s md _ (by omega)] at HF
          rw [HF]
          exact ⟨rfl, S1q⟩
      · rcases Nat.lt_or_ge s md with c2 | c2
        · exfalso; omega
        · have k1 : ¬ (s : Int) < (m : Int) := by omega
          have k3 : (a : Int) < (s : Int) := by omega
          have k4 : ¬ (s : Int) < (md : Int) := by omega
          have k5 : ¬ (md : Int) < (ed : Int) := by omega
          go_wp2
          go_end0
          have T : ST.turned (ltOf cf) a m b d = d := by unfold ST.turned; rw [hcut.out, ← hmd.out, ← HED.out]; exact if_neg (by omega)
          have HF := HR.out
          rw [hcut.out, ← hmd.out, ← HED.out, T] at HF
          rw [ST.symM_none (ltOf cf) a s md _ (by omega)] at HF
          rw [ST.symM_none (ltOf cf) md ed b _ (by omega)] at HF
          rw [HF]
          exact ⟨rfl, S1⟩
end Go.Proofs.YtkbceeobnbbfbaaDoor.RR

