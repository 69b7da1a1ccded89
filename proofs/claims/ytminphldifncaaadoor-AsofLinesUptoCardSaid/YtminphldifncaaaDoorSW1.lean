/- The stable sort's walks: swapRangeCmpFunc, rotateCmpFunc. -/
import Derived.Test.YtminphldifncaaaDoorChecked
import Derived.Test.YtminphldifncaaaDoorST
import Derived.Shelf.SlSortCmp.KitK
import Derived.Deep.LoopGhost
set_option linter.unusedSimpArgs false
set_option linter.unusedVariables false
namespace Go.Proofs.YtminphldifncaaaDoor
open Go.Shelf Go.RowKit Go.Lib Go.Sort

/-- What the sort's walks lean on. -/
structure StL (P : Program) (k : Nat) : Prop where
  mixed : P.follows .mixedOrders = true
  fSw : P.funcs[79]? = some Tryd.f79
  fRo : P.funcs[76]? = some Tryd.f76
  fSy : P.funcs[70]? = some Tryd.f70
  cSw : ∀ args w, (callFunc 79 args).run P w = .ok (.enter 79 args) w
  cRo : ∀ args w, (callFunc 76 args).run P w = .ok (.enter 76 args) w
  cSy : ∀ args w, (callFunc 70 args).run P w = .ok (.enter 70 args) w
  t0 : P.underlying 0 = some (TypeDesc.tuple #[])
  a0 : ∀ w, (isAgg 0).run P w = .ok false w
  z0 : ∀ w, (Go.sizeOf 0).run P w = .ok 1 w
  v0 : ∀ w, (zeroValue 0).run P w = .ok (Value.tuple #[]) w
  t3 : P.underlying 3 = some (TypeDesc.int IntKind.i64)
  a3 : ∀ w, (isAgg 3).run P w = .ok false w
  z3 : ∀ w, (Go.sizeOf 3).run P w = .ok 1 w
  v3 : ∀ w, (zeroValue 3).run P w = .ok (Value.int IntKind.i64 0) w
  t4 : P.underlying 4 = some TypeDesc.bool
  a4 : ∀ w, (isAgg 4).run P w = .ok false w
  z4 : ∀ w, (Go.sizeOf 4).run P w = .ok 1 w
  v4 : ∀ w, (zeroValue 4).run P w = .ok (Value.bool false) w
  tU : P.underlying 104 = some (TypeDesc.int IntKind.u64)
  aU : ∀ w, (isAgg 104).run P w = .ok false w
  zU : ∀ w, (Go.sizeOf 104).run P w = .ok 1 w
  vU : ∀ w, (zeroValue 104).run P w = .ok (Value.int IntKind.u64 0) w
  tS : P.underlying 32 = some (TypeDesc.slice 34)
  aS : ∀ w, (isAgg 32).run P w = .ok false w
  zS : ∀ w, (Go.sizeOf 32).run P w = .ok 1 w
  aE : ∀ w, (isAgg 34).run P w = .ok true w
  zE : ∀ w, (Go.sizeOf 34).run P w = .ok k w

theorem stL : StL Tryd.prog 7 where
  mixed := by kernel_rfl
  fSw := Tryd.func79
  fRo := Tryd.func76
  fSy := Tryd.func70
  cSw := Tryd.call79
  cRo := Tryd.call76
  cSy := Tryd.call70
  t0 := Tryd.underlying0
  a0 := Tryd.isAgg0
  z0 := Tryd.sizeOf0
  v0 := Tryd.zeroValue0
  t3 := Tryd.underlying3
  a3 := Tryd.isAgg3
  z3 := Tryd.sizeOf3
  v3 := Tryd.zeroValue3
  t4 := Tryd.underlying4
  a4 := Tryd.isAgg4
  z4 := Tryd.sizeOf4
  v4 := Tryd.zeroValue4
  tU := Tryd.underlying104
  aU := Tryd.isAgg104
  zU := Tryd.sizeOf104
  vU := Tryd.zeroValue104
  tS := Tryd.underlying32
  aS := Tryd.isAgg32
  zS := Tryd.sizeOf32
  aE := Tryd.isAgg34
  zE := Tryd.sizeOf34

variable {α : Type} [Inhabited α]

set_option maxHeartbeats 4000000 in
set_option maxRecDepth 1000000 in
/-- n elements from a on are exchanged for those from b on. -/
theorem st_swap {P : Program} {k : Nat} (L : StL P k) (enc : α → List Value) (fv : Value) (blk off cap a b n : Nat) (d0 d : Array α) (w0 w : World)
    (R : RowK enc k w0 blk off d0) (hs : d0.size = d.size) (S : SWK enc k w0 blk off d w) (hab : a + n ≤ b) (hb : b + n ≤ d.size) (hsz : d.size < 4611686018427387904) :
    Calls P 79 #[.slice (some ⟨blk, off, none⟩) d.size cap, .int .i64 a, .int .i64 b, .int .i64 n, fv] w fun e w' =>
      e = .returned (.tuple #[]) ∧ SWK enc k w0 blk off (ST.swapR d a b n) w' := by
  have mixed := L.mixed; have t0 := L.t0; have a0 := L.a0; have z0 := L.z0; have v0 := L.v0; have t3 := L.t3; have a3 := L.a3; have z3 := L.z3; have v3 := L.v3; have t4 := L.t4; have a4 := L.a4; have z4 := L.z4; have v4 := L.v4; have tS := L.tS; have aS := L.aS; have zS := L.zS; have aE := L.aE; have zE := L.zE
  have S0 : Aside _ := S
  clear S
  go_enter L.fSw, Tryd.ntmps79
  go_wp2
  go_loopg [10] n (fun g s wr => ∃ i : Nat, s = .int .i64 i ∧ g + i = n ∧ Aside (SWK enc k w0 blk off (ST.swapR d a b i) wr))
  case atStart => exact ⟨0, rfl, by omega, S0⟩
  case round =>
    clear S0
    obtain ⟨i, rfl, hi, S1⟩ := hrel
    have hds : (ST.swapR d a b i).size = d.size := ST.size_swapR d a b i
    by_cases hlt : i < n
    · have hltz : (i : Int) < (n : Int) := by omega
      go_wp2_with fail
      have ea : ((a : Int) + (i : Int)).toNat = a + i := by omega
      have pa : (0 : Int) ≤ (a : Int) + (i : Int) := by omega
      have ba : (a : Int) + (i : Int) < (d.size : Int) := by omega
      have ra : IntKind.i64.wrap ((a : Int) + (i : Int)) = (a : Int) + (i : Int) := by rw [IntKind.wrap_i64]; omega
      have ec : ((b : Int) + (i : Int)).toNat = b + i := by omega
      have pc : (0 : Int) ≤ (b : Int) + (i : Int) := by omega
      have bc : (b : Int) + (i : Int) < (d.size : Int) := by omega
      have rc : IntKind.i64.wrap ((b : Int) + (i : Int)) = (b : Int) + (i : Int) := by rw [IntKind.wrap_i64]; omega
      have S2 : Aside (SWK enc k w0 blk off (ST.swapR d a b (i + 1)) ((wr.drew.setCells blk (off + (a + i) * k) (enc (ST.swapR d a b i)[b + i]!)).setCells blk (off + (b + i) * k) (enc (ST.swapR d a b i)[a + i]!))) := S1.out.swapped R (a + i) (b + i) (by omega) (by omega)
      have la := S1.out.ld1 R (by omega) P (a + i) (by omega)
      have lb := S1.out.ld1 R (by omega) P (b + i) (by omega)
      have sa := S1.out.st1 R (by omega) P (a + i) (by omega) (ST.swapR d a b i)[b + i]!
      have sb := S1.out.st2 R (by omega) P (a + i) (b + i) (by omega) (by omega) (ST.swapR d a b i)[b + i]! (ST.swapR d a b i)[a + i]!
      have na : (enc (ST.swapR d a b i)[a + i]!).length = k := R.hk _
      have nb : (enc (ST.swapR d a b i)[b + i]!).length = k := R.hk _
      generalize enc (ST.swapR d a b i)[a + i]! = cI at S2 la sb na
      generalize enc (ST.swapR d a b i)[b + i]! = cJ at S2 lb sa sb nb
      clear S1
      go_big_region_o
      clear la lb sa sb
      generalize (wr.drew.setCells blk (off + (a + i) * k) cJ).setCells blk (off + (b + i) * k) cI = w4 at S2 ⊢
      all_goals go_wp2
      go_roundg (gk - 1)
      case measure => omega
      case rel => exact ⟨i + 1, by go_num, by omega, S2⟩
    · have hltz : ¬ (i : Int) < (n : Int) := by omega
      go_wp2
      go_end0
      have : i = n := by omega
      subst this
      exact ⟨rfl, S1.out⟩

set_option maxHeartbeats 4000000 in
set_option maxRecDepth 1000000 in
/-- The part ahead of m changes its place with the part behind it. -/
theorem st_rot {P : Program} {k : Nat} (L : StL P k) (enc : α → List Value) (fv : Value) (blk off cap a m b : Nat) (d0 d : Array α) (w0 w : World)
    (R : RowK enc k w0 blk off d0) (hs : d0.size = d.size) (S : SWK enc k w0 blk off d w) (ham : a < m) (hmb : m < b) (hb : b ≤ d.size) (hsz : d.size < 4611686018427387904) :
    Calls P 76 #[.slice (some ⟨blk, off, none⟩) d.size cap, .int .i64 a, .int .i64 m, .int .i64 b, fv] w fun e w' =>
      e = .returned (.tuple #[]) ∧ SWK enc k w0 blk off (ST.rot m (m - a) (b - m) d) w' := by
  have mixed := L.mixed; have t0 := L.t0; have a0 := L.a0; have z0 := L.z0; have v0 := L.v0; have t3 := L.t3; have a3 := L.a3; have z3 := L.z3; have v3 := L.v3; have t4 := L.t4; have a4 := L.a4; have z4 := L.z4; have v4 := L.v4; have tS := L.tS; have aS := L.aS; have zS := L.zS
  have cSw := L.cSw
  have S0 : Aside _ := S
  have C : Hid (∀ (a b n : Nat) (e : Array α) (w : World), e.size = d.size → SWK enc k w0 blk off e w → a + n ≤ b → b + n ≤ d.size → Calls P 79 #[.slice (some ⟨blk, off, none⟩) d.size cap, .int .i64 a, .int .i64 b, .int .i64 n, fv] w fun x w' =>
      x = .returned (.tuple #[]) ∧ Aside (SWK enc k w0 blk off (ST.swapR e a b n) w')) := fun a b n e w hs' S' h1 h2 => by
    rw [← hs']
    exact (st_swap L enc fv blk off cap a b n d0 e w0 w R (by omega) S' h1 (by omega) (by omega)).mono fun _ _ h => h
  clear S
  have e1 : ((m - a : Nat) : Int) = (m : Int) - (a : Int) := by omega
  have e2 : ((b - m : Nat) : Int) = (b : Int) - (m : Int) := by omega
  go_enter L.fRo, Tryd.ntmps76
  go_wp2
  go_loopg [10, 11] (b - a) (fun gq s10 s11 wr => ∃ (i j : Nat) (dk : Array α), s10 = .int .i64 i ∧ s11 = .int .i64 j ∧ i + j ≤ gq ∧ 0 < i ∧ 0 < j ∧ i ≤ m - a ∧ m + j ≤ b ∧ dk.size = d.size ∧ Aside (SWK enc k w0 blk off dk wr) ∧ Hid (ST.rot m i j dk = ST.rot m (m - a) (b - m) d))
  case atStart => exact ⟨m - a, b - m, d, by rw [e1], by rw [e2], by omega, by omega, by omega, by omega, by omega, rfl, S0, rfl⟩
  case round =>
    clear S0 e1 e2
    obtain ⟨i, j, dk, rfl, rfl, hg, hi0, hj0, hia, hjb, hds, S1, HE⟩ := hrel
    have hmi : ((m : Int) - (i : Int)) = ((m - i : Nat) : Int) := by omega
    rcases Nat.lt_trichotomy i j with hij | hij | hij
    · have n1 : ((i : Int) != (j : Int)) = true := by simp; omega
      have n2 : ¬ (j : Int) < (i : Int) := by omega
      have hmj : ((m : Int) + (j : Int) - (i : Int)) = ((m + j - i : Nat) : Int) := by omega
      have c := C.out (m - i) (m + j - i) i dk wr (by omega) S1.out (by omega) (by omega)
      rw [← hmi, ← hmj] at c
      clear hmi hmj S1
      go_wp2_with (go_at_fn 79; refine c.mono ?_; rintro e w1 ⟨rfl, S3⟩)
      go_roundg (i + (j - i))
      case measure => omega
      case rel => exact ⟨i, j - i, _, rfl, by congr 1; omega, by omega, hi0, by omega, by omega, by omega, by rw [ST.size_swapR]; exact hds, S3, (show Hid _ from (ST.rot_lt m i j dk hi0 hij).symm.trans HE.out)⟩
    · subst hij
      have n1 : ((i : Int) != (i : Int)) = false := by simp
      have c := C.out (m - i) m i dk wr (by omega) S1.out (by omega) (by omega)
      rw [← hmi] at c
      have HE2 : ST.rot m (m - a) (b - m) d = ST.swapR dk (m - i) m i := HE.out.symm.trans (ST.rot_eq m i dk)
      have HE3 : Hid _ := HE2
      clear hmi S1 HE2
      go_wp2_with (go_at_fn 79; refine c.mono ?_; rintro e w1 ⟨rfl, S3⟩)
      go_end0
      rw [HE3.out]
      exact ⟨rfl, S3.out⟩
    · have n1 : ((i : Int) != (j : Int)) = true := by simp; omega
      have n2 : (j : Int) < (i : Int) := by omega
      have c := C.out (m - i) m j dk wr (by omega) S1.out (by omega) (by omega)
      rw [← hmi] at c
      clear hmi S1
      go_wp2_with (go_at_fn 79; refine c.mono ?_; rintro e w1 ⟨rfl, S3⟩)
      go_roundg (i - j + j)
      case measure => omega
      case rel => exact ⟨i - j, j, _, by congr 1; omega, rfl, by omega, by omega, hj0, by omega, by omega, by rw [ST.size_swapR]; exact hds, S3, (show Hid _ from (ST.rot_gt m i j dk hj0 hij).symm.trans HE.out)⟩
end Go.Proofs.YtminphldifncaaaDoor
