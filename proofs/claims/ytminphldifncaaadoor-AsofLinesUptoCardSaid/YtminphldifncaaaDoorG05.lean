/- Joined of: S1 S2. -/
import Derived.Shelf.Spec.BitsCarry
import Derived.Test.YtminphldifncaaaDoorEM
/- The walk of exact.Sum. -/
set_option linter.unusedSimpArgs false
set_option linter.unusedVariables false
namespace Go.Proofs.YtminphldifncaaaDoor
open Go.RowKit LG
attribute [local go_sem] alloc_drewN setCell_drewN shape_drewN

def addRen : Go.Shelf.Ren := ⟨fun | 25 => 68 | n => n, fun | 22 => 91 | n => n, fun n => n⟩
theorem addLays : Lays7.n25 Tryd.prog addRen where
  mixed := by kernel_rfl
  f25 := Tryd.func68.trans (congrArg some (by kernel_rfl))
  t22 := Tryd.underlying91
  a22 := Tryd.isAgg91
  z22 := Tryd.sizeOf91
  v22 := Tryd.zeroValue91
  i22 := by kernel_rfl
theorem add64 (x y c : Int) (hx : 0 ≤ x) (hy : 0 ≤ y) (hc0 : 0 ≤ c) (hc : c ≤ 1) (w : World) : (callFunc 68 #[.int .u64 x, .int .u64 y, .int .u64 c]).run Tryd.prog w =
    .ok (.value (.tuple #[.int .u64 ((x + y + c) % 18446744073709551616), .int .u64 ((x + y + c) / 18446744073709551616)])) w := by
  obtain ⟨x, rfl⟩ := Int.eq_ofNat_of_zero_le hx
  obtain ⟨y, rfl⟩ := Int.eq_ofNat_of_zero_le hy
  obtain ⟨c, rfl⟩ := Int.eq_ofNat_of_zero_le hc0
  refine (Any7.bits_Add64 addLays x y c (by omega) w).trans ?_
  congr 5 <;> omega
theorem add64_0 (x y : Int) (hx : 0 ≤ x) (hy : 0 ≤ y) (w : World) : (callFunc 68 #[.int .u64 x, .int .u64 y, .int .u64 0]).run Tryd.prog w =
    .ok (.value (.tuple #[.int .u64 ((x + y) % 18446744073709551616), .int .u64 ((x + y) / 18446744073709551616)])) w := by
  simpa using add64 x y 0 hx hy (Int.le_refl 0) (by decide) w

/-- How far the sum stands: hi and lo are its two words. -/
structure SumAt (l : List Int) (k : Nat) (hi lo : Int) : Prop where
  lo : lo = (l.take k).sum % 18446744073709551616
  hi : hi = (l.take k).sum / 18446744073709551616 % 18446744073709551616
  le : (l.take k).sum ≤ k * 9223372036854775808
  ge : -(k * 9223372036854775808) ≤ (l.take k).sum
theorem SumAt.start (l : List Int) : SumAt l 0 0 0 := ⟨by simp, by simp, by simp, by simp⟩
theorem take_sum {l : List Int} {k : Nat} {n : Int} (h : l[k]? = some n) : (l.take (k + 1)).sum = (l.take k).sum + n := by
  rw [List.take_add_one, h]; simp
theorem SumAt.step {l : List Int} {k : Nat} {hi lo n u b c lo' hi' : Int} (h : SumAt l k hi lo) (hn : l[k]? = some n) (hI : In64 n) (hu : u = n % 18446744073709551616) (hb : b = n / 9223372036854775808 % 18446744073709551616)
    (hl : lo' = (lo + u) % 18446744073709551616) (hc : c = (lo + u) / 18446744073709551616) (hh : hi' = (hi + b + c) % 18446744073709551616) : SumAt l (k + 1) hi' lo' := by
  obtain ⟨h1, h2, h3, h4⟩ := h
  obtain ⟨i1, i2⟩ := hI
  have e := take_sum hn
  generalize (l.take k).sum = S at *
  refine ⟨?_, ?_, ?_, ?_⟩ <;> rw [e] <;> omega
theorem SumAt.stop {l : List Int} {hi lo : Int} (h : SumAt l l.length hi lo) (hl : l.length ≤ 1048576) : 0 ≤ lo ∧ lo < 18446744073709551616 ∧
    (inB l.sum = true → lo < 9223372036854775808 → hi = 0 ∧ lo = l.sum) ∧ (inB l.sum = true → 9223372036854775808 ≤ lo → hi = 18446744073709551615 ∧ lo - 18446744073709551616 = l.sum) ∧
    (inB l.sum = false → lo < 9223372036854775808 → hi ≠ 0) ∧ (inB l.sum = false → 9223372036854775808 ≤ lo → hi ≠ 18446744073709551615) := by
  obtain ⟨h1, h2, h3, h4⟩ := h
  rw [List.take_length] at h1 h2 h3 h4
  generalize l.sum = S at *
  have hB : inB S = true ↔ (-9223372036854775808 ≤ S ∧ S ≤ 9223372036854775807) := by simp [inB]
  have hN : inB S = false ↔ ¬ (-9223372036854775808 ≤ S ∧ S ≤ 9223372036854775807) := by rw [← hB]; simp
  rw [hB, hN]
  refine ⟨by omega, by omega, fun a b => ⟨?_, ?_⟩, fun a b => ⟨?_, ?_⟩, fun a b => ?_, fun a b => ?_⟩ <;> omega
def SumIs (l : List Int) (w : World) (e : Ending) (w' : World) : Prop := e = .returned (.tuple #[.int .i64 (sumX l).1, .bool (sumX l).2]) ∧ w = w'
set_option maxHeartbeats 4000000 in
theorem sum_any (l : List Int) (C : Option Addr) (cc : Nat) (w : World) {B : Nat} (hC : IntsAt w B C l) (hl : l.length ≤ 1048576) (hI : ∀ x ∈ l, In64 x) :
    Calls Tryd.prog 56 #[.slice C l.length cc] w (SumIs l w) := by
  go_enter Tryd.func56, Tryd.ntmps56
  go_wp2_with fail
  go_loopw [4, 5, 11] (fun hi lo i wr => ∃ (k : Nat) (h o : Int), k ≤ l.length ∧ i = .int .i64 k ∧ hi = .int .u64 h ∧ lo = .int .u64 o ∧ Hid (SumAt l k h o) ∧ 0 ≤ h ∧ 0 ≤ o ∧ h < 18446744073709551616 ∧ o < 18446744073709551616 ∧ wr = w) (fun _ _ i _ => l.length - (intOf i).toNat)
  case atStart => exact ⟨0, 0, 0, by omega, rfl, rfl, rfl, SumAt.start l, by omega, by omega, by omega, by omega, rfl⟩
  case round =>
    obtain ⟨k, h, o, hk, rfl, rfl, rfl, hS, h0, o0, h1, o1, rfl⟩ := hrel
    by_cases hlt : k < l.length
    · obtain ⟨n, hx⟩ : ∃ n, l[k]? = some n := ⟨_, List.getElem?_eq_getElem hlt⟩
      obtain ⟨b, off, rfl, hb, c0⟩ := hC.at_ hx
      have hn := hI n (List.mem_of_getElem? hx)
      have hX : Hid (l[k]? = some n ∧ In64 n) := ⟨hx, hn⟩
      obtain ⟨u, hu⟩ : ∃ u, u = n % 18446744073709551616 := ⟨_, rfl⟩
      obtain ⟨v, hv⟩ : ∃ v, v = n / 9223372036854775808 % 18446744073709551616 := ⟨_, rfl⟩
      clear hx hn
      have hU : Hid (u = n % 18446744073709551616 ∧ v = n / 9223372036854775808 % 18446744073709551616) := ⟨hu, hv⟩
      have u0 : 0 ≤ u := by omega
      have v0 : 0 ≤ v := by omega
      have e1 : IntKind.u64.wrap n = u := by rw [IntKind.wrap_u64, hu]
      have e2 : IntKind.u64.wrap (n / 9223372036854775808) = v := by rw [IntKind.wrap_u64, hv]
      clear hu hv
      have a1 := fun w => add64_0 o u o0 u0 w
      have c1 : 0 ≤ (o + u) / 18446744073709551616 := by omega
      have c2 : (o + u) / 18446744073709551616 ≤ 1 := by have := hU.out.1; omega
      have a2 := fun w => add64 h v ((o + u) / 18446744073709551616) h0 v0 c1 c2 w
      have hT : Hid (SumAt l (k + 1) ((h + v + (o + u) / 18446744073709551616) % 18446744073709551616) ((o + u) % 18446744073709551616)) := hS.out.step hX.out.1 hX.out.2 hU.out.1 hU.out.2 rfl rfl rfl
      go_wp2_with (first | simp only [a1] | simp only [a2] | fail)
      go_roundw
      case rel => exact ⟨k + 1, _, _, hlt, by go_num, rfl, rfl, hT, by omega, by omega, by omega, by omega, trivial⟩
      case measure => simp [intOf]; omega
    · have hke : k = l.length := by omega
      subst hke
      obtain ⟨q0, q1, q2, q3, q4, q5⟩ := hS.out.stop hl
      cases hB : inB l.sum with
      | true =>
        have hR : Hid (sumX l = (l.sum, true)) := by show _ = _; unfold sumX; rw [if_pos hB]
        rcases Int.lt_or_le o 9223372036854775808 with c | c
        · obtain ⟨rfl, rfl⟩ := q2 hB c
          have e1 : IntKind.i64.wrap l.sum = l.sum := by rw [IntKind.wrap_i64]; omega
          have e2 : l.sum / 9223372036854775808 = 0 := by omega
          clear q2 q3 q4 q5 hB hS
          go_wp2_with fail
          go_ret2
          exact ⟨by rw [hR.out]; rfl, rfl⟩
        · obtain ⟨rfl, q⟩ := q3 hB c
          have e1 : IntKind.i64.wrap o = o - 18446744073709551616 := by rw [IntKind.wrap_i64]; omega
          have e2 : (o - 18446744073709551616) / 9223372036854775808 = -1 := by omega
          have e3 : IntKind.u64.wrap (-1) = 18446744073709551615 := by rw [IntKind.wrap_u64]; rfl
          have hq : Hid (o - 18446744073709551616 = l.sum) := q
          clear q2 q3 q4 q5 hB hS q
          go_wp2_with fail
          go_ret2
          exact ⟨by rw [hR.out, ← hq.out]; rfl, rfl⟩
      | false =>
        have hR : Hid (sumX l = (0, false)) := by show _ = _; unfold sumX; rw [if_neg (by simp [hB])]
        rcases Int.lt_or_le o 9223372036854775808 with c | c
        · have q := q4 hB c
          have e1 : IntKind.i64.wrap o = o := by rw [IntKind.wrap_i64]; omega
          have e2 : o / 9223372036854775808 = 0 := by omega
          have e3 : (h != 0) = true := by simpa using q
          clear q2 q3 q4 q5 hB hS q
          go_wp2_with fail
          go_ret2
          exact ⟨by rw [hR.out]; rfl, rfl⟩
        · have q := q5 hB c
          have e1 : IntKind.i64.wrap o = o - 18446744073709551616 := by rw [IntKind.wrap_i64]; omega
          have e2 : (o - 18446744073709551616) / 9223372036854775808 = -1 := by omega
          have e3 : IntKind.u64.wrap (-1) = 18446744073709551615 := by rw [IntKind.wrap_u64]; rfl
          have e4 : (h != 18446744073709551615) = true := by simpa using q
          clear q2 q3 q4 q5 hB hS q
          go_wp2_with fail
          go_ret2
          exact ⟨by rw [hR.out]; rfl, rfl⟩
end Go.Proofs.YtminphldifncaaaDoor

/- The walk of the reference's Sum. -/
namespace Go.Proofs.YtminphldifncaaaDoor
open Go.RowKit LG
attribute [local go_sem] alloc_drewN setCell_drewN shape_drewN

/-- The lower half of a number, whatever its sign. -/
theorem low_half (n : Int) : bits .and .i64 n 4294967295 = n % 4294967296 := by
  have h1 : (BitVec.ofInt 64 n &&& BitVec.ofInt 64 4294967295).toNat = (n % 18446744073709551616).toNat % 4294967296 := by
    rw [BitVec.toNat_and, BitVec.toNat_ofInt, BitVec.toNat_ofInt]
    have e1 : ((4294967295 : Int) % ((2 ^ 64 : Nat) : Int)).toNat = 2 ^ 32 - 1 := by decide
    have e2 : ((2 ^ 64 : Nat) : Int) = 18446744073709551616 := by decide
    rw [e1, e2, Nat.and_two_pow_sub_one_eq_mod]
  show IntKind.i64.wrap ((BitVec.ofInt 64 n &&& BitVec.ofInt 64 4294967295).toNat : Int) = _
  rw [h1, IntKind.wrap_i64]
  omega
/-- The two halves of the sum so far. -/
structure HalfAt (l : List Int) (k : Nat) (hi lo : Int) : Prop where
  sum : hi * 4294967296 + lo = (l.take k).sum
  l0 : 0 ≤ lo
  l1 : lo ≤ k * 4294967295
  h0 : -(k * 2147483648) ≤ hi
  h1 : hi ≤ k * 2147483648
theorem HalfAt.start (l : List Int) : HalfAt l 0 0 0 := ⟨by simp, by simp, by simp, by simp, by simp⟩
theorem HalfAt.step {l : List Int} {k : Nat} {hi lo n : Int} (h : HalfAt l k hi lo) (hn : l[k]? = some n) (hI : In64 n) : HalfAt l (k + 1) (hi + n / 4294967296) (lo + n % 4294967296) := by
  obtain ⟨a, b, c, d, e⟩ := h
  obtain ⟨i1, i2⟩ := hI
  have t := take_sum hn
  refine ⟨?_, ?_, ?_, ?_, ?_⟩
  · rw [t]; omega
  all_goals omega
theorem HalfAt.stop {l : List Int} {hi lo : Int} (h : HalfAt l l.length hi lo) :
    (inB l.sum = true → -2147483648 ≤ hi + lo / 4294967296 ∧ hi + lo / 4294967296 ≤ 2147483647 ∧ (hi + lo / 4294967296) * 4294967296 + lo % 4294967296 = l.sum) ∧ (inB l.sum = false → hi + lo / 4294967296 < -2147483648 ∨ 2147483647 < hi + lo / 4294967296) := by
  obtain ⟨a, b, c, d, e⟩ := h
  rw [List.take_length] at a
  generalize l.sum = S at *
  have hB : inB S = true ↔ (-9223372036854775808 ≤ S ∧ S ≤ 9223372036854775807) := by simp [inB]
  have hN : inB S = false ↔ ¬ (-9223372036854775808 ≤ S ∧ S ≤ 9223372036854775807) := by rw [← hB]; simp
  rw [hB, hN]
  refine ⟨fun p => ⟨?_, ?_, ?_⟩, fun p => ?_⟩ <;> omega
set_option maxHeartbeats 4000000 in
theorem rsum_any (l : List Int) (C : Option Addr) (cc : Nat) (w : World) {B : Nat} (hC : IntsAt w B C l) (hl : l.length ≤ 1048576) (hI : ∀ x ∈ l, In64 x) :
    Calls Tryd.prog 63 #[.slice C l.length cc] w (SumIs l w) := by
  go_enter Tryd.func63, Tryd.ntmps63
  go_wp2_with fail
  go_loopw [4, 5, 6] (fun hi lo i wr => ∃ (k : Nat) (h o : Int), k ≤ l.length ∧ i = .int .i64 k ∧ hi = .int .i64 h ∧ lo = .int .i64 o ∧ HalfAt l k h o ∧ wr = w) (fun _ _ i _ => l.length - (intOf i).toNat)
  case atStart => exact ⟨0, 0, 0, by omega, rfl, rfl, rfl, HalfAt.start l, rfl⟩
  case round =>
    obtain ⟨k, h, o, hk, rfl, rfl, rfl, hS, rfl⟩ := hrel
    by_cases hlt : k < l.length
    · obtain ⟨n, hx⟩ : ∃ n, l[k]? = some n := ⟨_, List.getElem?_eq_getElem hlt⟩
      obtain ⟨b, off, rfl, hb, c0⟩ := hC.at_ hx
      have hn := hI n (List.mem_of_getElem? hx)
      have hT : Hid (HalfAt l (k + 1) (h + n / 4294967296) (o + n % 4294967296)) := hS.step hx hn
      obtain ⟨_, b1, b2, b3, b4⟩ := hS
      obtain ⟨i1, i2⟩ := hn
      have e1 := low_half n
      clear hx
      go_wp2_with fail
      go_roundw
      case rel => exact ⟨k + 1, _, _, hlt, by go_num, rfl, rfl, hT.out, trivial⟩
      case measure => simp [intOf]; omega
    · have hke : k = l.length := by omega
      subst hke
      obtain ⟨q1, q2⟩ := hS.stop
      obtain ⟨_, b1, b2, b3, b4⟩ := hS
      cases hB : inB l.sum with
      | true =>
        have hR : Hid (sumX l = (l.sum, true)) := by show _ = _; unfold sumX; rw [if_pos hB]
        obtain ⟨p1, p2, p3⟩ := q1 hB
        have p3h : Hid _ := p3
        have e1 := low_half o
        clear q1 q2 hB p3
        go_wp2_with fail
        go_ret2
        exact ⟨by rw [hR.out, ← p3h.out]; rfl, rfl⟩
      | false =>
        have hR : Hid (sumX l = (0, false)) := by show _ = _; unfold sumX; rw [if_neg (by simp [hB])]
        have p := q2 hB
        clear q1 q2 hB
        rcases p with p | p
        · go_wp2_with fail
          go_ret2
          exact ⟨by rw [hR.out]; rfl, rfl⟩
        · go_wp2_with fail
          go_ret2
          exact ⟨by rw [hR.out]; rfl, rfl⟩
end Go.Proofs.YtminphldifncaaaDoor

