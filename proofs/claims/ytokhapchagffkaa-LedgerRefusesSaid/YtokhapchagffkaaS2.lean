/- The walk of the reference's Sum. -/
import Derived.Test.YtokhapchagffkaaS1
set_option linter.unusedSimpArgs false
set_option linter.unusedVariables false
namespace Go.Proofs.Ytokhapchagffkaa
open Go.RowKit LG
attribute [local go_sem] alloc_drewN setCell_drewN shape_drewN

/-- The lower half of a number, whatever its sign. -/
theorem low_half (n : Int) : bits .and .i64 n 4294967295 = n % 4294967296 := by
  have h1 : (BitVec.ofInt 64 n &&& BitVec.ofInt 64 4294967295).toNat = (n % 18446744073709551616).toNat % 4294967296 := by
    rw [BitVec.toNat_and, BitVec.toNat_ofInt, BitVec.toNat_ofInt]
    have e1 : ((4294967295 : Int) % ((2 ^ 64 : Nat) : Int)).toNat = 2 ^ 32 - 1 := by decide
    have e2 : ((2 ^ 64 : Nat) : Int) = 18446744073709551616 := by decide
    rw [e1, e2, Nat.and_two_pow_sub_one_eq_mod]
  show IntKind.i64.wrap ((BitVec.ofInt 64 n &&& BitVec.ofInt 64 4294967295).toNat : Int) = _
  rw [h1, IntKind.wrap_i64]
  omega
/-- The two halves of the sum so far. -/
structure HalfAt (l : List Int) (k : Nat) (hi lo : Int) : Prop where
  sum : hi * 4294967296 + lo = (l.take k).sum
  l0 : 0 ≤ lo
  l1 : lo ≤ k * 4294967295
  h0 : -(k * 2147483648) ≤ hi
  h1 : hi ≤ k * 2147483648
theorem HalfAt.start (l : List Int) : HalfAt l 0 0 0 := ⟨by simp, by simp, by simp, by simp, by simp⟩
theorem HalfAt.step {l : List Int} {k : Nat} {hi lo n : Int} (h : HalfAt l k hi lo) (hn : l[k]? = some n) (hI : In64 n) : HalfAt l (k + 1) (hi + n / 4294967296) (lo + n % 4294967296) := by
  obtain ⟨a, b, c, d, e⟩ := h
  obtain ⟨i1, i2⟩ := hI
  have t := take_sum hn
  refine ⟨?_, ?_, ?_, ?_, ?_⟩
  · rw [t]; omega
  all_goals omega
theorem HalfAt.stop {l : List Int} {hi lo : Int} (h : HalfAt l l.length hi lo) :
    (inB l.sum = true → -2147483648 ≤ hi + lo / 4294967296 ∧ hi + lo / 4294967296 ≤ 2147483647 ∧ (hi + lo / 4294967296) * 4294967296 + lo % 4294967296 = l.sum) ∧ (inB l.sum = false → hi + lo / 4294967296 < -2147483648 ∨ 2147483647 < hi + lo / 4294967296) := by
  obtain ⟨a, b, c, d, e⟩ := h
  rw [List.take_length] at a
  generalize l.sum = S at *
  have hB : inB S = true ↔ (-9223372036854775808 ≤ S ∧ S ≤ 9223372036854775807) := by simp [inB]
  have hN : inB S = false ↔ ¬ (-9223372036854775808 ≤ S ∧ S ≤ 9223372036854775807) := by rw [← hB]; simp
  rw [hB, hN]
  refine ⟨fun p => ⟨?_, ?_, ?_⟩, fun p => ?_⟩ <;> omega
set_option maxHeartbeats 4000000 in
theorem rsum_any (l : List Int) (C : Option Addr) (cc : Nat) (w : World) {B : Nat} (hC : IntsAt w B C l) (hl : l.length ≤ 1048576) (hI : ∀ x ∈ l, In64 x) :
    Calls Try.prog 27 #[.slice C l.length cc] w (SumIs l w) := by
  go_enter Try.func27, Try.ntmps27
  go_wp2_with fail
  go_loopw [4, 5, 6] (fun hi lo i wr => ∃ (k : Nat) (h o : Int), k ≤ l.length ∧ i = .int .i64 k ∧ hi = .int .i64 h ∧ lo = .int .i64 o ∧ HalfAt l k h o ∧ wr = w) (fun _ _ i _ => l.length - (intOf i).toNat)
  case atStart => exact ⟨0, 0, 0, by omega, rfl, rfl, rfl, HalfAt.start l, rfl⟩
  case round =>
    obtain ⟨k, h, o, hk, rfl, rfl, rfl, hS, rfl⟩ := hrel
    by_cases hlt : k < l.length
    · obtain ⟨n, hx⟩ : ∃ n, l[k]? = some n := ⟨_, List.getElem?_eq_getElem hlt⟩
      obtain ⟨b, off, rfl, hb, c0⟩ := hC.at_ hx
      have hn := hI n (List.mem_of_getElem? hx)
      have hT : Hid (HalfAt l (k + 1) (h + n / 4294967296) (o + n % 4294967296)) := hS.step hx hn
      obtain ⟨_, b1, b2, b3, b4⟩ := hS
      obtain ⟨i1, i2⟩ := hn
      have e1 := low_half n
      clear hx
      go_wp2_with fail
      go_roundw
      case rel => exact ⟨k + 1, _, _, hlt, by go_num, rfl, rfl, hT.out, trivial⟩
      case measure => simp [intOf]; omega
    · have hke : k = l.length := by omega
      subst hke
      obtain ⟨q1, q2⟩ := hS.stop
      obtain ⟨_, b1, b2, b3, b4⟩ := hS
      cases hB : inB l.sum with
      | true =>
        have hR : Hid (sumX l = (l.sum, true)) := by show _ = _; unfold sumX; rw [if_pos hB]
        obtain ⟨p1, p2, p3⟩ := q1 hB
        have p3h : Hid _ := p3
        have e1 := low_half o
        clear q1 q2 hB p3
        go_wp2_with fail
        go_ret2
        exact ⟨by rw [hR.out, ← p3h.out]; rfl, rfl⟩
      | false =>
        have hR : Hid (sumX l = (0, false)) := by show _ = _; unfold sumX; rw [if_neg (by simp [hB])]
        have p := q2 hB
        clear q1 q2 hB
        rcases p with p | p
        · go_wp2_with fail
          go_ret2
          exact ⟨by rw [hR.out]; rfl, rfl⟩
        · go_wp2_with fail
          go_ret2
          exact ⟨by rw [hR.out]; rfl, rfl⟩
end Go.Proofs.Ytokhapchagffkaa
