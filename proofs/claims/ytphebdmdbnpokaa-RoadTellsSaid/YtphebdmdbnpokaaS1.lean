/- The walks of the statements' small functions: ints, few, volumes, repeated. -/
import Derived.Test.YtphebdmdbnpokaaR6
set_option linter.unusedSimpArgs false
set_option linter.unusedVariables false
namespace Go.Proofs.Ytphebdmdbnpokaa
open Go.RowKit RD
attribute [local go_sem] alloc_drewN setCell_drewN shape_drewN
theorem lvolumes_any (C : Option Addr) (c : Nat) (L : List Vl) (t : Nat) (w : World) {B : Nat} (hV : VlsAt w B C L) (hl : L.length ≤ 9223372036854775807) (ht : t ≤ 9223372036854775807) :
    Calls Try.prog 46 #[.slice C L.length c, .int .i64 t] w (VolIs w B (volsAt (vsOf L) t)) := by
  by_cases h0 : L.length = 0
  · have h0' : ((L.length : Int) == 0) = true := by simp [h0]
    have hv : volsAt (vsOf L) t = [] := by
      obtain rfl := List.eq_nil_of_length_eq_zero h0; rfl
    have Hv := Lib.hid hv
    clear hv h0
    go_enter Try.func46, Try.ntmps46
    go_wp2_with fail
    go_ret
    exact ⟨none, 0, by rw [Hv.out]; rfl, by rw [Hv.out]; exact fun h => absurd h (Nat.lt_irrefl 0), by rw [Hv.out]; exact Nat.zero_le _, rfl⟩
  · have h0' : ((L.length : Int) == 0) = false := by rw [beq_eq_false_iff_ne]; omega
    obtain ⟨k, hk⟩ : ∃ k, k = min t (L.length - 1) := ⟨_, rfl⟩
    have hkl : k < L.length := by omega
    obtain ⟨b, off, rfl, hlt, hc, hi, hxl⟩ := vl_at hV (List.getElem?_eq_getElem hkl)
    have hv : volsAt (vsOf L) t = L[k].l := by
      unfold volsAt
      rw [vsOf_len, ← hk]
      exact vsOf_at (List.getElem?_eq_getElem hkl)
    have Hv := Lib.hid hv
    clear hv
    generalize L[k] = x at hc hi hxl Hv
    have hm : (if (L.length : Int) - 1 < (t : Int) then (L.length : Int) - 1 else (t : Int)) = (k : Int) := by split <;> omega
    have hm2 : min (t : Int) ((L.length : Int) - 1) = (k : Int) := by omega
    clear hk h0
    go_enter Try.func46, Try.ntmps46
    go_wp2_with fail
    go_ret
    exact ⟨x.a, x.c, by rw [Hv.out]; rfl, by rw [Hv.out]; exact hi, by rw [Hv.out]; exact hxl, rfl⟩
def fewB (X : Bs) (n : Nat) : Bool := decide (X.T.length ≤ 6 ∧ X.S.length ≤ 4 ∧ X.R.length ≤ 14 ∧ n ≤ 12)
def FewIs (X : Bs) (n : Nat) (w : World) (e : Ending) (w' : World) : Prop := e = .returned (.bool (fewB X n)) ∧ Below w.heap.size w w'
theorem FewIs.no {X : Bs} {n : Nat} {w w' : World} (hb : Below w.heap.size w w') (h : ¬ (X.T.length ≤ 6 ∧ X.S.length ≤ 4 ∧ X.R.length ≤ 14 ∧ n ≤ 12)) : FewIs X n w (.returned (.bool false)) w' := ⟨by unfold fewB; rw [decide_eq_false h], hb⟩
theorem FewIs.last {X : Bs} {n : Nat} {w w' : World} (hb : Below w.heap.size w w') (h : X.T.length ≤ 6 ∧ X.S.length ≤ 4 ∧ X.R.length ≤ 14) : FewIs X n w (.returned (.bool (decide ((n : Int) ≤ 12)))) w' := by
  by_cases g : (n : Int) ≤ 12
  · rw [decide_eq_true g]; exact ⟨by unfold fewB; rw [decide_eq_true (by omega)], hb⟩
  · rw [decide_eq_false g]; exact .no hb (by omega)
theorem few_any (X : Bs) (C : Option Addr) (n c : Nat) (w : World) (hn : n ≤ 9223372036854775807) : Calls Try.prog 8 #[.agg #[.string X.nm, .slice X.a1 X.l1 X.c1, .int .i64 X.cl, .slice X.a3 X.l3 X.c3, .slice X.a4 X.l4 X.c4, .slice X.a5 X.T.length X.c5, .slice X.a6 X.l6 X.c6, .slice X.a7 X.R.length X.c7, .slice X.a8 X.S.length X.c8, .slice X.a9 X.l9 X.c9, .int .i64 X.er], .slice C n c] w (FewIs X n w) := by
  have hb := (Below.refl w.heap.size w).alloc (Nat.le_refl _) (.cells #[.string X.nm, .slice X.a1 X.l1 X.c1, .int .i64 X.cl, .slice X.a3 X.l3 X.c3, .slice X.a4 X.l4 X.c4, .slice X.a5 X.T.length X.c5, .slice X.a6 X.l6 X.c6, .slice X.a7 X.R.length X.c7, .slice X.a8 X.S.length X.c8, .slice X.a9 X.l9 X.c9, .int .i64 X.er] 31)
  go_enter Try.func8, Try.ntmps8
  go_wp2_with fail
  all_goals
    go_ret
    first
      | exact .no hb (by omega)
      | exact .last hb (by omega)
set_option maxHeartbeats 2000000 in
theorem ints_eq (C D : Option Addr) (c d n : Nat) (l : List Int) (w : World) (hC : IntsAt w w.heap.size C l) (hD : IntsAt w w.heap.size D l) (hl : l.length ≤ 1000000) (hn : l.length = n) :
    Calls Try.prog 13 #[.slice C n c, .slice D n d] w fun e w' => e = .returned (.bool true) ∧ Below w.heap.size w w' := by
  subst hn
  have HC := Lib.hid hC
  have HD := Lib.hid hD
  clear hC hD
  go_enter Try.func13, Try.ntmps13
  go_wp2_with fail
  go_loopw [5] (fun kv wr => ∃ k, k ≤ l.length ∧ kv = .int .i64 (k : Nat) ∧ Below w.heap.size w wr) (fun kv _ => l.length - (intOf kv).toNat)
  case atStart => exact ⟨0, Nat.zero_le _, rfl, Below.refl _ _⟩
  case round =>
    obtain ⟨k, hk, rfl, hB⟩ := hrel
    by_cases hlt : k < l.length
    · obtain ⟨x, hx⟩ : ∃ x, l[k]? = some x := ⟨_, List.getElem?_eq_getElem hlt⟩
      obtain ⟨b, off, ec, hb, c0⟩ := ints_at (ints_below HC.out hB) hx
      obtain ⟨b2, off2, ed, hb2, d0⟩ := ints_at (ints_below HD.out hB) hx
      subst ec ed
      clear hx
      go_wp2_with fail
      go_quiet (fail)
      go_wp2_with fail
      go_roundw
      case rel => exact ⟨k + 1, by omega, by go_num, by first | exact below_drewN hB _ | exact hB⟩
      case measure => simp [intOf]; omega
    · go_wp2_with fail
      go_ret
      exact ⟨rfl, hB⟩
set_option maxHeartbeats 2000000 in
theorem repeated_no (C : Option Addr) (c n : Nat) (l : List Nat) (w : World) (hC : IntsAt w w.heap.size C (intsOf l)) (hl : l.length ≤ 1000000) (hd : l.Nodup) (hn : l.length = n) :
    Calls Try.prog 17 #[.slice C n c] w fun e w' => e = .returned (.bool false) ∧ Below w.heap.size w w' := by
  subst hn
  have HC := Lib.hid hC
  have Hd := Lib.hid hd
  clear hC hd
  go_enter Try.func17, Try.ntmps17
  go_wp2_with fail
  go_loopw [3] (fun kv wr => ∃ k, k ≤ l.length ∧ kv = .int .i64 (k : Nat) ∧ Below w.heap.size w wr) (fun kv _ => l.length - (intOf kv).toNat)
  case atStart => exact ⟨0, Nat.zero_le _, rfl, Below.refl _ _⟩
  case round =>
    obtain ⟨i, hi, rfl, hB⟩ := hrel
    by_cases hlt : i < l.length
    · obtain ⟨w0, hw0⟩ : ∃ x, x = wr := ⟨_, rfl⟩
      rw [← hw0] at hB ⊢
      clear hw0
      go_wp2_with fail
      go_loopw [4] (fun kv wr => ∃ k, k ≤ i ∧ kv = .int .i64 (k : Nat) ∧ Below w.heap.size w wr) (fun kv _ => i - (intOf kv).toNat)
      case atStart => exact ⟨0, Nat.zero_le _, rfl, hB⟩
      case round =>
        clear hB
        obtain ⟨k, hk, rfl, hB⟩ := hrel
        by_cases hlt2 : k < i
        · obtain ⟨x, hx⟩ : ∃ x, l[k]? = some x := ⟨_, List.getElem?_eq_getElem (by omega)⟩
          obtain ⟨y, hy⟩ : ∃ y, l[i]? = some y := ⟨_, List.getElem?_eq_getElem hlt⟩
          have hne : x ≠ y := fun e => by
            have := List.pairwise_iff_getElem.1 Hd.out k i (by omega) hlt hlt2
            rw [List.getElem?_eq_getElem (by omega)] at hx hy
            exact this (by rw [Option.some.inj hx, Option.some.inj hy, e])
          obtain ⟨b, off, ec, hb, c0⟩ := ints_at (ints_below HC.out hB) (k := k) (x := (x : Int)) (by simp [intsOf, hx])
          obtain ⟨b2, off2, ed, hb2, d0⟩ := ints_at (ints_below HC.out hB) (k := i) (x := (y : Int)) (by simp [intsOf, hy])
          subst ec
          simp at ed
          obtain ⟨rfl, rfl⟩ := ed
          have d1 : ((x : Int) == (y : Int)) = false := by rw [beq_eq_false_iff_ne]; omega
          have d2 : (x == y) = false := by rw [beq_eq_false_iff_ne]; exact hne
          clear hx hy hne
          go_wp2_with fail
          go_quiet (fail)
          go_wp2_with fail
          go_roundw
          case rel => exact ⟨k + 1, by omega, by go_num, by first | exact below_drewN hB _ | exact hB⟩
          case measure => simp [intOf]; omega
        · go_wp2_with fail
          go_roundw
          case rel => exact ⟨i + 1, by omega, by go_num, hB⟩
          case measure => simp [intOf]; omega
    · go_wp2_with fail
      go_ret
      exact ⟨rfl, hB⟩
end Go.Proofs.Ytphebdmdbnpokaa
