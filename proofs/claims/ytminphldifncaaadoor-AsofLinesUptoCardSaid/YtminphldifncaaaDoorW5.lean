/- Joined of: W5. -/
import Derived.Shelf.Spec.SlicesGrow
import Derived.Test.YtminphldifncaaaDoorG06
/- Walks of full and of slices.Concat. (Printed by gen_w5.py.) -/
set_option linter.unusedSimpArgs false
set_option linter.unusedVariables false
namespace Go.Proofs.YtminphldifncaaaDoor
open Go.RowKit LG
attribute [local go_sem] alloc_drewN setCell_drewN shape_drewN

set_option maxHeartbeats 8000000 in
theorem full_any (l e : List Et) (C1 C2 : Option Addr) (c1 c2 g : Nat) (w : World) {B : Nat} (h1 : EntsAt w B C1 l) (h2 : EntsAt w B C2 e) (hB : B ≤ w.heap.size) (hl1 : l.length ≤ 1000000) (hl2 : e.length ≤ 1000000) (hI1 : LitsIn l) (hI2 : LitsIn e)
    (hg : g < w.heap.size) (g0 : w.cell? ⟨g, 0, none⟩ = some (.slice C1 l.length c1)) (g1 : w.cell? ⟨g, 1, none⟩ = some (.slice C2 e.length c2)) :
    Calls Tryd.prog 32 #[.slice (some ⟨g, 0, none⟩) 2 2] w (BoolIs (fullB l e) w) := by
  go_enter Tryd.func32, Tryd.ntmps32
  go_wp2_with fail
  refine wp_loop_rounds 3 ?_
  rw [rounds_succ]
  go_wp2_with fail
  go_loopw [3, 17] (fun s i wr => ∃ (k : Nat) (m : Int), k ≤ l.length ∧ i = .int .i64 k ∧ s = .int .u64 m ∧ 0 ≤ m ∧ m ≤ 4611686018427387904 ∧ Hid (m = 0 + absS (l.take k)) ∧ Below w.heap.size w wr ∧ w.heap.size ≤ wr.heap.size) (fun _ i _ => l.length - (intOf i).toNat)
  case atStart => exact ⟨0, 0, Nat.zero_le _, rfl, rfl, by omega, by omega, (by show _ = _; rw [List.take_zero, absS_nil]; rfl), Below.refl _ _, Nat.le_refl _⟩
  case round =>
    obtain ⟨k, m, hk, rfl, rfl, hm0, hm1, hm, hBw, hz⟩ := hrel
    by_cases hlt : k < l.length
    · obtain ⟨x, hx⟩ : ∃ x, l[k]? = some x := ⟨_, List.getElem?_eq_getElem hlt⟩
      obtain ⟨b, off, heq, hb, r0, r1, r2, r3, r4, r5, r6⟩ := (h1.below (hBw.mono hB)).at_ hx
      subst heq
      have hbw : b < wr.heap.size := by omega
      have HT : Hid (absS (l.take (k + 1)) = absS (l.take k) + absI x.litres) := absS_take hx
      have HLE : Hid (absS (l.take (k + 1)) ≤ absS l) := absS_le _ _
      obtain ⟨in1, in2⟩ := hI1 x (List.mem_of_getElem? hx)
      clear hx
      by_cases c3 : x.litres < 0
      · have e1 : IntKind.u64.wrap x.litres = x.litres + 18446744073709551616 := by rw [IntKind.wrap_u64]; omega
        have e2 : IntKind.u64.wrap (-(x.litres + 18446744073709551616)) = -x.litres := by rw [IntKind.wrap_u64]; omega
        have e3 : IntKind.u64.wrap (m + -x.litres) = m + -x.litres := by rw [IntKind.wrap_u64]; omega
        have hn : Hid (m + -x.litres = 0 + absS (l.take (k + 1))) := by
          have a1 := HT.out; have a2 := hm.out
          show _ = _
          rcases absI_cases x.litres with ⟨p1, p2⟩ | ⟨p1, p2⟩ <;> omega
        by_cases c4 : 4611686018427387904 < m + -x.litres
        · have HF : Hid (fullB l e = true) := by
            show _ = _
            have a1 := hn.out; have a2 := HLE.out; have a3 := absS_nn l; have a4 := absS_nn e
            unfold fullB
            exact decide_eq_true (by omega)
          go_wp2_with fail
          all_goals (go_ret; exact ⟨ret_bool HF.out.symm, hBw.alloc hz _⟩)
        · go_wp2_with fail
          go_roundw
          case rel => exact ⟨k + 1, _, by omega, by go_num, rfl, by omega, by omega, (by have a := hn.out; show _ = _; omega), hBw.alloc hz _, by simp; omega⟩
          case measure => simp [intOf]; omega
      · have e1 : IntKind.u64.wrap x.litres = x.litres := by rw [IntKind.wrap_u64]; omega
        have e3 : IntKind.u64.wrap (m + x.litres) = m + x.litres := by rw [IntKind.wrap_u64]; omega
        have hn : Hid (m + x.litres = 0 + absS (l.take (k + 1))) := by
          have a1 := HT.out; have a2 := hm.out
          show _ = _
          rcases absI_cases x.litres with ⟨p1, p2⟩ | ⟨p1, p2⟩ <;> omega
        by_cases c4 : 4611686018427387904 < m + x.litres
        · have HF : Hid (fullB l e = true) := by
            show _ = _
            have a1 := hn.out; have a2 := HLE.out; have a3 := absS_nn l; have a4 := absS_nn e
            unfold fullB
            exact decide_eq_true (by omega)
          go_wp2_with fail
          all_goals (go_ret; exact ⟨ret_bool HF.out.symm, hBw.alloc hz _⟩)
        · go_wp2_with fail
          go_roundw
          case rel => exact ⟨k + 1, _, by omega, by go_num, rfl, by omega, by omega, (by have a := hn.out; show _ = _; omega), hBw.alloc hz _, by simp; omega⟩
          case measure => simp [intOf]; omega
    · have hke : k = l.length := by omega
      subst hke
      rw [List.take_length] at hm
      have hm1' := hm
      have q1 : wr.cell? ⟨g, 1, none⟩ = some (.slice C2 e.length c2) := (hBw.cell (p := ⟨g, 1, none⟩) (by show g < _; omega)).trans g1
      have hgw : g < wr.heap.size := by omega
      have hz1 := hz
      have hBw1 := hBw
      go_wp2_with fail
      rw [rounds_succ]
      go_wp2_with fail
      go_loopw [3, 17] (fun s i wr => ∃ (k : Nat) (m : Int), k ≤ e.length ∧ i = .int .i64 k ∧ s = .int .u64 m ∧ 0 ≤ m ∧ m ≤ 4611686018427387904 ∧ Hid (m = absS l + absS (e.take k)) ∧ Below w.heap.size w wr ∧ w.heap.size ≤ wr.heap.size) (fun _ i _ => e.length - (intOf i).toNat)
      case atStart => exact ⟨0, m, Nat.zero_le _, rfl, rfl, hm0, hm1, (by show _ = _; rw [List.take_zero, absS_nil]; have := hm1'.out; omega), hBw1, hz1⟩
      case round =>
        obtain ⟨k, m, hk, rfl, rfl, hm0, hm1, hm, hBw, hz⟩ := hrel
        by_cases hlt : k < e.length
        · obtain ⟨x, hx⟩ : ∃ x, e[k]? = some x := ⟨_, List.getElem?_eq_getElem hlt⟩
          obtain ⟨b, off, heq, hb, r0, r1, r2, r3, r4, r5, r6⟩ := (h2.below (hBw.mono hB)).at_ hx
          subst heq
          have hbw : b < wr.heap.size := by omega
          have HT : Hid (absS (e.take (k + 1)) = absS (e.take k) + absI x.litres) := absS_take hx
          have HLE : Hid (absS (e.take (k + 1)) ≤ absS e) := absS_le _ _
          obtain ⟨in1, in2⟩ := hI2 x (List.mem_of_getElem? hx)
          clear hx
          by_cases c3 : x.litres < 0
          · have e1 : IntKind.u64.wrap x.litres = x.litres + 18446744073709551616 := by rw [IntKind.wrap_u64]; omega
            have e2 : IntKind.u64.wrap (-(x.litres + 18446744073709551616)) = -x.litres := by rw [IntKind.wrap_u64]; omega
            have e3 : IntKind.u64.wrap (m + -x.litres) = m + -x.litres := by rw [IntKind.wrap_u64]; omega
            have hn : Hid (m + -x.litres = absS l + absS (e.take (k + 1))) := by
              have a1 := HT.out; have a2 := hm.out
              show _ = _
              rcases absI_cases x.litres with ⟨p1, p2⟩ | ⟨p1, p2⟩ <;> omega
            by_cases c4 : 4611686018427387904 < m + -x.litres
            · have HF : Hid (fullB l e = true) := by
                show _ = _
                have a1 := hn.out; have a2 := HLE.out; have a3 := absS_nn l; have a4 := absS_nn e
                unfold fullB
                exact decide_eq_true (by omega)
              go_wp2_with fail
              all_goals (go_ret; exact ⟨ret_bool HF.out.symm, hBw.alloc hz _⟩)
            · go_wp2_with fail
              go_roundw
              case rel => exact ⟨k + 1, _, by omega, by go_num, rfl, by omega, by omega, (by have a := hn.out; show _ = _; omega), hBw.alloc hz _, by simp; omega⟩
              case measure => simp [intOf]; omega
          · have e1 : IntKind.u64.wrap x.litres = x.litres := by rw [IntKind.wrap_u64]; omega
            have e3 : IntKind.u64.wrap (m + x.litres) = m + x.litres := by rw [IntKind.wrap_u64]; omega
            have hn : Hid (m + x.litres = absS l + absS (e.take (k + 1))) := by
              have a1 := HT.out; have a2 := hm.out
              show _ = _
              rcases absI_cases x.litres with ⟨p1, p2⟩ | ⟨p1, p2⟩ <;> omega
            by_cases c4 : 4611686018427387904 < m + x.litres
            · have HF : Hid (fullB l e = true) := by
                show _ = _
                have a1 := hn.out; have a2 := HLE.out; have a3 := absS_nn l; have a4 := absS_nn e
                unfold fullB
                exact decide_eq_true (by omega)
              go_wp2_with fail
              all_goals (go_ret; exact ⟨ret_bool HF.out.symm, hBw.alloc hz _⟩)
            · go_wp2_with fail
              go_roundw
              case rel => exact ⟨k + 1, _, by omega, by go_num, rfl, by omega, by omega, (by have a := hn.out; show _ = _; omega), hBw.alloc hz _, by simp; omega⟩
              case measure => simp [intOf]; omega
        · have hke : k = e.length := by omega
          subst hke
          rw [List.take_length] at hm
          go_wp2_with fail
          rw [rounds_succ]
          have HF : Hid (fullB l e = false) := by
            show _ = _
            have a := hm.out
            unfold fullB
            exact decide_eq_false (by omega)
          go_wp2_with fail
          go_ret
          exact ⟨ret_bool HF.out.symm, hBw⟩
end Go.Proofs.YtminphldifncaaaDoor

