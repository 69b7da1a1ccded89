/- The walk of the reference's Balanced. -/
import Derived.Test.YtokhapchagffkaaW11
set_option linter.unusedSimpArgs false
set_option linter.unusedVariables false
namespace Go.Proofs.Ytokhapchagffkaa
open Go.RowKit LG
attribute [local go_sem] alloc_drewN setCell_drewN shape_drewN

theorem row_drewN {w : World} {n₀ e size k : Nat} {v : Value} {xs : List Value} (h : w.ownsRow n₀ e size v k xs) (n : Nat) : (w.drewN n).ownsRow n₀ e size v k xs := h
def balT (l : List Et) (known : Int) (k : Nat) : Bool := (l.take k).all fun e => !decide (e.known ≤ known) || zeroX (l.filter (sameG e))
theorem balT_succ {l : List Et} {known : Int} {k : Nat} {x : Et} (h : l[k]? = some x) : balT l known (k + 1) = (balT l known k && (!decide (x.known ≤ known) || zeroX (l.filter (sameG x)))) := by
  unfold balT; rw [List.take_add_one, h, List.all_append]; simp
theorem balT_no {l : List Et} {known : Int} {k : Nat} {x : Et} (h : l[k]? = some x) (h1 : x.known ≤ known) (h2 : zeroX (l.filter (sameG x)) = false) : balanced l known = false := by
  unfold balanced
  rw [List.all_eq_false]
  exact ⟨x, List.mem_of_getElem? h, by rw [decide_eq_true h1, h2]; simp⟩
theorem filT_end (p : Et → Bool) (l : List Et) : filT p l l.length = l.filter p := by unfold filT; rw [List.take_length]
set_option maxRecDepth 100000 in
set_option maxHeartbeats 8000000 in
theorem rbalanced_any (l : List Et) (C : Option Addr) (cc : Nat) (known : Int) (w : World) {B : Nat} (hC : EntsAt w B C l) (hB : B ≤ w.heap.size) (hl : l.length ≤ 1000000) (hI : LitsIn l) :
    Calls Try.prog 15 #[.slice C l.length cc, .int .i64 known] w (BoolIs (balanced l known) w) := by
  obtain ⟨i0, hi, hz0, hz1, hz2⟩ := info_parts Try.infoEntry
  go_enter Try.func15, Try.ntmps15
  go_wp2_with fail
  go_loopw [5] (fun i wr => ∃ (k : Nat), k ≤ l.length ∧ i = .int .i64 k ∧ Hid (balT l known k = true) ∧ Below w.heap.size w wr ∧ w.heap.size ≤ wr.heap.size) (fun i _ => l.length - (intOf i).toNat)
  case atStart => exact ⟨0, Nat.zero_le _, rfl, rfl, Below.refl _ _, Nat.le_refl _⟩
  case round =>
    obtain ⟨k, hk, rfl, hT, hBw, hz⟩ := hrel
    by_cases hlt : k < l.length
    · obtain ⟨x, hx⟩ : ∃ x, l[k]? = some x := ⟨_, List.getElem?_eq_getElem hlt⟩
      obtain ⟨b, off, rfl, hb, r0, r1, _⟩ := hC.at_ hx
      have q0 := (hBw.cell (p := ⟨b, off + k * 7, none⟩) (by show b < _; omega)).trans r0
      have q1 := (hBw.cell (p := ⟨b, off + k * 7 + 1, none⟩) (by show b < _; omega)).trans r1
      have HX := Lib.hid hx
      have HS := Lib.hid (balT_succ (known := known) hx)
      have hbw : b < wr.heap.size := by omega
      clear hx
      by_cases hkn : known < x.known
      · have d1 : decide (known < x.known) = true := decide_eq_true hkn
        have hT2 : Hid (balT l known (k + 1) = true) := by show _ = _; rw [HS.out, hT.out, decide_eq_false (by omega)]; rfl
        go_wp2_with fail
        go_roundw
        case rel => exact ⟨k + 1, by omega, by go_num, hT2, hBw, hz⟩
        case measure => simp [intOf]; omega
      · have d1 : decide (known < x.known) = false := decide_eq_false hkn
        obtain ⟨wo, rfl⟩ : ∃ wo, wo = wr := ⟨_, rfl⟩
        go_wp2_with fail
        go_loopw [6, 7] (fun out j wr => ∃ (c : Nat), c ≤ l.length ∧ j = .int .i64 c ∧ wr.ownsRow wo.heap.size 36 7 out (filT (sameG x) l c).length (rowE (filT (sameG x) l c)) ∧ Below wo.heap.size wo wr ∧ wo.heap.size ≤ wr.heap.size) (fun _ j _ => l.length - (intOf j).toNat)
        case atStart => exact ⟨0, Nat.zero_le _, rfl, World.ownsRow_nil _ _ _ _, Below.refl _ _, Nat.le_refl _⟩
        case round =>
          obtain ⟨c, hc, rfl, hrow, hBo, hzo⟩ := hrel
          by_cases hlc : c < l.length
          · obtain ⟨y, hy⟩ : ∃ y, l[c]? = some y := ⟨_, List.getElem?_eq_getElem hlc⟩
            obtain ⟨b2, off2, heq, hb2, s0, s1, s2, s3, s4, s5, s6⟩ := (hC.below (hBw.mono hB)).at_ hy
            obtain ⟨rfl, rfl⟩ : b = b2 ∧ off = off2 := by injection heq with h1; injection h1 with h2 h3; exact ⟨h2, h3⟩
            clear heq
            have q := fun o => hBo.cell (p := ⟨b, o, none⟩) (by show b < _; omega)
            have t0 := (q _).trans s0
            have t1 := (q _).trans s1
            have t2 := (q _).trans s2
            have t3 := (q _).trans s3
            have t4 := (q _).trans s4
            have t5 := (q _).trans s5
            have t6 := (q _).trans s6
            have u0 := (q _).trans q0
            have u1 := (q _).trans q1
            clear q s0 s1 s2 s3 s4 s5 s6
            have hlen := filT_len (sameG x) l c
            have HF := Lib.hid (filT_succ (sameG x) l hy)
            have hbw2 : b < wr.heap.size := by omega
            clear hy
            by_cases e0 : y.day = x.day
            · by_cases e1 : y.known = x.known
              · have g0 : (y.day == x.day) = true := by simpa using e0
                have g1 : (y.known == x.known) = true := by simpa using e1
                have HF2 : Hid (filT (sameG x) l (c + 1) = filT (sameG x) l c ++ [y]) := by show _ = _; rw [HF.out, if_pos (by unfold sameG; rw [decide_eq_true e0, decide_eq_true e1]; rfl)]
                clear e0 e1 HF
                go_wp2_with fail
                go_quiet (fail)
                go_wp2_with (first | (at_builtin; refine wpList_append_own _ rfl _ _ 22 rfl wo.heap.size 36 i0 _ 7 56 Try.underlying22 hi hz0 hz1 hz2 rfl (by decide) _ (filT (sameG x) l c).length _ rfl (row_drewN (hrow.alloc _) nq) ⟨wr.heap.size, 0, none⟩ 1 1 y.cells rfl rfl (cells_at (by rfl) _ _) (cells_one y) (by unfold maxLen; omega) (by omega) (by simp; omega) ?_; intro v' w2 hown' hgrow _; obtain ⟨g', cap', rfl, hgq1, hgq2⟩ := hown'.form (by omega)) | fail)
                have hb3 : Below wo.heap.size wr w2 := by
                  have h1 : Below wo.heap.size wr ((wr.alloc (.cells y.cells.toArray 36)).drewN nq) := below_drewN ((Below.refl _ _).alloc hzo _) _
                  exact h1.trans (below_own (row_drewN (hrow.alloc (.cells y.cells.toArray 36)) nq) (by show _ ≤ (wr.alloc _).heap.size; simp; omega) hgrow)
                go_roundw
                case rel => exact ⟨c + 1, by omega, by go_num, by rw [HF2.out, rowE_snoc, List.length_append]; exact hown', hBo.trans hb3, by have := hb3.size; omega⟩
                case measure => simp [intOf]; omega
              · have g0 : (y.day == x.day) = true := by simpa using e0
                have g1 : (y.known == x.known) = false := by simpa using e1
                have HF2 : Hid (filT (sameG x) l (c + 1) = filT (sameG x) l c) := by show _ = _; rw [HF.out, if_neg (by unfold sameG; rw [decide_eq_false e1]; simp)]
                clear e0 e1 HF
                go_wp2_with fail
                go_quiet (fail)
                go_wp2_with fail
                go_roundw
                case rel => exact ⟨c + 1, by omega, by go_num, by rw [HF2.out]; exact row_drewN hrow _, below_drewN hBo _, hzo⟩
                case measure => simp [intOf]; omega
            · have g0 : (y.day == x.day) = false := by simpa using e0
              have HF2 : Hid (filT (sameG x) l (c + 1) = filT (sameG x) l c) := by show _ = _; rw [HF.out, if_neg (by unfold sameG; rw [decide_eq_false e0]; simp)]
              clear e0 HF
              go_wp2_with fail
              go_quiet (fail)
              go_wp2_with fail
              go_roundw
              case rel => exact ⟨c + 1, by omega, by go_num, by rw [HF2.out]; exact row_drewN hrow _, below_drewN hBo _, hzo⟩
              case measure => simp [intOf]; omega
          · have hke : c = l.length := by omega
            subst hke
            rw [filT_end] at hrow
            have hfl : (l.filter (sameG x)).length ≤ l.length := List.length_filter_le _ _
            obtain ⟨D, dc, he, hD, _⟩ := ents_of_owns hrow
            subst he
            have K := zero_any (l.filter (sameG x)) D dc wr hD (Nat.le_refl _) (by omega) (fun e he => hI e (List.mem_filter.1 he).1)
            unfold BoolIs at K
            cases hzx : zeroX (l.filter (sameG x)) with
            | false =>
              have HF : Hid (balanced l known = false) := balT_no HX.out (by omega) hzx
              rw [hzx] at K
              have K := Lib.hid K
              clear hzx hrow
              go_wp2_with (first | (go_at_call 28; (with_reducible refine K.out.mono ?_); rintro x1 w1 ⟨rfl, hb1⟩) | fail)
              go_ret
              exact ⟨ret_bool HF.out.symm, (hBw.trans (hBo.mono hz)).trans (hb1.mono (by omega))⟩
            | true =>
              have hT2 : Hid (balT l known (k + 1) = true) := by show _ = _; rw [HS.out, hT.out, hzx]; simp
              rw [hzx] at K
              have K := Lib.hid K
              clear hzx hrow
              go_wp2_with (first | (go_at_call 28; (with_reducible refine K.out.mono ?_); rintro x1 w1 ⟨rfl, hb1⟩) | fail)
              go_roundw
              case rel => exact ⟨k + 1, by omega, by go_num, hT2, (hBw.trans (hBo.mono hz)).trans (hb1.mono (by omega)), by have := hb1.size; omega⟩
              case measure => simp [intOf]; omega
    · have hke : k = l.length := by omega
      subst hke
      have hR : Hid (balanced l known = true) := by have h := hT.out; unfold balT at h; rw [List.take_length] at h; exact h
      go_wp2_with fail
      go_ret
      exact ⟨ret_bool hR.out.symm, hBw⟩
end Go.Proofs.Ytokhapchagffkaa
