/- The walk of the reference's last. (Printed by gen_rw11.py.) -/
import Derived.Deep.Cut
import Derived.Test.YtchmplnkddgncaaDoorRW9
set_option linter.unusedSimpArgs false
set_option linter.unusedVariables false
namespace Go.Proofs.YtchmplnkddgncaaDoor
open Go.RowKit CM RG
attribute [local go_sem] alloc_drewN setCell_drewN shape_drewN

/-- The index of a deal, or -1. -/
def LastIs (L : List Dl) (n : Int) (o : Option Dl) : Prop := (n = -1 ∧ o = none) ∨ ∃ (j : Nat) (d : Dl), n = j ∧ L[j]? = some d ∧ o = some d
theorem last_skip {no np : Nat} {day known k id : Int} {L : List Dl} {i : Nat} {d : Dl} (h : L[i]? = some d) (hn : ¬ (d.kind = k ∧ d.right.id = id ∧ d.known ≤ known ∧ appB no np day d = true)) : lastOf k id (counted no np day known (L.take (i + 1))) = lastOf k id (counted no np day known (L.take i)) := by
  rw [counted_snoc' h]
  by_cases q : d.known ≤ known ∧ appB no np day d = true
  · rw [if_pos q, lastOf_snoc, if_neg (fun e => hn ⟨e.1, e.2, q.1, q.2⟩)]
  · rw [if_neg q, List.append_nil]
theorem last_pick {no np : Nat} {day known k id : Int} {L : List Dl} {i : Nat} {d : Dl} (h : L[i]? = some d) (hn : d.kind = k ∧ d.right.id = id ∧ d.known ≤ known ∧ appB no np day d = true) : lastOf k id (counted no np day known (L.take (i + 1))) = pick (lastOf k id (counted no np day known (L.take i))) d := by
  rw [counted_snoc' h, if_pos hn.2.2, lastOf_snoc, if_pos ⟨hn.1, hn.2.1⟩]
set_option maxRecDepth 100000 in
set_option maxHeartbeats 8000000 in
theorem last_any (X : Bas) (pl : Pl) (L : List Dl) (C : Option Addr) (cc : Nat) (kd id day known : Int) (w : World) {B : Nat} (hk0 : kd ≠ 0) (hC : DealsAt w B C L) (hB : B ≤ w.heap.size) (hl : L.length ≤ 100) (hl1 : X.l1 ≤ 9223372036854775807) (hl2 : pl.length ≤ 9223372036854775807) :
    Calls Tryd.prog 37 #[.agg #[.string X.nm, .slice X.a1 X.l1 X.c1, .int .i64 X.cl, .slice X.P pl.length X.cP, .slice X.a4 X.l4 X.c4, .slice X.a5 X.l5 X.c5, .slice X.a6 X.l6 X.c6, .slice X.a7 X.l7 X.c7, .slice X.a8 X.l8 X.c8, .slice X.a9 X.l9 X.c9, .int .i64 X.er], .slice C L.length cc, .int .i64 kd, .int .i64 id, .int .i64 day, .int .i64 known] w (fun e w' => ∃ n, e = .returned (.int .i64 n) ∧ LastIs L n (lastOf kd id (counted X.l1 pl.length day known L)) ∧ Below w.heap.size w w') := by
  have KC := Lib.hid (fun (i : Nat) (d : Dl) (wx : World) (h : Below w.heap.size w wx) (hd : L[i]? = some d) => counts_any X pl L C cc i d day known wx (hC.below (h.mono hB)) (Nat.le_trans hB h.size) hl hd hl1 hl2)
  have hB0 : Below w.heap.size w (w.alloc (.cells #[.string X.nm, .slice X.a1 X.l1 X.c1, .int .i64 X.cl, .slice X.P pl.length X.cP, .slice X.a4 X.l4 X.c4, .slice X.a5 X.l5 X.c5, .slice X.a6 X.l6 X.c6, .slice X.a7 X.l7 X.c7, .slice X.a8 X.l8 X.c8, .slice X.a9 X.l9 X.c9, .int .i64 X.er] 31)) := (Below.refl _ _).alloc (Nat.le_refl _) _
  have hbx : BoxR (w.alloc (.cells #[.string X.nm, .slice X.a1 X.l1 X.c1, .int .i64 X.cl, .slice X.P pl.length X.cP, .slice X.a4 X.l4 X.c4, .slice X.a5 X.l5 X.c5, .slice X.a6 X.l6 X.c6, .slice X.a7 X.l7 X.c7, .slice X.a8 X.l8 X.c8, .slice X.a9 X.l9 X.c9, .int .i64 X.er] 31)) w.heap.size X pl := heap_alloc_new w _
  obtain ⟨F, hF⟩ : ∃ F : Nat → Option Dl, F = fun i => lastOf kd id (counted X.l1 pl.length day known (L.take i)) := ⟨_, rfl⟩
  have hF0 : Hid (F 0 = none) := by show _ = _; rw [hF]; rfl
  have hFe : Hid (lastOf kd id (counted X.l1 pl.length day known L) = F L.length) := by show _ = _; rw [hF]; simp only [List.take_length]
  have hFs : Hid (∀ i d, L[i]? = some d → ¬ (d.kind = kd ∧ d.right.id = id ∧ d.known ≤ known ∧ appB X.l1 pl.length day d = true) → F (i + 1) = F i) := fun i d h hn => by rw [hF]; exact last_skip h hn
  have hFp : Hid (∀ i d, L[i]? = some d → (d.kind = kd ∧ d.right.id = id ∧ d.known ≤ known ∧ appB X.l1 pl.length day d = true) → F (i + 1) = pick (F i) d) := fun i d h hn => by rw [hF]; exact last_pick h hn
  clear hF
  go_enter Tryd.func37, Tryd.ntmps37
  go_wp2_with fail
  go_loopw [13, 14] (fun s13 s14 wr => ∃ (n : Int) (i : Nat), s13 = .int .i64 n ∧ s14 = .int .i64 i ∧ i ≤ L.length ∧ Hid (LastIs L n (F i)) ∧ Hid (BoxR wr w.heap.size X pl ∧ Below w.heap.size w wr ∧ w.heap.size + 1 ≤ wr.heap.size)) (fun _ s14 _ => L.length - (intOf s14).toNat)
  case atStart => exact ⟨-1, 0, rfl, rfl, Nat.zero_le _, Or.inl ⟨rfl, hF0.out⟩, hbx, hB0, by simp⟩
  case round =>
    clear hbx hB0
    obtain ⟨n, i, rfl, rfl, hi, hL, hW⟩ := hrel
    obtain ⟨hbx, hBw, hz⟩ := hW.out
    obtain ⟨x0, x1, x2, x3, x4, x5, x6, x7, x8, x9, x10⟩ := hbx.cells
    have z0 : w.heap.size < wr.heap.size := by omega
    by_cases hlt : i < L.length
    · obtain ⟨d, hd⟩ : ∃ e, L[i]? = some e := ⟨_, List.getElem?_eq_getElem hlt⟩
      obtain ⟨b, off, rfl, hb, q0, q1, q2, q3, q4, q5, q6, q7, q8, q9, q10, q11, q12⟩ := (hC.below (hBw.mono hB)).at_ hd
      have hbw : b < wr.heap.size := by omega
      have hii : (0 : Int) ≤ (i : Int) ∧ (i : Int) < (L.length : Int) := by omega
      have HD := Lib.hid hd
      have hS := Lib.hid (hFs.out i d hd)
      have hP := Lib.hid (hFp.out i d hd)
      have KC1 := Lib.hid (KC.out i d wr hBw hd)
      clear hd
      by_cases h1 : d.kind = kd
      case neg =>
        have HN : Hid (F (i + 1) = F i) := hS.out (fun e => h1 e.1)
        have e1 : (d.kind != kd) = true := by simpa using h1
        clear h1 hS hP KC1
        go_wp2_with fail
        go_roundw
        case rel => exact ⟨n, i + 1, rfl, by go_num, by omega, (by rw [HN.out]; exact hL), hbx, hBw, hz⟩
        case measure => simp [intOf]; omega
      have e1 : (d.kind != kd) = false := by simpa using h1
      by_cases h2 : d.right.id = id
      case neg =>
        have HN : Hid (F (i + 1) = F i) := hS.out (fun e => h2 e.2.1)
        have e2 : (d.right.id != id) = true := by simpa using h2
        clear h1 h2 hS hP KC1
        go_wp2_with fail
        go_roundw
        case rel => exact ⟨n, i + 1, rfl, by go_num, by omega, (by rw [HN.out]; exact hL), hbx, hBw, hz⟩
        case measure => simp [intOf]; omega
      have e2 : (d.right.id != id) = false := by simpa using h2
      have hcb : countsB X.l1 pl.length day known L i d = (decide (d.known ≤ known) && appB X.l1 pl.length day d) := counts_other (by rw [h1]; exact hk0)
      have H1 := Lib.hid h1
      have H2 := Lib.hid h2
      clear h1 h2
      cases hc : countsB X.l1 pl.length day known L i d with
      | false =>
        have HN : Hid (F (i + 1) = F i) := hS.out (fun e => by rw [hcb, decide_eq_true e.2.2.1, e.2.2.2] at hc; cases hc)
        rw [hc] at KC1
        clear hS hP hcb hc
        go_wp2_with (first | (go_at_call 36; (with_reducible refine KC1.out.mono ?_); rintro e9 w9 ⟨rfl, hb9⟩) | fail)
        go_roundw
        case rel => exact ⟨n, i + 1, rfl, by go_num, by omega, (by rw [HN.out]; exact hL), hbx.below hb9 (by omega), hBw.trans (hb9.mono (by omega)), by have := hb9.size; omega⟩
        case measure => simp [intOf]; omega
      | true =>
        have HN : Hid (F (i + 1) = pick (F i) d) := hP.out (by
          rw [hcb, Bool.and_eq_true, decide_eq_true_eq] at hc
          exact ⟨H1.out, H2.out, hc.1, hc.2⟩)
        rw [hc] at KC1
        clear hS hP hcb hc
        rcases hL.out with ⟨hn, hN⟩ | ⟨j, y, hn, hy, hN⟩
        · have hneg : n < 0 := by omega
          have HR : Hid (LastIs L (i : Int) (F (i + 1))) := Or.inr ⟨i, d, rfl, HD.out, by rw [HN.out, hN]; rfl⟩
          clear HN hN hL
          subst hn
          go_wp2_with (first | (go_at_call 36; (with_reducible refine KC1.out.mono ?_); rintro e9 w9 ⟨rfl, hb9⟩) | fail)
          go_roundw
          case rel => exact ⟨i, i + 1, rfl, by go_num, by omega, HR, hbx.below hb9 (by omega), hBw.trans (hb9.mono (by omega)), by have := hb9.size; omega⟩
          case measure => simp [intOf]; omega
        · subst hn
          have hjl := (List.getElem?_eq_some_iff.1 hy).1
          obtain ⟨bq, oq, hbo, hbq, p0, p1, _⟩ := (hC.below (hBw.mono hB)).at_ hy
          injection hbo with hbo
          injection hbo with hb1 hb2
          subst hb1 hb2
          have hneg : ¬ (j : Int) < 0 := by omega
          have hjj : (0 : Int) ≤ (j : Int) ∧ (j : Int) < (L.length : Int) := by omega
          have HY := Lib.hid hy
          clear hy
          by_cases hle : y.known ≤ d.known
          · have HR : Hid (LastIs L (i : Int) (F (i + 1))) := Or.inr ⟨i, d, rfl, HD.out, by rw [HN.out, hN]; exact if_pos hle⟩
            have dle : decide (y.known ≤ d.known) = true := decide_eq_true hle
            clear HN hN hL
            go_upto_region 8 with (first | (go_at_call 36; (with_reducible refine KC1.out.mono ?_); rintro e9 w9 ⟨rfl, hb9⟩; have g1 := (hb9.cell (p := ⟨b, off + i * 13 + 1, none⟩) hbw).trans q1; have g2 := (hb9.cell (p := ⟨b, off + j * 13 + 1, none⟩) hbw).trans p1) | fail)
            go_quiet (fail)
            go_wp2_with fail
            go_roundw
            case rel => exact ⟨i, i + 1, rfl, by go_num, by omega, HR, (hbx.below (below_drewN hb9 nq) (by omega)), below_drewN (hBw.trans (hb9.mono (by omega))) _, by have := hb9.size; show _ ≤ w9.heap.size; omega⟩
            case measure => simp [intOf]; omega
          · have HR : Hid (LastIs L (j : Int) (F (i + 1))) := Or.inr ⟨j, y, rfl, HY.out, by rw [HN.out, hN]; exact if_neg hle⟩
            have dle : decide (y.known ≤ d.known) = false := decide_eq_false hle
            clear HN hN hL
            go_upto_region 8 with (first | (go_at_call 36; (with_reducible refine KC1.out.mono ?_); rintro e9 w9 ⟨rfl, hb9⟩; have g1 := (hb9.cell (p := ⟨b, off + i * 13 + 1, none⟩) hbw).trans q1; have g2 := (hb9.cell (p := ⟨b, off + j * 13 + 1, none⟩) hbw).trans p1) | fail)
            go_quiet (fail)
            go_wp2_with fail
            go_roundw
            case rel => exact ⟨j, i + 1, rfl, by go_num, by omega, HR, (hbx.below (below_drewN hb9 nq) (by omega)), below_drewN (hBw.trans (hb9.mono (by omega))) _, by have := hb9.size; show _ ≤ w9.heap.size; omega⟩
            case measure => simp [intOf]; omega
    · have hke : i = L.length := by omega
      subst hke
      go_wp2_with fail
      go_ret
      exact ⟨n, rfl, by rw [hFe.out]; exact hL.out, hBw⟩
end Go.Proofs.YtchmplnkddgncaaDoor
