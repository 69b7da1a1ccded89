/- The walk of the reference's Roster. (Printed by gen_rw12.py.) -/
import Derived.Test.YtchmplnkddgncaaDoorRW11
import Derived.Test.YtchmplnkddgncaaDoorRW10
set_option linter.unusedSimpArgs false
set_option linter.unusedVariables false
namespace Go.Proofs.YtchmplnkddgncaaDoor
open Go.RowKit CM RG
attribute [local go_sem] alloc_drewN setCell_drewN shape_drewN

theorem ret_slice (C : Option Addr) (n c : Nat) : True := trivial
def BoxRt (w : World) (b : Nat) (r : Rt) : Prop := w.heap[b]? = some (.cells #[.int .i64 r.id, .int .i64 r.owner, .int .i64 r.date, .int .i64 r.place, .int .i64 r.rate, .int .i64 r.from1, .int .i64 r.until1, .int .i64 r.back, .int .i64 r.backTo] 33 (0, 0))
theorem BoxRt.cells {w : World} {b : Nat} {r : Rt} (h : BoxRt w b r) : w.cell? ⟨b, 0, none⟩ = some (.int .i64 r.id) ∧ w.cell? ⟨b, 1, none⟩ = some (.int .i64 r.owner) ∧ w.cell? ⟨b, 2, none⟩ = some (.int .i64 r.date) ∧ w.cell? ⟨b, 3, none⟩ = some (.int .i64 r.place) ∧ w.cell? ⟨b, 4, none⟩ = some (.int .i64 r.rate) ∧ w.cell? ⟨b, 5, none⟩ = some (.int .i64 r.from1) ∧ w.cell? ⟨b, 6, none⟩ = some (.int .i64 r.until1) ∧ w.cell? ⟨b, 7, none⟩ = some (.int .i64 r.back) ∧ w.cell? ⟨b, 8, none⟩ = some (.int .i64 r.backTo) := by
  have h : w.heap[b]? = _ := h
  refine ⟨?_, ?_, ?_, ?_, ?_, ?_, ?_, ?_, ?_⟩ <;> simp [World.cell?, h]
theorem BoxRt.frozen {w : World} {b : Nat} {r : Rt} (h : BoxRt w b r) (j : Nat) : w.frozen? ⟨b, j, none⟩ = false := by
  have h : w.heap[b]? = _ := h
  simp [World.frozen?, h]
theorem BoxRt.below {w w1 : World} {b : Nat} {r : Rt} (h : BoxRt w b r) {B : Nat} (hb : Below B w w1) (hB : b < B) : BoxRt w1 b r := (hb.block b hB).trans h
theorem set1_grown (w : World) (b off : Nat) (v : Value) : w.grownBy (w.setCell ⟨b, off, none⟩ v) (some b) := ⟨rfl, rfl, rfl, by simp, fun i _ hi => Below.heap_setCell _ _ _ i (fun e => hi (by rw [e]))⟩
theorem row_off {w w1 : World} {n₀ e size k b : Nat} {v : Value} {xs : List Value} (h : w.ownsRow n₀ e size v k xs) (hb : ∀ g, v.ownBlock = some g → g ≠ b) (hg : w.grownBy w1 (some b)) : w1.ownsRow n₀ e size v k xs := h.kept hg (by
  cases q : v.ownBlock with
  | none => exact .inl rfl
  | some g => exact .inr (fun e => hb g q (by injection e)))
theorem last_some {L : List Dl} {n : Int} {o : Option Dl} (h : LastIs L n o) : (o.isSome = true ↔ 0 ≤ n) := by
  rcases h with ⟨h1, h2⟩ | ⟨j, d, h1, _, h2⟩
  · rw [h2]; simp; omega
  · rw [h2]; simp; omega
set_option maxRecDepth 100000 in
set_option maxHeartbeats 8000000 in
theorem rroster_any (X : Bas) (pl : Pl) (L : List Dl) (C : Option Addr) (cc : Nat) (day known : Int) (w : World) {B : Nat} (hC : DealsAt w B C L) (hB : B ≤ w.heap.size) (hl : L.length ≤ 100) (hl1 : X.l1 ≤ 9223372036854775807) (hl2 : pl.length ≤ 9223372036854775807) (hI : DlsIn L) :
    Calls Tryd.prog 17 #[.agg #[.string X.nm, .slice X.a1 X.l1 X.c1, .int .i64 X.cl, .slice X.P pl.length X.cP, .slice X.a4 X.l4 X.c4, .slice X.a5 X.l5 X.c5, .slice X.a6 X.l6 X.c6, .slice X.a7 X.l7 X.c7, .slice X.a8 X.l8 X.c8, .slice X.a9 X.l9 X.c9, .int .i64 X.er], .slice C L.length cc, .int .i64 day, .int .i64 known] w (RightsRes (rosterR X.l1 pl.length day known L) w) := by
  obtain ⟨i0, hi, hv0, hv1, hv2⟩ := info_parts Tryd.infoRight
  obtain ⟨K, hK⟩ : ∃ K, K = counted X.l1 pl.length day known L := ⟨_, rfl⟩
  have KC := Lib.hid (fun (i : Nat) (d : Dl) (wx : World) (h : Below w.heap.size w wx) (hd : L[i]? = some d) => counts_any X pl L C cc i d day known wx (hC.below (h.mono hB)) (Nat.le_trans hB h.size) hl hd hl1 hl2)
  have KL : Hid (∀ (kd id : Int) (wx : World), kd ≠ 0 → Below w.heap.size w wx → Calls Tryd.prog 37 #[.agg #[.string X.nm, .slice X.a1 X.l1 X.c1, .int .i64 X.cl, .slice X.P pl.length X.cP, .slice X.a4 X.l4 X.c4, .slice X.a5 X.l5 X.c5, .slice X.a6 X.l6 X.c6, .slice X.a7 X.l7 X.c7, .slice X.a8 X.l8 X.c8, .slice X.a9 X.l9 X.c9, .int .i64 X.er], .slice C L.length cc, .int .i64 kd, .int .i64 id, .int .i64 day, .int .i64 known] wx (fun e w' => ∃ n, e = .returned (.int .i64 n) ∧ LastIs L n (lastOf kd id K) ∧ Below wx.heap.size wx w')) := fun kd id wx hk h => by
    rw [hK]; exact last_any X pl L C cc kd id day known wx hk (hC.below (h.mono hB)) (Nat.le_trans hB h.size) hl hl1 hl2
  have hB0 : Below w.heap.size w (w.alloc (.cells #[.string X.nm, .slice X.a1 X.l1 X.c1, .int .i64 X.cl, .slice X.P pl.length X.cP, .slice X.a4 X.l4 X.c4, .slice X.a5 X.l5 X.c5, .slice X.a6 X.l6 X.c6, .slice X.a7 X.l7 X.c7, .slice X.a8 X.l8 X.c8, .slice X.a9 X.l9 X.c9, .int .i64 X.er] 31)) := (Below.refl _ _).alloc (Nat.le_refl _) _
  have hbx : BoxR (w.alloc (.cells #[.string X.nm, .slice X.a1 X.l1 X.c1, .int .i64 X.cl, .slice X.P pl.length X.cP, .slice X.a4 X.l4 X.c4, .slice X.a5 X.l5 X.c5, .slice X.a6 X.l6 X.c6, .slice X.a7 X.l7 X.c7, .slice X.a8 X.l8 X.c8, .slice X.a9 X.l9 X.c9, .int .i64 X.er] 31)) w.heap.size X pl := heap_alloc_new w _
  obtain ⟨acc, hacc⟩ : ∃ f : Nat → List Rt, f = fun i => outT day K (grantsOf (counted X.l1 pl.length day known (L.take i))) := ⟨_, rfl⟩
  have hA0 : Hid (acc 0 = []) := by show _ = _; rw [hacc]; rfl
  have hAe : Hid (rosterR X.l1 pl.length day known L = orderR (acc L.length)) := by show _ = _; rw [hacc]; unfold rosterR; rw [← outT_all, ← hK]; simp only [List.take_length]; rw [← hK]
  have hAs : Hid (∀ i d, L[i]? = some d → (d.kind = 0 → countsB X.l1 pl.length day known L i d = false) → acc (i + 1) = acc i) := fun i d h hn => by
    rw [hacc]
    show outT day K (grantsOf (counted X.l1 pl.length day known (L.take (i + 1)))) = outT day K (grantsOf (counted X.l1 pl.length day known (L.take i)))
    rw [counted_snoc' h]
    split
    · rename_i q
      rw [grantsOf_snoc, if_neg]
      rintro ⟨q1, q2⟩
      have := (counts_grant (L := L) (i := i) q1).2 ⟨q, q2⟩
      rw [hn q1] at this
      cases this
    · rw [List.append_nil]
  have hAp : Hid (∀ i d, L[i]? = some d → d.kind = 0 → countsB X.l1 pl.length day known L i d = true → acc (i + 1) = if seasonB d.right day = true ∧ endedB K d.right.id = false then acc i ++ [changed K d.right] else acc i) := fun i d h h0 hc => by
    obtain ⟨q1, q2⟩ := (counts_grant h0).1 hc
    rw [hacc]
    show outT day K (grantsOf (counted X.l1 pl.length day known (L.take (i + 1)))) = _
    rw [counted_snoc' h, if_pos q1, grantsOf_snoc, if_pos ⟨h0, q2⟩]
    exact outT_snoc day K _ _
  have hAl : Hid (∀ i, (acc i).length ≤ L.length) := fun i => by
    rw [hacc]
    exact Nat.le_trans (outT_len _ _ _) (Nat.le_trans (grantsOf_len _) (counted_len L i))
  clear hacc hK
  have hm0 := hI
  go_enter Tryd.func17, Tryd.ntmps17
  go_wp2_with fail
  go_loopw [9, 10] (fun s9 s10 wr => ∃ (i : Nat) (out : Value), out = s9 ∧ s10 = .int .i64 i ∧ i ≤ L.length ∧ wr.ownsRow (w.heap.size + 1) 33 9 out (acc i).length (rowR (acc i)) ∧ Hid (BoxR wr w.heap.size X pl ∧ Below w.heap.size w wr ∧ w.heap.size + 1 ≤ wr.heap.size)) (fun _ s10 _ => L.length - (intOf s10).toNat)
  case atStart => exact ⟨0, _, rfl, rfl, Nat.zero_le _, by rw [hA0.out]; exact World.ownsRow_nil _ _ _ _, hbx, hB0, by simp⟩
  case round =>
    clear hbx hB0
    obtain ⟨i, out, rfl, rfl, hi2, hown, hW⟩ := hrel
    obtain ⟨hbx, hBw, hz⟩ := hW.out
    obtain ⟨x0, x1, x2, x3, x4, x5, x6, x7, x8, x9, x10⟩ := hbx.cells
    have z0 : w.heap.size < wr.heap.size := by omega
    by_cases hlt : i < L.length
    · obtain ⟨d, hd⟩ : ∃ e, L[i]? = some e := ⟨_, List.getElem?_eq_getElem hlt⟩
      obtain ⟨b, off, rfl, hb, q0, q1, q2, q3, q4, q5, q6, q7, q8, q9, q10, q11, q12⟩ := (hC.below (hBw.mono hB)).at_ hd
      have hbw : b < wr.heap.size := by omega
      have hii : (0 : Int) ≤ (i : Int) ∧ (i : Int) < (L.length : Int) := by omega
      have hS := Lib.hid (hAs.out i d hd)
      have hP := Lib.hid (hAp.out i d hd)
      have KC1 := Lib.hid (KC.out i d wr hBw hd)
      have hdI := hI d (List.mem_of_getElem? hd)
      have hlen := hAl.out i
      clear hd
      by_cases h0 : d.kind = 0
      case neg =>
        have HN : Hid (acc (i + 1) = acc i) := hS.out (fun e => absurd e h0)
        have e1 : (d.kind != 0) = true := by simpa using h0
        clear h0 hS hP KC1
        go_wp2_with fail
        go_roundw
        case rel => exact ⟨i + 1, _, rfl, by go_num, by omega, by rw [HN.out]; exact hown, hbx, hBw, hz⟩
        case measure => simp [intOf]; omega
      have e1 : (d.kind != 0) = false := by simpa using h0
      have H0 := Lib.hid h0
      clear h0
      cases hc : countsB X.l1 pl.length day known L i d with
      | false =>
        have HN : Hid (acc (i + 1) = acc i) := hS.out (fun _ => hc)
        rw [hc] at KC1
        clear hS hP hc
        go_wp2_with (first | (go_at_call 36; (with_reducible refine KC1.out.mono ?_); rintro e9 w9 ⟨rfl, hb9⟩) | fail)
        go_roundw
        case rel => exact ⟨i + 1, _, rfl, by go_num, by omega, by rw [HN.out]; exact row_below hown hb9, hbx.below hb9 (by omega), hBw.trans (hb9.mono (by omega)), by have := hb9.size; omega⟩
        case measure => simp [intOf]; omega
      | true =>
        have HP := Lib.hid (hP.out H0.out hc)
        rw [hc] at KC1
        clear hS hP hc
        obtain ⟨r, hr⟩ : ∃ r, r = d.right := ⟨_, rfl⟩
        rw [← hr] at HP hdI q2 q3 q4 q5 q6 q7 q8 q9 q10
        clear hr H0
        go_wp2_with fail
        go_at_call 36
        (with_reducible refine KC1.out.mono ?_)
        rintro e1 w1 ⟨rfl, hb1⟩
        have hz1 := hb1.size
        have hbx1 := hbx.below hb1 (by omega)
        have hBw1 := hBw.trans (hb1.mono (by omega))
        have hown1 := row_below hown hb1
        obtain ⟨x0, x1, x2, x3, x4, x5, x6, x7, x8, x9, x10⟩ := hbx1.cells
        replace q0 := (hb1.cell (p := ⟨b, off + i * 13, none⟩) hbw).trans q0
        replace q1 := (hb1.cell (p := ⟨b, off + i * 13 + 1, none⟩) hbw).trans q1
        replace q2 := (hb1.cell (p := ⟨b, off + i * 13 + 2, none⟩) hbw).trans q2
        replace q3 := (hb1.cell (p := ⟨b, off + i * 13 + 3, none⟩) hbw).trans q3
        replace q4 := (hb1.cell (p := ⟨b, off + i * 13 + 4, none⟩) hbw).trans q4
        replace q5 := (hb1.cell (p := ⟨b, off + i * 13 + 5, none⟩) hbw).trans q5
        replace q6 := (hb1.cell (p := ⟨b, off + i * 13 + 6, none⟩) hbw).trans q6
        replace q7 := (hb1.cell (p := ⟨b, off + i * 13 + 7, none⟩) hbw).trans q7
        replace q8 := (hb1.cell (p := ⟨b, off + i * 13 + 8, none⟩) hbw).trans q8
        replace q9 := (hb1.cell (p := ⟨b, off + i * 13 + 9, none⟩) hbw).trans q9
        replace q10 := (hb1.cell (p := ⟨b, off + i * 13 + 10, none⟩) hbw).trans q10
        replace q11 := (hb1.cell (p := ⟨b, off + i * 13 + 11, none⟩) hbw).trans q11
        replace q12 := (hb1.cell (p := ⟨b, off + i * 13 + 12, none⟩) hbw).trans q12
        have qq3 : w1.cell? ⟨b, off + i * 13 + 2 + 1, none⟩ = _ := q3
        have qq4 : w1.cell? ⟨b, off + i * 13 + 2 + 2, none⟩ = _ := q4
        have qq5 : w1.cell? ⟨b, off + i * 13 + 2 + 3, none⟩ = _ := q5
        have qq6 : w1.cell? ⟨b, off + i * 13 + 2 + 4, none⟩ = _ := q6
        have qq7 : w1.cell? ⟨b, off + i * 13 + 2 + 5, none⟩ = _ := q7
        have qq8 : w1.cell? ⟨b, off + i * 13 + 2 + 6, none⟩ = _ := q8
        have qq9 : w1.cell? ⟨b, off + i * 13 + 2 + 7, none⟩ = _ := q9
        have qq10 : w1.cell? ⟨b, off + i * 13 + 2 + 8, none⟩ = _ := q10
        have hbw1 : b < w1.heap.size := by omega
        have hBa : Below w1.heap.size w1 (w1.alloc (.cells #[.int .i64 r.id, .int .i64 r.owner, .int .i64 r.date, .int .i64 r.place, .int .i64 r.rate, .int .i64 r.from1, .int .i64 r.until1, .int .i64 r.back, .int .i64 r.backTo] 33)) := below_new _ _
        have hbr : BoxRt (w1.alloc (.cells #[.int .i64 r.id, .int .i64 r.owner, .int .i64 r.date, .int .i64 r.place, .int .i64 r.rate, .int .i64 r.from1, .int .i64 r.until1, .int .i64 r.back, .int .i64 r.backTo] 33)) w1.heap.size r := heap_alloc_new w1 _
        have KS : Hid (Calls Tryd.prog 12 #[.agg #[.int .i64 r.id, .int .i64 r.owner, .int .i64 r.date, .int .i64 r.place, .int .i64 r.rate, .int .i64 r.from1, .int .i64 r.until1, .int .i64 r.back, .int .i64 r.backTo], .int .i64 day] (w1.alloc (.cells #[.int .i64 r.id, .int .i64 r.owner, .int .i64 r.date, .int .i64 r.place, .int .i64 r.rate, .int .i64 r.from1, .int .i64 r.until1, .int .i64 r.back, .int .i64 r.backTo] 33)) (BoolIs (seasonB r day) (w1.alloc (.cells #[.int .i64 r.id, .int .i64 r.owner, .int .i64 r.date, .int .i64 r.place, .int .i64 r.rate, .int .i64 r.from1, .int .i64 r.until1, .int .i64 r.back, .int .i64 r.backTo] 33)))) := rseason_any r day _ hdI
        have z01 : w.heap.size < w1.heap.size := by omega
        clear hb1 KC1
        cases hse : seasonB r day with
        | false =>
          have HN : Hid (acc (i + 1) = acc i) := by show _ = _; rw [HP.out, if_neg (fun e => by rw [hse] at e; exact Bool.false_ne_true e.1)]
          rw [hse] at KS
          clear HP hse
          go_wp2_with (first | (go_at_call 12; (with_reducible refine KS.out.mono ?_); rintro e2 w2 ⟨rfl, hb2⟩) | fail)
          have hb12 : Below w1.heap.size w1 w2 := hBa.trans (hb2.mono (by simp))
          go_roundw
          case rel => exact ⟨i + 1, _, rfl, by go_num, by omega, by rw [HN.out]; exact row_below hown1 hb12, hbx1.below hb12 (by omega), hBw1.trans (hb12.mono (by omega)), by have := hb12.size; omega⟩
          case measure => simp [intOf]; omega
        | true =>
          rw [hse] at KS
          go_wp2_with fail
          go_at_call 12
          (with_reducible refine KS.out.mono ?_)
          rintro e2 w2 ⟨rfl, hb2⟩
          have hb12 : Below w1.heap.size w1 w2 := hBa.trans (hb2.mono (by simp))
          have hz2' := hb2.size
          rw [World.size_alloc] at hz2'
          have hbr2 := hbr.below hb2 (by simp)
          have hbx2 := hbx1.below hb12 (by omega)
          have hBw2 := hBw1.trans (hb12.mono (by omega))
          have hown2 := row_below hown1 hb12
          have hd2 := fun j => hb12.cell (p := ⟨b, off + i * 13 + j, none⟩) hbw1
          obtain ⟨x0, x1, x2, x3, x4, x5, x6, x7, x8, x9, x10⟩ := hbx2.cells
          obtain ⟨y0, y1, y2, y3, y4, y5, y6, y7, y8⟩ := hbr2.cells
          have z02 : w.heap.size < w2.heap.size := by omega
          have z12 : w1.heap.size < w2.heap.size := by omega
          have KE := Lib.hid (KL.out 3 r.id w2 (by decide) hBw2)
          clear KS hb2 hbr hown1 hbx1 hd2
          go_wp2_with fail
          go_at_call 37
          (with_reducible refine KE.out.mono ?_)
          rintro e3 w3 ⟨n3, rfl, hL3, hb3⟩
          have hz3 := hb3.size
          have hbr3 := hbr2.below hb3 (by omega)
          have hbx3 := hbx2.below hb3 (by omega)
          have hBw3 := hBw2.trans (hb3.mono (by omega))
          have hown3 := row_below hown2 hb3
          obtain ⟨x0, x1, x2, x3, x4, x5, x6, x7, x8, x9, x10⟩ := hbx3.cells
          obtain ⟨y0, y1, y2, y3, y4, y5, y6, y7, y8⟩ := hbr3.cells
          have z03 : w.heap.size < w3.heap.size := by omega
          have z13 : w1.heap.size < w3.heap.size := by omega
          have hes := last_some hL3
          clear KE hL3 hbr2 hbx2 hown2 hb3
          by_cases hn3 : 0 ≤ n3
          · have HN : Hid (acc (i + 1) = acc i) := by show _ = _; rw [HP.out, if_neg (fun e => by have := hes.2 hn3; unfold endedB at e; rw [this] at e; exact Bool.noConfusion e.2)]
            clear HP hse hes
            go_wp2_with fail
            go_roundw
            case rel => exact ⟨i + 1, _, rfl, by go_num, by omega, by rw [HN.out]; exact hown3, hbx3, hBw3, by omega⟩
            case measure => simp [intOf]; omega
          have hen : endedB K r.id = false := by
            unfold endedB
            cases e : (lastOf 3 r.id K).isSome with
            | false => rfl
            | true => exact absurd (hes.1 e) hn3
          have HN : Hid (acc (i + 1) = acc i ++ [changed K r]) := by
            show _ = _
            rw [HP.out, if_pos ⟨hse, hen⟩]
          have KO := Lib.hid (KL.out 1 r.id w3 (by decide) hBw3)
          clear HP hse hes hen
          go_wp2_with fail
          go_at_call 37
          (with_reducible refine KO.out.mono ?_)
          rintro e4 w4 ⟨n4, rfl, hL4, hb4⟩
          have hz4 := hb4.size
          have hbr4 := hbr3.below hb4 (by omega)
          have hbx4 := hbx3.below hb4 (by omega)
          have hBw4 := hBw3.trans (hb4.mono (by omega))
          have hown4 := row_below hown3 hb4
          obtain ⟨x0, x1, x2, x3, x4, x5, x6, x7, x8, x9, x10⟩ := hbx4.cells
          obtain ⟨y0, y1, y2, y3, y4, y5, y6, y7, y8⟩ := hbr4.cells
          have z04 : w.heap.size < w4.heap.size := by omega
          have z14 : w1.heap.size < w4.heap.size := by omega
          have KP := Lib.hid (KL.out 2 r.id w4 (by decide) hBw4)
          clear KO hbr3 hbx3 hown3 hb4
          go_wp2_with fail
          go_at_call 37
          (with_reducible refine KP.out.mono ?_)
          rintro e5 w5 ⟨n5, rfl, hL5, hb5⟩
          have hz5 := hb5.size
          have hbr5 := hbr4.below hb5 (by omega)
          have hbx5 := hbx4.below hb5 (by omega)
          have hBw5 := hBw4.trans (hb5.mono (by omega))
          have hown5 := row_below hown4 hb5
          obtain ⟨y0, y1, y2, y3, y4, y5, y6, y7, y8⟩ := hbr5.cells
          have yf1 := hbr5.frozen 1
          have yf3 := hbr5.frozen 3
          have z15 : w1.heap.size < w5.heap.size := by omega
          have HC5 := Lib.hid (hC.below (hBw5.mono hB))
          clear KP hbr4 hbx4 hown4 hb5 x0 x1 x2 x3 x4 x5 x6 x7 x8 x9 x10
          have hne : ∀ g, out.ownBlock = some g → g ≠ w1.heap.size := fun g e q => by have := (own_lt hown e).2; omega
          rcases hL4 with ⟨hn4, hL4⟩ | ⟨j4, y, hn4, hy, hL4⟩
          · rcases hL5 with ⟨hn5, hL5⟩ | ⟨j5, z, hn5, hzz, hL5⟩
            · have hn40 : ¬ (0 : Int) ≤ n4 := by omega
              have hn50 : ¬ (0 : Int) ≤ n5 := by omega
              have hbw5 : b < w5.heap.size := by omega
              have hnb : b ≠ w1.heap.size := by omega
              have HQ : Hid (changed K r = r) := by show _ = _; unfold changed; rw [hL4, hL5]
              have hown6 : (w5).ownsRow (w.heap.size + 1) 33 9 out (acc i).length (rowR (acc i)) := hown5
              have HO6 : Hid (((w5).alloc (.cells #[.int .i64 r.id, .int .i64 r.owner, .int .i64 r.date, .int .i64 r.place, .int .i64 r.rate, .int .i64 r.from1, .int .i64 r.until1, .int .i64 r.back, .int .i64 r.backTo] 33)).ownsRow (w.heap.size + 1) 33 9 out (acc i).length (rowR (acc i))) := hown6.alloc _
              have hbx6 : BoxR (w5) w.heap.size X pl := hbx5
              have hBw6 : Below w.heap.size w (w5) := hBw5
              clear hL4 hL5 hown5 HC5
              go_wp2_with (first | (at_builtin; go_loud (refine wpList_append_any _ rfl _ _ 34 rfl (w.heap.size + 1) 33 i0 _ 9 72 Tryd.underlying34 hi hv0 hv1 hv2 rfl (by decide) _ (acc i).length _ rfl (HO6.out) (w5.heap.size + 1) (some ⟨w5.heap.size, 0, none⟩) 1 1 (r).cells rfl ⟨rfl, fun _ => ⟨_, rfl, Nat.lt_succ_self _, cells_at (by simp) _ _⟩⟩ (rt_one _) (by unfold maxLen; omega) (by omega) (by first | omega | (simp; omega)) ?_); intro v' w7 hown7 hgr7 _) | fail)
              go_roundw
              case rel => exact ⟨i + 1, _, rfl, by go_num, by omega, by rw [HN.out, HQ.out, rowR_snoc, List.length_append]; exact hown7, (hbx6.below (below_new _ _) (by first | omega | (simp; omega))).below (below_own HO6.out (by first | omega | (simp; omega)) hgr7) (by omega), (hBw6.alloc (by first | omega | (simp; omega)) _).trans ((below_own HO6.out (by first | omega | (simp; omega)) hgr7).mono (by omega)), by have := hgr7.size; simp at this; omega⟩
              case measure => simp [intOf]; omega
            · subst hn5
              have hn40 : ¬ (0 : Int) ≤ n4 := by omega
              have hz1' := (List.getElem?_eq_some_iff.1 hzz).1
              obtain ⟨bq, oq, hbo, hbq, t0, t1, t2, t3, t4, t5, _⟩ := HC5.out.at_ hzz
              injection hbo with hbo
              injection hbo with hb1 hb2
              subst hb1 hb2
              have tt5 : w5.cell? ⟨b, off + j5 * 13 + 2 + 3, none⟩ = _ := t5
              have hjj5 : (0 : Int) ≤ (j5 : Int) ∧ (j5 : Int) < (L.length : Int) := by omega
              have hn50 : (0 : Int) ≤ (j5 : Int) := by omega
              have hbw5 : b < w5.heap.size := by omega
              have hnb : b ≠ w1.heap.size := by omega
              have HQ : Hid (changed K r = { r with place := z.right.place }) := by show _ = _; unfold changed; rw [hL4, hL5]
              have hown6 : ((w5.setCell ⟨w1.heap.size, 3, none⟩ (.int .i64 z.right.place))).ownsRow (w.heap.size + 1) 33 9 out (acc i).length (rowR (acc i)) := (row_off hown5 (b := w1.heap.size) hne (set1_grown _ _ 3 (.int .i64 z.right.place)))
              have HO6 : Hid ((((w5.setCell ⟨w1.heap.size, 3, none⟩ (.int .i64 z.right.place))).alloc (.cells #[.int .i64 r.id, .int .i64 r.owner, .int .i64 r.date, .int .i64 z.right.place, .int .i64 r.rate, .int .i64 r.from1, .int .i64 r.until1, .int .i64 r.back, .int .i64 r.backTo] 33)).ownsRow (w.heap.size + 1) 33 9 out (acc i).length (rowR (acc i))) := hown6.alloc _
              have hbx6 : BoxR ((w5.setCell ⟨w1.heap.size, 3, none⟩ (.int .i64 z.right.place))) w.heap.size X pl := ((Below.heap_setCell _ ⟨w1.heap.size, 3, none⟩ (.int .i64 z.right.place) w.heap.size (by show w.heap.size ≠ w1.heap.size; omega)).trans hbx5)
              have hBw6 : Below w.heap.size w ((w5.setCell ⟨w1.heap.size, 3, none⟩ (.int .i64 z.right.place))) := (hBw5.setCell (p := ⟨w1.heap.size, 3, none⟩) (by show w.heap.size ≤ w1.heap.size; omega) (.int .i64 z.right.place))
              clear hL4 hL5 hown5 HC5
              go_wp2_with (first | (at_builtin; go_loud (refine wpList_append_any _ rfl _ _ 34 rfl (w.heap.size + 1) 33 i0 _ 9 72 Tryd.underlying34 hi hv0 hv1 hv2 rfl (by decide) _ (acc i).length _ rfl (HO6.out) (w5.heap.size + 1) (some ⟨w5.heap.size, 0, none⟩) 1 1 ({ r with place := z.right.place }).cells rfl ⟨rfl, fun _ => ⟨_, rfl, Nat.lt_succ_self _, cells_at (by simp) _ _⟩⟩ (rt_one _) (by unfold maxLen; omega) (by omega) (by first | omega | (simp; omega)) ?_); intro v' w7 hown7 hgr7 _) | fail)
              go_roundw
              case rel => exact ⟨i + 1, _, rfl, by go_num, by omega, by rw [HN.out, HQ.out, rowR_snoc, List.length_append]; exact hown7, (hbx6.below (below_new _ _) (by first | omega | (simp; omega))).below (below_own HO6.out (by first | omega | (simp; omega)) hgr7) (by omega), (hBw6.alloc (by first | omega | (simp; omega)) _).trans ((below_own HO6.out (by first | omega | (simp; omega)) hgr7).mono (by omega)), by have := hgr7.size; simp at this; omega⟩
              case measure => simp [intOf]; omega
          · subst hn4
            rcases hL5 with ⟨hn5, hL5⟩ | ⟨j5, z, hn5, hzz, hL5⟩
            · have hy1 := (List.getElem?_eq_some_iff.1 hy).1
              obtain ⟨bq, oq, hbo, hbq, p0, p1, p2, p3, _⟩ := HC5.out.at_ hy
              injection hbo with hbo
              injection hbo with hb1 hb2
              subst hb1 hb2
              have pp3 : w5.cell? ⟨b, off + j4 * 13 + 2 + 1, none⟩ = _ := p3
              have hjj : (0 : Int) ≤ (j4 : Int) ∧ (j4 : Int) < (L.length : Int) := by omega
              have hn40 : (0 : Int) ≤ (j4 : Int) := by omega
              have hn50 : ¬ (0 : Int) ≤ n5 := by omega
              have hbw5 : b < w5.heap.size := by omega
              have hnb : b ≠ w1.heap.size := by omega
              have HQ : Hid (changed K r = { r with owner := y.right.owner }) := by show _ = _; unfold changed; rw [hL4, hL5]
              have hown6 : ((w5.setCell ⟨w1.heap.size, 1, none⟩ (.int .i64 y.right.owner))).ownsRow (w.heap.size + 1) 33 9 out (acc i).length (rowR (acc i)) := (row_off hown5 (b := w1.heap.size) hne (set1_grown _ _ 1 (.int .i64 y.right.owner)))
              have HO6 : Hid ((((w5.setCell ⟨w1.heap.size, 1, none⟩ (.int .i64 y.right.owner))).alloc (.cells #[.int .i64 r.id, .int .i64 y.right.owner, .int .i64 r.date, .int .i64 r.place, .int .i64 r.rate, .int .i64 r.from1, .int .i64 r.until1, .int .i64 r.back, .int .i64 r.backTo] 33)).ownsRow (w.heap.size + 1) 33 9 out (acc i).length (rowR (acc i))) := hown6.alloc _
              have hbx6 : BoxR ((w5.setCell ⟨w1.heap.size, 1, none⟩ (.int .i64 y.right.owner))) w.heap.size X pl := ((Below.heap_setCell _ ⟨w1.heap.size, 1, none⟩ (.int .i64 y.right.owner) w.heap.size (by show w.heap.size ≠ w1.heap.size; omega)).trans hbx5)
              have hBw6 : Below w.heap.size w ((w5.setCell ⟨w1.heap.size, 1, none⟩ (.int .i64 y.right.owner))) := (hBw5.setCell (p := ⟨w1.heap.size, 1, none⟩) (by show w.heap.size ≤ w1.heap.size; omega) (.int .i64 y.right.owner))
              clear hL4 hL5 hown5 HC5
              go_wp2_with (first | (at_builtin; go_loud (refine wpList_append_any _ rfl _ _ 34 rfl (w.heap.size + 1) 33 i0 _ 9 72 Tryd.underlying34 hi hv0 hv1 hv2 rfl (by decide) _ (acc i).length _ rfl (HO6.out) (w5.heap.size + 1) (some ⟨w5.heap.size, 0, none⟩) 1 1 ({ r with owner := y.right.owner }).cells rfl ⟨rfl, fun _ => ⟨_, rfl, Nat.lt_succ_self _, cells_at (by simp) _ _⟩⟩ (rt_one _) (by unfold maxLen; omega) (by omega) (by first | omega | (simp; omega)) ?_); intro v' w7 hown7 hgr7 _) | fail)
              go_roundw
              case rel => exact ⟨i + 1, _, rfl, by go_num, by omega, by rw [HN.out, HQ.out, rowR_snoc, List.length_append]; exact hown7, (hbx6.below (below_new _ _) (by first | omega | (simp; omega))).below (below_own HO6.out (by first | omega | (simp; omega)) hgr7) (by omega), (hBw6.alloc (by first | omega | (simp; omega)) _).trans ((below_own HO6.out (by first | omega | (simp; omega)) hgr7).mono (by omega)), by have := hgr7.size; simp at this; omega⟩
              case measure => simp [intOf]; omega
            · subst hn5
              have hy1 := (List.getElem?_eq_some_iff.1 hy).1
              obtain ⟨bq, oq, hbo, hbq, p0, p1, p2, p3, _⟩ := HC5.out.at_ hy
              injection hbo with hbo
              injection hbo with hb1 hb2
              subst hb1 hb2
              have pp3 : w5.cell? ⟨b, off + j4 * 13 + 2 + 1, none⟩ = _ := p3
              have hjj : (0 : Int) ≤ (j4 : Int) ∧ (j4 : Int) < (L.length : Int) := by omega
              have hn40 : (0 : Int) ≤ (j4 : Int) := by omega
              have hz1' := (List.getElem?_eq_some_iff.1 hzz).1
              obtain ⟨bq, oq, hbo, hbq, t0, t1, t2, t3, t4, t5, _⟩ := HC5.out.at_ hzz
              injection hbo with hbo
              injection hbo with hb1 hb2
              subst hb1 hb2
              have tt5 : w5.cell? ⟨b, off + j5 * 13 + 2 + 3, none⟩ = _ := t5
              have hjj5 : (0 : Int) ≤ (j5 : Int) ∧ (j5 : Int) < (L.length : Int) := by omega
              have hn50 : (0 : Int) ≤ (j5 : Int) := by omega
              have hbw5 : b < w5.heap.size := by omega
              have hnb : b ≠ w1.heap.size := by omega
              have HQ : Hid (changed K r = { r with owner := y.right.owner, place := z.right.place }) := by show _ = _; unfold changed; rw [hL4, hL5]
              have hown6 : (((w5.setCell ⟨w1.heap.size, 1, none⟩ (.int .i64 y.right.owner)).setCell ⟨w1.heap.size, 3, none⟩ (.int .i64 z.right.place))).ownsRow (w.heap.size + 1) 33 9 out (acc i).length (rowR (acc i)) := (row_off (row_off hown5 (b := w1.heap.size) hne (set1_grown _ _ 1 (.int .i64 y.right.owner))) (b := w1.heap.size) hne (set1_grown _ _ 3 (.int .i64 z.right.place)))
              have HO6 : Hid (((((w5.setCell ⟨w1.heap.size, 1, none⟩ (.int .i64 y.right.owner)).setCell ⟨w1.heap.size, 3, none⟩ (.int .i64 z.right.place))).alloc (.cells #[.int .i64 r.id, .int .i64 y.right.owner, .int .i64 r.date, .int .i64 z.right.place, .int .i64 r.rate, .int .i64 r.from1, .int .i64 r.until1, .int .i64 r.back, .int .i64 r.backTo] 33)).ownsRow (w.heap.size + 1) 33 9 out (acc i).length (rowR (acc i))) := hown6.alloc _
              have hbx6 : BoxR (((w5.setCell ⟨w1.heap.size, 1, none⟩ (.int .i64 y.right.owner)).setCell ⟨w1.heap.size, 3, none⟩ (.int .i64 z.right.place))) w.heap.size X pl := ((Below.heap_setCell _ ⟨w1.heap.size, 3, none⟩ (.int .i64 z.right.place) w.heap.size (by show w.heap.size ≠ w1.heap.size; omega)).trans ((Below.heap_setCell _ ⟨w1.heap.size, 1, none⟩ (.int .i64 y.right.owner) w.heap.size (by show w.heap.size ≠ w1.heap.size; omega)).trans hbx5))
              have hBw6 : Below w.heap.size w (((w5.setCell ⟨w1.heap.size, 1, none⟩ (.int .i64 y.right.owner)).setCell ⟨w1.heap.size, 3, none⟩ (.int .i64 z.right.place))) := ((hBw5.setCell (p := ⟨w1.heap.size, 1, none⟩) (by show w.heap.size ≤ w1.heap.size; omega) (.int .i64 y.right.owner)).setCell (p := ⟨w1.heap.size, 3, none⟩) (by show w.heap.size ≤ w1.heap.size; omega) (.int .i64 z.right.place))
              clear hL4 hL5 hown5 HC5
              go_wp2_with (first | (at_builtin; go_loud (refine wpList_append_any _ rfl _ _ 34 rfl (w.heap.size + 1) 33 i0 _ 9 72 Tryd.underlying34 hi hv0 hv1 hv2 rfl (by decide) _ (acc i).length _ rfl (HO6.out) (w5.heap.size + 1) (some ⟨w5.heap.size, 0, none⟩) 1 1 ({ r with owner := y.right.owner, place := z.right.place }).cells rfl ⟨rfl, fun _ => ⟨_, rfl, Nat.lt_succ_self _, cells_at (by simp) _ _⟩⟩ (rt_one _) (by unfold maxLen; omega) (by omega) (by first | omega | (simp; omega)) ?_); intro v' w7 hown7 hgr7 _) | fail)
              go_roundw
              case rel => exact ⟨i + 1, _, rfl, by go_num, by omega, by rw [HN.out, HQ.out, rowR_snoc, List.length_append]; exact hown7, (hbx6.below (below_new _ _) (by first | omega | (simp; omega))).below (below_own HO6.out (by first | omega | (simp; omega)) hgr7) (by omega), (hBw6.alloc (by first | omega | (simp; omega)) _).trans ((below_own HO6.out (by first | omega | (simp; omega)) hgr7).mono (by omega)), by have := hgr7.size; simp at this; omega⟩
              case measure => simp [intOf]; omega
    · have hke : i = L.length := by omega
      subst hke
      have hlen := hAl.out L.length
      obtain ⟨D2, cd2, hvq, hD2, _⟩ := rights_of_owns hown
      subst hvq
      obtain ⟨A, hA⟩ : ∃ A, A = acc L.length := ⟨_, rfl⟩
      rw [← hA] at hD2 hlen hAe ⊢
      have KO := Lib.hid (rorder_any A D2 cd2 wr hD2 (Nat.le_refl _) (by omega))
      have hol : (orderR A).length = A.length := order_len A
      have HOL := Lib.hid hol
      clear hA hol hown
      generalize orderR A = R at *
      have hRl : R.length ≤ 100 := by have := HOL.out; omega
      go_wp2_with fail
      go_at_call 15
      (with_reducible refine KO.out.mono ?_)
      rintro e1 w1 ⟨C1, c1, rfl, hc1, hC1, hb1⟩
      have hlt200 : ¬ (200 : Int) < (R.length : Int) := by omega
      have hlt201 : ¬ 200 < R.length := by omega
      have hlt202 : (R.length : Int) < 200 := by omega
      have hlt203 : R.length < 200 := by omega
      have hlt204 : min (R.length : Int) 200 = (R.length : Int) := by omega
      have hlt205 : (R.length : Int) ≤ (c1 : Int) := by omega
      go_wp2_with fail
      go_ret
      rw [hAe.out]
      exact ⟨C1, c1, rfl, hc1, hC1, hBw.trans (hb1.mono (by omega))⟩
end Go.Proofs.YtchmplnkddgncaaDoor
