/- RightRoster: for every input the law answers true. (Printed by gen_l3.py.) -/
import Derived.Deep.Cut
import Derived.Test.YtchmplnkddgncaaDoorL2
set_option linter.unusedSimpArgs false
set_option linter.unusedVariables false
namespace Go.Proofs.YtchmplnkddgncaaDoor
open Go.RowKit CM RG
attribute [local go_sem] alloc_drewN setCell_drewN shape_drewN

set_option maxHeartbeats 4000000 in
theorem eq_right (x y : Rt) (w : World) : (Op.equal 33 (.agg #[.int .i64 x.id, .int .i64 x.owner, .int .i64 x.date, .int .i64 x.place, .int .i64 x.rate, .int .i64 x.from1, .int .i64 x.until1, .int .i64 x.back, .int .i64 x.backTo]) (.agg #[.int .i64 y.id, .int .i64 y.owner, .int .i64 y.date, .int .i64 y.place, .int .i64 y.rate, .int .i64 y.from1, .int .i64 y.until1, .int .i64 y.back, .int .i64 y.backTo])).run Tryd.prog w = .ok (decide (x = y)) w := by
  have h : (Op.equalIn 10000 33 (.agg #[.int .i64 x.id, .int .i64 x.owner, .int .i64 x.date, .int .i64 x.place, .int .i64 x.rate, .int .i64 x.from1, .int .i64 x.until1, .int .i64 x.back, .int .i64 x.backTo]) (.agg #[.int .i64 y.id, .int .i64 y.owner, .int .i64 y.date, .int .i64 y.place, .int .i64 y.rate, .int .i64 y.from1, .int .i64 y.until1, .int .i64 y.back, .int .i64 y.backTo])).run Tryd.prog w = .ok (decide (x = y)) w := by
    by_cases e0 : x.id = y.id
    case neg =>
      rw [decide_eq_false (fun e => e0 (by rw [e]))]
      have q0 : (x.id == y.id) = false := by simpa using e0
      clear e0
      go_simp
    by_cases e1 : x.owner = y.owner
    case neg =>
      rw [decide_eq_false (fun e => e1 (by rw [e]))]
      have q0 : (x.id == y.id) = true := by simpa using e0
      have q1 : (x.owner == y.owner) = false := by simpa using e1
      clear e0 e1
      go_simp
    by_cases e2 : x.date = y.date
    case neg =>
      rw [decide_eq_false (fun e => e2 (by rw [e]))]
      have q0 : (x.id == y.id) = true := by simpa using e0
      have q1 : (x.owner == y.owner) = true := by simpa using e1
      have q2 : (x.date == y.date) = false := by simpa using e2
      clear e0 e1 e2
      go_simp
    by_cases e3 : x.place = y.place
    case neg =>
      rw [decide_eq_false (fun e => e3 (by rw [e]))]
      have q0 : (x.id == y.id) = true := by simpa using e0
      have q1 : (x.owner == y.owner) = true := by simpa using e1
      have q2 : (x.date == y.date) = true := by simpa using e2
      have q3 : (x.place == y.place) = false := by simpa using e3
      clear e0 e1 e2 e3
      go_simp
    by_cases e4 : x.rate = y.rate
    case neg =>
      rw [decide_eq_false (fun e => e4 (by rw [e]))]
      have q0 : (x.id == y.id) = true := by simpa using e0
      have q1 : (x.owner == y.owner) = true := by simpa using e1
      have q2 : (x.date == y.date) = true := by simpa using e2
      have q3 : (x.place == y.place) = true := by simpa using e3
      have q4 : (x.rate == y.rate) = false := by simpa using e4
      clear e0 e1 e2 e3 e4
      go_simp
    by_cases e5 : x.from1 = y.from1
    case neg =>
      rw [decide_eq_false (fun e => e5 (by rw [e]))]
      have q0 : (x.id == y.id) = true := by simpa using e0
      have q1 : (x.owner == y.owner) = true := by simpa using e1
      have q2 : (x.date == y.date) = true := by simpa using e2
      have q3 : (x.place == y.place) = true := by simpa using e3
      have q4 : (x.rate == y.rate) = true := by simpa using e4
      have q5 : (x.from1 == y.from1) = false := by simpa using e5
      clear e0 e1 e2 e3 e4 e5
      go_simp
    by_cases e6 : x.until1 = y.until1
    case neg =>
      rw [decide_eq_false (fun e => e6 (by rw [e]))]
      have q0 : (x.id == y.id) = true := by simpa using e0
      have q1 : (x.owner == y.owner) = true := by simpa using e1
      have q2 : (x.date == y.date) = true := by simpa using e2
      have q3 : (x.place == y.place) = true := by simpa using e3
      have q4 : (x.rate == y.rate) = true := by simpa using e4
      have q5 : (x.from1 == y.from1) = true := by simpa using e5
      have q6 : (x.until1 == y.until1) = false := by simpa using e6
      clear e0 e1 e2 e3 e4 e5 e6
      go_simp
    by_cases e7 : x.back = y.back
    case neg =>
      rw [decide_eq_false (fun e => e7 (by rw [e]))]
      have q0 : (x.id == y.id) = true := by simpa using e0
      have q1 : (x.owner == y.owner) = true := by simpa using e1
      have q2 : (x.date == y.date) = true := by simpa using e2
      have q3 : (x.place == y.place) = true := by simpa using e3
      have q4 : (x.rate == y.rate) = true := by simpa using e4
      have q5 : (x.from1 == y.from1) = true := by simpa using e5
      have q6 : (x.until1 == y.until1) = true := by simpa using e6
      have q7 : (x.back == y.back) = false := by simpa using e7
      clear e0 e1 e2 e3 e4 e5 e6 e7
      go_simp
    by_cases e8 : x.backTo = y.backTo
    case neg =>
      rw [decide_eq_false (fun e => e8 (by rw [e]))]
      have q0 : (x.id == y.id) = true := by simpa using e0
      have q1 : (x.owner == y.owner) = true := by simpa using e1
      have q2 : (x.date == y.date) = true := by simpa using e2
      have q3 : (x.place == y.place) = true := by simpa using e3
      have q4 : (x.rate == y.rate) = true := by simpa using e4
      have q5 : (x.from1 == y.from1) = true := by simpa using e5
      have q6 : (x.until1 == y.until1) = true := by simpa using e6
      have q7 : (x.back == y.back) = true := by simpa using e7
      have q8 : (x.backTo == y.backTo) = false := by simpa using e8
      clear e0 e1 e2 e3 e4 e5 e6 e7 e8
      go_simp
    rw [decide_eq_true (by cases x; cases y; simp_all)]
    have q0 : (x.id == y.id) = true := by simpa using e0
    have q1 : (x.owner == y.owner) = true := by simpa using e1
    have q2 : (x.date == y.date) = true := by simpa using e2
    have q3 : (x.place == y.place) = true := by simpa using e3
    have q4 : (x.rate == y.rate) = true := by simpa using e4
    have q5 : (x.from1 == y.from1) = true := by simpa using e5
    have q6 : (x.until1 == y.until1) = true := by simpa using e6
    have q7 : (x.back == y.back) = true := by simpa using e7
    have q8 : (x.backTo == y.backTo) = true := by simpa using e8
    clear e0 e1 e2 e3 e4 e5 e6 e7 e8
    go_simp
  exact h
theorem eql_right (x y : Rt) (w : World) : (binOp .eql 33 (.agg #[.int .i64 x.id, .int .i64 x.owner, .int .i64 x.date, .int .i64 x.place, .int .i64 x.rate, .int .i64 x.from1, .int .i64 x.until1, .int .i64 x.back, .int .i64 x.backTo]) (.agg #[.int .i64 y.id, .int .i64 y.owner, .int .i64 y.date, .int .i64 y.place, .int .i64 y.rate, .int .i64 y.from1, .int .i64 y.until1, .int .i64 y.back, .int .i64 y.backTo])).run Tryd.prog w = .ok (.bool (decide (x = y))) w := by
  simp only [binOp]
  simp [eq_right]
/-- A deal that is looked at. -/
def okD (known : Int) (r : Rt) (d : Dl) : Bool := !decide (known < d.known) && decide (d.right.id = r.id)
def sold (r : Rt) (x : Rt) : Rt := { x with owner := r.owner, place := r.place }
def gB (known : Int) (r : Rt) (d : Dl) : Bool := okD known r d && decide (d.kind = 0) && decide (sold r d.right = r)
def oB (day known : Int) (r : Rt) (d : Dl) : Bool := okD known r d && decide (d.right.owner = r.owner) && (decide (d.kind = 0) || (decide (d.kind = 1) && decide (d.from1 ≤ day) && decide (day ≤ d.until1)))
def pB (day known : Int) (r : Rt) (d : Dl) : Bool := okD known r d && decide (d.right.place = r.place) && (decide (d.kind = 0) || (decide (d.kind = 2) && decide (d.from1 ≤ day) && decide (day ≤ d.until1)))
theorem any_snoc {α : Type} (f : α → Bool) {L : List α} {k : Nat} {d : α} (h : L[k]? = some d) : (L.take (k + 1)).any f = ((L.take k).any f || f d) := by
  rw [List.take_add_one, h, List.any_append]; simp
set_option maxRecDepth 100000 in
set_option maxHeartbeats 32000000 in
theorem rosterlaw_any (X : Bas) (pl : Pl) (L : List Dl) (D : Option Addr) (dc : Nat) (day known : Int) (w : World) (hM : Months w) (hl2 : pl.length ≤ 9223372036854775807) (hl1 : X.l1 ≤ 9223372036854775807) (hD : DealsAt w w.heap.size D L) (hLl : L.length ≤ 9223372036854775807) (hI : DlsIn L) :
    Calls Tryd.prog 4 #[.agg #[.string X.nm, .slice X.a1 X.l1 X.c1, .int .i64 X.cl, .slice X.P pl.length X.cP, .slice X.a4 X.l4 X.c4, .slice X.a5 X.l5 X.c5, .slice X.a6 X.l6 X.c6, .slice X.a7 X.l7 X.c7, .slice X.a8 X.l8 X.c8, .slice X.a9 X.l9 X.c9, .int .i64 X.er], .slice D L.length dc, .int .i64 day, .int .i64 known] w (BoolIs true w) := by
  have K0 := Lib.hid (fun wx (h : Below w.heap.size w wx) => small_any wx (hM.below hM.pos h))
  have hB0 : Below w.heap.size w (w.alloc (.cells #[.string X.nm, .slice X.a1 X.l1 X.c1, .int .i64 X.cl, .slice X.P pl.length X.cP, .slice X.a4 X.l4 X.c4, .slice X.a5 X.l5 X.c5, .slice X.a6 X.l6 X.c6, .slice X.a7 X.l7 X.c7, .slice X.a8 X.l8 X.c8, .slice X.a9 X.l9 X.c9, .int .i64 X.er] 31)) := below_new _ _
  have hbx0 : BoxR (w.alloc (.cells #[.string X.nm, .slice X.a1 X.l1 X.c1, .int .i64 X.cl, .slice X.P pl.length X.cP, .slice X.a4 X.l4 X.c4, .slice X.a5 X.l5 X.c5, .slice X.a6 X.l6 X.c6, .slice X.a7 X.l7 X.c7, .slice X.a8 X.l8 X.c8, .slice X.a9 X.l9 X.c9, .int .i64 X.er] 31)) w.heap.size X pl := heap_alloc_new w _
  have hs0 : (w.alloc (.cells #[.string X.nm, .slice X.a1 X.l1 X.c1, .int .i64 X.cl, .slice X.P pl.length X.cP, .slice X.a4 X.l4 X.c4, .slice X.a5 X.l5 X.c5, .slice X.a6 X.l6 X.c6, .slice X.a7 X.l7 X.c7, .slice X.a8 X.l8 X.c8, .slice X.a9 X.l9 X.c9, .int .i64 X.er] 31)).heap.size = w.heap.size + 1 := by simp
  by_cases hall : L.length ≤ 40
  case neg =>
    have q : 40 < L.length := by omega
    clear hall
    go_enter Tryd.func4, Tryd.ntmps4
    go_wp2_with fail
    go_at_call 8
    (with_reducible refine (K0.out _ hB0).mono ?_)
    rintro e1 w1 ⟨rfl, hb1⟩
    go_wp2_with fail
    go_ret
    exact ⟨rfl, hB0.trans (hb1.mono (by omega))⟩
  obtain ⟨RL, hRL⟩ : ∃ R, rosterR X.l1 pl.length day known L = R := ⟨_, rfl⟩
  have hrl : RL.length ≤ L.length := by rw [← hRL]; exact roster_len
  have HRt : Hid (∀ x ∈ RL, rightB X.l1 pl.length x = true ∧ seasonB x day = true) := fun x hx => by rw [← hRL] at hx; exact roster_right hx
  have HLv : Hid (∀ x ∈ RL, ∀ d ∈ L, d.known ≤ known → d.right.id = x.id → ¬ (d.kind = 3 ∧ d.from1 ≤ day)) := fun x hx d hd h1 h2 => by rw [← hRL] at hx; exact roster_lives hx hd h1 h2
  have HAny : Hid (∀ x ∈ RL, L.any (gB known x) = true ∧ L.any (oB day known x) = true ∧ L.any (pB day known x) = true) := fun x hx => by
    rw [← hRL] at hx
    obtain ⟨⟨d1, m1, a1, a2, a3, a4⟩, ⟨d2, m2, b1, b2, b3, b4⟩, ⟨d3, m3, c1, c2, c3, c4⟩⟩ := roster_from hx
    refine ⟨List.any_eq_true.2 ⟨d1, m1, ?_⟩, List.any_eq_true.2 ⟨d2, m2, ?_⟩, List.any_eq_true.2 ⟨d3, m3, ?_⟩⟩
    · unfold gB okD
      rw [decide_eq_false (by omega : ¬ known < d1.known), decide_eq_true a2, decide_eq_true a3, (decide_eq_true a4 : decide (sold x d1.right = x) = true)]; rfl
    · unfold oB okD
      rcases b4 with b4 | b4
      · simp [b2, b3, b4]; omega
      · simp [b2, b3, b4]; omega
    · unfold pB okD
      rcases c4 with c4 | c4
      · simp [c2, c3, c4]; omega
      · simp [c2, c3, c4]; omega
  have HAsc : Hid (∀ (i j : Nat) (x y : Rt), i < j → RL[i]? = some x → RL[j]? = some y → (x.date < y.date ∨ (x.date = y.date ∧ x.id < y.id)) ∧ x.id ≠ y.id) := fun i j x y h1 h2 h3 => by
    rw [← hRL] at h2 h3; exact roster_asc h1 h2 h3
  have HIn : Hid (∀ x ∈ RL, RtIn x) := fun x hx => by
    rw [← hRL] at hx
    obtain ⟨⟨d1, m1, _, _, _, a4⟩, _, _⟩ := roster_from hx
    rw [← a4]; exact hI d1 m1
  have KT : Hid (∀ wx, Below w.heap.size w wx → Calls Tryd.prog 16 #[.agg #[.string X.nm, .slice X.a1 X.l1 X.c1, .int .i64 X.cl, .slice X.P pl.length X.cP, .slice X.a4 X.l4 X.c4, .slice X.a5 X.l5 X.c5, .slice X.a6 X.l6 X.c6, .slice X.a7 X.l7 X.c7, .slice X.a8 X.l8 X.c8, .slice X.a9 X.l9 X.c9, .int .i64 X.er], .slice D L.length dc, .int .i64 day, .int .i64 known] wx (fun e w' => ∃ C cc, e = .returned (.slice C RL.length cc) ∧ RightsAt w' w'.heap.size C RL ∧ Below wx.heap.size wx w')) := fun wx h =>
    roster_at X pl L D dc day known wx (hM.below hM.pos h) (hD.below h) h.size (by omega) hI hRL
  have HD := Lib.hid hD
  have HM := Lib.hid hM
  have HLE : Hid (RL.length ≤ L.length) := hrl
  clear hRL hM hI hD
  go_enter Tryd.func4, Tryd.ntmps4
  go_wp2_with fail
  go_at_call 8
  (with_reducible refine (K0.out _ hB0).mono ?_)
  rintro e1 w1 ⟨rfl, hb1⟩
  have HB1 := hB0.trans (hb1.mono (by omega))
  have hbx1 := hbx0.below hb1 (by omega)
  obtain ⟨x0, x1, x2, x3, x4, x5, x6, x7, x8, x9, x10⟩ := hbx1.cells
  have hz1 := hb1.size
  rw [hs0] at hz1
  clear hb1 hbx0 hs0 hB0 K0
  go_wp2_with fail
  go_at_call 16
  (with_reducible refine (KT.out _ HB1).mono ?_)
  rintro e2 W ⟨C1, c1, rfl, hC1, hb2⟩
  have HB := HB1.trans (hb2.mono HB1.size)
  have hbxW := hbx1.below hb2 (by omega)
  have hz2 := hb2.size
  have hzW : w.heap.size < W.heap.size := by omega
  clear hb2 hbx1 HB1 KT x0 x1 x2 x3 x4 x5 x6 x7 x8 x9 x10
  go_wp2_with fail
  go_loopw [11] (fun s11 wr => ∃ (i : Nat), s11 = .int .i64 i ∧ i ≤ RL.length ∧ Hid (Below W.heap.size W wr)) (fun s11 _ => RL.length - (intOf s11).toNat)
  case atStart => exact ⟨0, rfl, Nat.zero_le _, Below.refl _ _⟩
  case round =>
    obtain ⟨i, rfl, hi, hBr⟩ := hrel
    have hzr := hBr.out.size
    by_cases hlt : i < RL.length
    · obtain ⟨x, hx⟩ : ∃ x, RL[i]? = some x := ⟨_, List.getElem?_eq_getElem hlt⟩
      have hxm := List.mem_of_getElem? hx
      obtain ⟨b, off, rfl, hb, r0, r1, r2, r3, r4, r5, r6, r7, r8⟩ := (RightsAt.below hC1 hBr.out).at_ hx
      obtain ⟨g1, g2⟩ := HRt.out x hxm
      have hxI := HIn.out x hxm
      have HX := Lib.hid hx
      have HXM := Lib.hid hxm
      have hbw : b < wr.heap.size := by omega
      have z0 : w.heap.size < wr.heap.size := by omega
      have hii : (0 : Int) ≤ (i : Int) ∧ (i : Int) < (RL.length : Int) := by omega
      have hBa : Below wr.heap.size wr (wr.alloc (.cells #[.int .i64 x.id, .int .i64 x.owner, .int .i64 x.date, .int .i64 x.place, .int .i64 x.rate, .int .i64 x.from1, .int .i64 x.until1, .int .i64 x.back, .int .i64 x.backTo] 33)) := below_new _ _
      have hbr0 : BoxRt (wr.alloc (.cells #[.int .i64 x.id, .int .i64 x.owner, .int .i64 x.date, .int .i64 x.place, .int .i64 x.rate, .int .i64 x.from1, .int .i64 x.until1, .int .i64 x.back, .int .i64 x.backTo] 33)) wr.heap.size x := heap_alloc_new wr _
      have HBa : Below w.heap.size w (wr.alloc (.cells #[.int .i64 x.id, .int .i64 x.owner, .int .i64 x.date, .int .i64 x.place, .int .i64 x.rate, .int .i64 x.from1, .int .i64 x.until1, .int .i64 x.back, .int .i64 x.backTo] 33)) := (HB.trans (hBr.out.mono (by omega))).trans (hBa.mono (by omega))
      have hbxr := (hbxW.below hBr.out (by omega)).below hBa (by omega)
      obtain ⟨x0, x1, x2, x3, x4, x5, x6, x7, x8, x9, x10⟩ := (hbxW.below hBr.out (by omega)).cells
      have KR : Hid (Calls Tryd.prog 9 #[.agg #[.string X.nm, .slice X.a1 X.l1 X.c1, .int .i64 X.cl, .slice X.P pl.length X.cP, .slice X.a4 X.l4 X.c4, .slice X.a5 X.l5 X.c5, .slice X.a6 X.l6 X.c6, .slice X.a7 X.l7 X.c7, .slice X.a8 X.l8 X.c8, .slice X.a9 X.l9 X.c9, .int .i64 X.er], .agg #[.int .i64 x.id, .int .i64 x.owner, .int .i64 x.date, .int .i64 x.place, .int .i64 x.rate, .int .i64 x.from1, .int .i64 x.until1, .int .i64 x.back, .int .i64 x.backTo]] (wr.alloc (.cells #[.int .i64 x.id, .int .i64 x.owner, .int .i64 x.date, .int .i64 x.place, .int .i64 x.rate, .int .i64 x.from1, .int .i64 x.until1, .int .i64 x.back, .int .i64 x.backTo] 33)) (BoolIs true (wr.alloc (.cells #[.int .i64 x.id, .int .i64 x.owner, .int .i64 x.date, .int .i64 x.place, .int .i64 x.rate, .int .i64 x.from1, .int .i64 x.until1, .int .i64 x.back, .int .i64 x.backTo] 33)))) := right_at X pl x _ (HM.out.below HM.out.pos HBa) hxI g1
      have KS : Hid (∀ wx, Below w.heap.size w wx → Calls Tryd.prog 11 #[.agg #[.int .i64 x.id, .int .i64 x.owner, .int .i64 x.date, .int .i64 x.place, .int .i64 x.rate, .int .i64 x.from1, .int .i64 x.until1, .int .i64 x.back, .int .i64 x.backTo], .int .i64 day] wx (BoolIs true wx)) := fun wx h => season_at x day wx (HM.out.below HM.out.pos h) hxI g2
      clear hx hxm g1 g2 hxI
      go_wp2_with fail
      go_at_call 9
      (with_reducible refine KR.out.mono ?_)
      rintro e3 w3 ⟨rfl, hb3⟩
      have hb3r : Below wr.heap.size wr w3 := hBa.trans (hb3.mono (by simp))
      have hbr3 := hbr0.below hb3 (by simp)
      obtain ⟨y0, y1, y2, y3, y4, y5, y6, y7, y8⟩ := hbr3.cells
      have hz3 := hb3.size
      rw [World.size_alloc] at hz3
      have HB3 := HBa.trans (hb3.mono HBa.size)
      clear hb3 hbr0 HBa KR hbxr x0 x1 x2 x3 x4 x5 x6 x7 x8 x9 x10
      go_wp2_with fail
      go_at_call 11
      (with_reducible refine (KS.out _ HB3).mono ?_)
      rintro e4 w4 ⟨rfl, hb4⟩
      have hb4r : Below wr.heap.size wr w4 := hb3r.trans (hb4.mono (by omega))
      have hbr4 := hbr3.below hb4 (by omega)
      have hz4 := hb4.size
      have hzx : wr.heap.size < w4.heap.size := by omega
      obtain ⟨y0, y1, y2, y3, y4, y5, y6, y7, y8⟩ := hbr4.cells
      clear hb4 hbr3 HB3 hb3r KS
      have hcell : ∀ j, w4.cell? ⟨b, j, none⟩ = wr.cell? ⟨b, j, none⟩ := fun j => hb4r.cell (p := ⟨b, j, none⟩) hbw
      go_upto_region 11 with fail
      rename_i K0 hK0
      have REST : ∀ (v8 v13 v14 v15 v16 v17 v18 v19 v32 v33 v34 v35 v36 v37 v38 v39 v40 v41 v42 v43 v44 v45 v46 v47 v48 v49 v50 v51 v52 v53 v54 v55 v56 v57 v58 v59 v60 v61 v62 v63 v64 v65 v66 v67 v68 v69 v70 v71 v72 v73 v74 v75 v76 v77 v78 v79 v80 v81 v82 v83 v84 v85 v87 v88 v89 v90 v91 v92 v93 v94 v95 v96 v97 v98 v99 v100 v101 v102 v103 v104 v105 v106 v107 v108 v109 v110 v111 v112 v113 v114 v115 v116 v117 v118 v119 v120 v121 v122 v123 v124 v125 v126 v127 v128 v129 v130 v131 v132 v133 v134 v135 v136 v137 v138 v139 v140 v141 v142 v143 v144 v145 v146 v147 v148 v149 v150 v151 v152 v153 v154 v155 v156 v157 v158 v159 v160 v161 v162 v163 v164 v165 v166 v167 v168 v169 v170 v171 v172 v173 v174 v175 v176 v177 v178 v179 v180 v181 v182 v183 v184 v185 v186 v187 v188 v189 v190 v191 v192 v193 v194 v195 v196 v197 v198 v199 v200 v201 v202 v203 v204 : Value) (wi : World), Below w4.heap.size w4 wi → K0 { tmps := #[.agg #[.string X.nm, .slice X.a1 X.l1 X.c1, .int .i64 X.cl, .slice X.P pl.length X.cP, .slice X.a4 X.l4 X.c4, .slice X.a5 X.l5 X.c5, .slice X.a6 X.l6 X.c6, .slice X.a7 X.l7 X.c7, .slice X.a8 X.l8 X.c8, .slice X.a9 X.l9 X.c9, .int .i64 X.er], .slice D L.length dc, .int .i64 day, .int .i64 known, .pointer (some ⟨w.heap.size, 0, none⟩), undef, undef, undef, v8, .bool true, .slice (some ⟨b, off, none⟩) RL.length c1, .int .i64 i, .pointer (some ⟨wr.heap.size, 0, none⟩), v13, v14, v15, v16, v17, v18, v19, undef, undef, .bool true, .slice D L.length dc, .int .i64 L.length, .bool (decide ((40 : Int) < (L.length : Int))), undef, .agg #[.string X.nm, .slice X.a1 X.l1 X.c1, .int .i64 X.cl, .slice X.P pl.length X.cP, .slice X.a4 X.l4 X.c4, .slice X.a5 X.l5 X.c5, .slice X.a6 X.l6 X.c6, .slice X.a7 X.l7 X.c7, .slice X.a8 X.l8 X.c8, .slice X.a9 X.l9 X.c9, .int .i64 X.er], .slice D L.length dc, .int .i64 day, .int .i64 known, .slice (some ⟨b, off, none⟩) RL.length c1, v32, v33, v34, v35, v36, v37, v38, v39, v40, v41, v42, v43, v44, v45, v46, v47, v48, v49, v50, v51, v52, v53, v54, v55, v56, v57, v58, v59, v60, v61, v62, v63, v64, v65, v66, v67, v68, v69, v70, v71, v72, v73, v74, v75, v76, v77, v78, v79, v80, v81, v82, v83, v84, v85, .bool false, v87, v88, v89, v90, v91, v92, v93, v94, v95, v96, v97, v98, v99, v100, v101, v102, v103, v104, v105, v106, v107, v108, v109, v110, v111, v112, v113, v114, v115, v116, v117, v118, v119, v120, v121, v122, v123, v124, v125, v126, v127, v128, v129, v130, v131, v132, v133, v134, v135, v136, v137, v138, v139, v140, v141, v142, v143, v144, v145, v146, v147, v148, v149, v150, v151, v152, v153, v154, v155, v156, v157, v158, v159, v160, v161, v162, v163, v164, v165, v166, v167, v168, v169, v170, v171, v172, v173, v174, v175, v176, v177, v178, v179, v180, v181, v182, v183, v184, v185, v186, v187, v188, v189, v190, v191, v192, v193, v194, v195, v196, v197, v198, v199, v200, v201, v202, v203, v204, undef, undef, undef, undef, undef, undef, undef, undef, undef, undef, undef, undef, undef, undef, undef, undef, undef, undef, undef, undef, undef, undef, undef, undef, undef, undef, undef, undef, undef, undef], defers := [] } wi := by
        clear hcell
        intro v8 v13 v14 v15 v16 v17 v18 v19 v32 v33 v34 v35 v36 v37 v38 v39 v40 v41 v42 v43 v44 v45 v46 v47 v48 v49 v50 v51 v52 v53 v54 v55 v56 v57 v58 v59 v60 v61 v62 v63 v64 v65 v66 v67 v68 v69 v70 v71 v72 v73 v74 v75 v76 v77 v78 v79 v80 v81 v82 v83 v84 v85 v87 v88 v89 v90 v91 v92 v93 v94 v95 v96 v97 v98 v99 v100 v101 v102 v103 v104 v105 v106 v107 v108 v109 v110 v111 v112 v113 v114 v115 v116 v117 v118 v119 v120 v121 v122 v123 v124 v125 v126 v127 v128 v129 v130 v131 v132 v133 v134 v135 v136 v137 v138 v139 v140 v141 v142 v143 v144 v145 v146 v147 v148 v149 v150 v151 v152 v153 v154 v155 v156 v157 v158 v159 v160 v161 v162 v163 v164 v165 v166 v167 v168 v169 v170 v171 v172 v173 v174 v175 v176 v177 v178 v179 v180 v181 v182 v183 v184 v185 v186 v187 v188 v189 v190 v191 v192 v193 v194 v195 v196 v197 v198 v199 v200 v201 v202 v203 v204 wi hBx
        refine hK0 _ _ ?_
        clear hK0
        have hbri : BoxRt wi wr.heap.size x := hbr4.below hBx hzx
        have hbir : Below wr.heap.size wr wi := hb4r.trans (hBx.mono (by omega))
        have hzi : wr.heap.size < wi.heap.size := by have := hBx.size; omega
        clear hBx hzx hb4r hbr4 hz4
        have HBi : Below w.heap.size w wi := (HB.trans (hBr.out.mono (by omega))).trans (hbir.mono (by omega))
        have HBiW : Below W.heap.size W wi := hBr.out.trans (hbir.mono (by omega))
        obtain ⟨ha1, ha2, ha3⟩ := HAny.out x HXM.out
        have HA := Lib.hid (And.intro ha1 (And.intro ha2 ha3))
        have HL := Lib.hid (HLv.out x HXM.out)
        clear y0 y1 y2 y3 y4 y5 y6 y7 y8 ha1 ha2 ha3 r0 r1 r2 r3 r4 r5 r6 r7 r8
        obtain ⟨xb, hxb⟩ : ∃ xb, xb = wr.heap.size := ⟨_, rfl⟩
        rw [← hxb] at hbri hzi ⊢
        clear hbir hxb
        go_wp2_with fail
        go_loopw [13, 14, 15, 16] (fun s13 s14 s15 s16 wr => ∃ (k : Nat) (g0 o0 p0 : Bool), s13 = .bool g0 ∧ s14 = .bool o0 ∧ s15 = .bool p0 ∧ s16 = .int .i64 k ∧ k ≤ L.length ∧ Hid ((L.take k).any (gB known x) = g0 ∧ (L.take k).any (oB day known x) = o0 ∧ (L.take k).any (pB day known x) = p0) ∧ Hid (Below wi.heap.size wi wr)) (fun _ _ _ s16 _ => L.length - (intOf s16).toNat)
        case atStart => exact ⟨0, false, false, false, rfl, rfl, rfl, rfl, Nat.zero_le _, ⟨rfl, rfl, rfl⟩, Below.refl _ _⟩
        case round =>
          obtain ⟨k, g0, o0, p0, rfl, rfl, rfl, rfl, hk, hG, hBk⟩ := hrel
          have hzk := hBk.out.size
          by_cases hltk : k < L.length
          · obtain ⟨d, hd⟩ : ∃ d, L[k]? = some d := ⟨_, List.getElem?_eq_getElem hltk⟩
            obtain ⟨bd, od, rfl, hbd, q0, q1, q2, q3, q4, q5, q6, q7, q8, q9, q10, q11, q12⟩ := (HD.out.below (HBi.trans (hBk.out.mono (by have := HBi.size; omega)))).at_ hd
            obtain ⟨y0, y1, y2, y3, y4, y5, y6, y7, y8⟩ := (hbri.below hBk.out hzi).cells
            have hlv := HL.out d (List.mem_of_getElem? hd)
            have hbdw : bd < wr.heap.size := by have := HBi.size; omega
            have hxw : xb < wr.heap.size := by omega
            have hkk : (0 : Int) ≤ (k : Int) ∧ (k : Int) < (L.length : Int) := by omega
            have HS : Hid ((L.take (k + 1)).any (gB known x) = (g0 || gB known x d) ∧ (L.take (k + 1)).any (oB day known x) = (o0 || oB day known x d) ∧ (L.take (k + 1)).any (pB day known x) = (p0 || pB day known x d)) := by
              obtain ⟨a1, a2, a3⟩ := hG.out
              exact ⟨by rw [any_snoc _ hd, a1], by rw [any_snoc _ hd, a2], by rw [any_snoc _ hd, a3]⟩
            have hw1 : Below wi.heap.size wi (wr.alloc (.cells #[.int .i64 d.kind, .int .i64 d.known, .int .i64 d.right.id, .int .i64 d.right.owner, .int .i64 d.right.date, .int .i64 d.right.place, .int .i64 d.right.rate, .int .i64 d.right.from1, .int .i64 d.right.until1, .int .i64 d.right.back, .int .i64 d.right.backTo, .int .i64 d.from1, .int .i64 d.until1] 44)) := hBk.out.alloc hzk _
            clear hd hG
            by_cases hkn : known < d.known
            · have ho : okD known x d = false := by unfold okD; rw [decide_eq_true hkn]; rfl
              have c1 : decide (known < d.known) = true := decide_eq_true hkn
              have HN : Hid ((L.take (k + 1)).any (gB known x) = g0 ∧ (L.take (k + 1)).any (oB day known x) = o0 ∧ (L.take (k + 1)).any (pB day known x) = p0) := by
                obtain ⟨a1, a2, a3⟩ := HS.out
                exact ⟨by rw [a1]; unfold gB; rw [ho]; simp, by rw [a2]; unfold oB; rw [ho]; simp, by rw [a3]; unfold pB; rw [ho]; simp⟩
              clear hkn ho hlv HS
              go_wp2_with fail
              go_roundw
              case rel => exact ⟨k + 1, g0, o0, p0, rfl, rfl, rfl, by go_num, by omega, HN, hw1⟩
              case measure => simp [intOf]; omega
            have c1 : decide (known < d.known) = false := decide_eq_false hkn
            by_cases hid : d.right.id = x.id
            case neg =>
              have ho : okD known x d = false := by unfold okD; rw [decide_eq_false hid]; simp
              have c2 : (d.right.id != x.id) = true := by simpa using hid
              have HN : Hid ((L.take (k + 1)).any (gB known x) = g0 ∧ (L.take (k + 1)).any (oB day known x) = o0 ∧ (L.take (k + 1)).any (pB day known x) = p0) := by
                obtain ⟨a1, a2, a3⟩ := HS.out
                exact ⟨by rw [a1]; unfold gB; rw [ho]; simp, by rw [a2]; unfold oB; rw [ho]; simp, by rw [a3]; unfold pB; rw [ho]; simp⟩
              clear hkn ho hlv HS hid
              go_wp2_with fail
              go_roundw
              case rel => exact ⟨k + 1, g0, o0, p0, rfl, rfl, rfl, by go_num, by omega, HN, hw1⟩
              case measure => simp [intOf]; omega
            have c2 : (d.right.id != x.id) = false := by simpa using hid
            have ho : okD known x d = true := by unfold okD; rw [decide_eq_false hkn, decide_eq_true hid]; rfl
            have hlv2 : ¬ (d.kind = 3 ∧ d.from1 ≤ day) := hlv (by omega) hid
            obtain ⟨eg, heg⟩ : ∃ c, decide (sold x d.right = x) = c := ⟨_, rfl⟩
            have heq : ∀ wx, (binOp .eql 33 (.agg #[.int .i64 d.right.id, .int .i64 x.owner, .int .i64 d.right.date, .int .i64 x.place, .int .i64 d.right.rate, .int .i64 d.right.from1, .int .i64 d.right.until1, .int .i64 d.right.back, .int .i64 d.right.backTo]) (.agg #[.int .i64 x.id, .int .i64 x.owner, .int .i64 x.date, .int .i64 x.place, .int .i64 x.rate, .int .i64 x.from1, .int .i64 x.until1, .int .i64 x.back, .int .i64 x.backTo])).run Tryd.prog wx = .ok (.bool eg) wx := fun wx => by rw [← heg]; exact eql_right (sold x d.right) x wx
            obtain ⟨e1, he1⟩ : ∃ c, decide (d.from1 ≤ day) = c := ⟨_, rfl⟩
            obtain ⟨e2, he2⟩ : ∃ c, decide (day ≤ d.until1) = c := ⟨_, rfl⟩
            obtain ⟨eo, heo⟩ : ∃ c, (d.right.owner == x.owner) = c := ⟨_, rfl⟩
            obtain ⟨ep, hep⟩ : ∃ c, (d.right.place == x.place) = c := ⟨_, rfl⟩
            have hwo : decide (d.right.owner = x.owner) = eo := by rw [← heo]; rfl
            have hwp : decide (d.right.place = x.place) = ep := by rw [← hep]; rfl
            have hw2 : Below wi.heap.size wi ((wr.alloc (.cells #[.int .i64 d.kind, .int .i64 d.known, .int .i64 d.right.id, .int .i64 d.right.owner, .int .i64 d.right.date, .int .i64 d.right.place, .int .i64 d.right.rate, .int .i64 d.right.from1, .int .i64 d.right.until1, .int .i64 d.right.back, .int .i64 d.right.backTo, .int .i64 d.from1, .int .i64 d.until1] 44)).alloc (.cells #[.int .i64 d.right.id, .int .i64 d.right.owner, .int .i64 d.right.date, .int .i64 d.right.place, .int .i64 d.right.rate, .int .i64 d.right.from1, .int .i64 d.right.until1, .int .i64 d.right.back, .int .i64 d.right.backTo] 33)) := hw1.alloc (by simp; omega) _
            have hw3 : Below wi.heap.size wi ((wr.alloc (.cells #[.int .i64 d.kind, .int .i64 d.known, .int .i64 d.right.id, .int .i64 d.right.owner, .int .i64 d.right.date, .int .i64 d.right.place, .int .i64 d.right.rate, .int .i64 d.right.from1, .int .i64 d.right.until1, .int .i64 d.right.back, .int .i64 d.right.backTo, .int .i64 d.from1, .int .i64 d.until1] 44)).alloc (.cells #[.int .i64 d.right.id, .int .i64 x.owner, .int .i64 d.right.date, .int .i64 x.place, .int .i64 d.right.rate, .int .i64 d.right.from1, .int .i64 d.right.until1, .int .i64 d.right.back, .int .i64 d.right.backTo] 33)) := hw1.alloc (by simp; omega) _
            by_cases k0 : d.kind = 0
            · have b0 : (d.kind == 0) = true := by simpa using k0
              have b1 : (d.kind == 1) = false := by rw [k0]; rfl
              have b2 : (d.kind == 2) = false := by rw [k0]; rfl
              have b3 : (d.kind == 3) = false := by rw [k0]; rfl
              have HN : Hid ((L.take (k + 1)).any (gB known x) = (g0 || eg) ∧ (L.take (k + 1)).any (oB day known x) = (o0 || eo) ∧ (L.take (k + 1)).any (pB day known x) = (p0 || ep)) := by
                obtain ⟨a1, a2, a3⟩ := HS.out
                refine ⟨?_, ?_, ?_⟩
                · rw [a1]; unfold gB; rw [ho, heg, decide_eq_true k0]; simp
                · rw [a2]; unfold oB; rw [ho, hwo, decide_eq_true k0]; simp
                · rw [a3]; unfold pB; rw [ho, hwp, decide_eq_true k0]; simp
              clear hkn hid k0 ho hlv hlv2 HS heg hwo hwp
              cases e1
              all_goals as_aux_lemma =>
                go_wp2_with fail
                all_goals first
                  | (go_roundw
                     case rel => exact ⟨k + 1, _, _, _, rfl, rfl, rfl, by go_num, by omega, by obtain ⟨a1, a2, a3⟩ := HN.out; exact ⟨by rw [a1] <;> (clear HN HL HA HAny HLv HRt HIn HAsc; simp_all), by rw [a2] <;> (clear HN HL HA HAny HLv HRt HIn HAsc; simp_all), by rw [a3] <;> (clear HN HL HA HAny HLv HRt HIn HAsc; simp_all)⟩, hw3⟩
                     case measure => simp [intOf]; omega)
                  | fail
            have b0 : (d.kind == 0) = false := by simpa using k0
            have hw0 : decide (d.kind = 0) = false := decide_eq_false k0
            by_cases k1 : d.kind = 1
            · have b1 : (d.kind == 1) = true := by simpa using k1
              have b2 : (d.kind == 2) = false := by rw [k1]; rfl
              have b3 : (d.kind == 3) = false := by rw [k1]; rfl
              have HN : Hid ((L.take (k + 1)).any (gB known x) = g0 ∧ (L.take (k + 1)).any (oB day known x) = (o0 || (eo && (e1 && e2))) ∧ (L.take (k + 1)).any (pB day known x) = p0) := by
                obtain ⟨a1, a2, a3⟩ := HS.out
                refine ⟨?_, ?_, ?_⟩
                · rw [a1]; unfold gB; rw [hw0]; simp
                · rw [a2]; unfold oB; rw [ho, hwo, hw0, decide_eq_true k1, he1, he2]; simp
                · rw [a3]; unfold pB; rw [hw0, decide_eq_false (by omega : ¬ d.kind = 2)]; simp
              as_aux_lemma =>
                clear hkn hid ho hlv hlv2 HS heg hwo hwp heq hw0
                try clear k3
                try clear k2
                try clear k1
                try clear k0
                go_wp2_with fail
                all_goals first
                  | (go_roundw
                     case rel => exact ⟨k + 1, _, _, _, rfl, rfl, rfl, by go_num, by omega, by obtain ⟨a1, a2, a3⟩ := HN.out; exact ⟨by rw [a1], by rw [a2] <;> (clear HN HL HA HAny HLv HRt HIn HAsc; simp_all), by rw [a3] <;> (clear HN HL HA HAny HLv HRt HIn HAsc; simp_all)⟩, hw2⟩
                     case measure => simp [intOf]; omega)
                  | fail
            have b1 : (d.kind == 1) = false := by simpa using k1
            by_cases k2 : d.kind = 2
            · have b2 : (d.kind == 2) = true := by simpa using k2
              have b3 : (d.kind == 3) = false := by rw [k2]; rfl
              have HN : Hid ((L.take (k + 1)).any (gB known x) = g0 ∧ (L.take (k + 1)).any (oB day known x) = o0 ∧ (L.take (k + 1)).any (pB day known x) = (p0 || (ep && (e1 && e2)))) := by
                obtain ⟨a1, a2, a3⟩ := HS.out
                refine ⟨?_, ?_, ?_⟩
                · rw [a1]; unfold gB; rw [hw0]; simp
                · rw [a2]; unfold oB; rw [hw0, decide_eq_false k1]; simp
                · rw [a3]; unfold pB; rw [ho, hwp, hw0, decide_eq_true k2, he1, he2]; simp
              as_aux_lemma =>
                clear hkn hid ho hlv hlv2 HS heg hwo hwp heq hw0
                try clear k3
                try clear k2
                try clear k1
                try clear k0
                go_wp2_with fail
                all_goals first
                  | (go_roundw
                     case rel => exact ⟨k + 1, _, _, _, rfl, rfl, rfl, by go_num, by omega, by obtain ⟨a1, a2, a3⟩ := HN.out; exact ⟨by rw [a1], by rw [a2] <;> (clear HN HL HA HAny HLv HRt HIn HAsc; simp_all), by rw [a3] <;> (clear HN HL HA HAny HLv HRt HIn HAsc; simp_all)⟩, hw2⟩
                     case measure => simp [intOf]; omega)
                  | fail
            have b2 : (d.kind == 2) = false := by simpa using k2
            have HN : Hid ((L.take (k + 1)).any (gB known x) = g0 ∧ (L.take (k + 1)).any (oB day known x) = o0 ∧ (L.take (k + 1)).any (pB day known x) = p0) := by
              obtain ⟨a1, a2, a3⟩ := HS.out
              refine ⟨?_, ?_, ?_⟩
              · rw [a1]; unfold gB; rw [hw0]; simp
              · rw [a2]; unfold oB; rw [hw0, decide_eq_false k1]; simp
              · rw [a3]; unfold pB; rw [hw0, decide_eq_false k2]; simp
            by_cases k3 : d.kind = 3
            · have b3 : (d.kind == 3) = true := by simpa using k3
              obtain rfl : false = e1 := by rw [← he1]; exact (decide_eq_false (fun q => hlv2 ⟨k3, q⟩)).symm
              as_aux_lemma =>
                clear hkn hid ho hlv hlv2 HS heg hwo hwp heq hw0
                try clear k3
                try clear k2
                try clear k1
                try clear k0
                go_wp2_with fail
                all_goals first
                  | (go_roundw
                     case rel => exact ⟨k + 1, _, _, _, rfl, rfl, rfl, by go_num, by omega, by obtain ⟨a1, a2, a3⟩ := HN.out; exact ⟨by rw [a1], by rw [a2] <;> (clear HN HL HA HAny HLv HRt HIn HAsc; simp_all), by rw [a3] <;> (clear HN HL HA HAny HLv HRt HIn HAsc; simp_all)⟩, hw2⟩
                     case measure => simp [intOf]; omega)
                  | fail
            · have b3 : (d.kind == 3) = false := by simpa using k3
              as_aux_lemma =>
                clear hkn hid ho hlv hlv2 HS heg hwo hwp heq hw0
                try clear k3
                try clear k2
                try clear k1
                try clear k0
                go_wp2_with fail
                all_goals first
                  | (go_roundw
                     case rel => exact ⟨k + 1, _, _, _, rfl, rfl, rfl, by go_num, by omega, by obtain ⟨a1, a2, a3⟩ := HN.out; exact ⟨by rw [a1], by rw [a2] <;> (clear HN HL HA HAny HLv HRt HIn HAsc; simp_all), by rw [a3] <;> (clear HN HL HA HAny HLv HRt HIn HAsc; simp_all)⟩, hw2⟩
                     case measure => simp [intOf]; omega)
                  | fail
          · have hke : k = L.length := by omega
            subst hke
            obtain ⟨a1, a2, a3⟩ := hG.out
            rw [List.take_length] at a1 a2 a3
            obtain ⟨h1, h2, h3⟩ := HA.out
            obtain rfl : true = g0 := by rw [← a1, h1]
            obtain rfl : true = o0 := by rw [← a2, h2]
            obtain rfl : true = p0 := by rw [← a3, h3]
            clear a1 a2 a3 h1 h2 h3
            go_wp2_with fail
            go_roundw
            case rel => exact ⟨i + 1, by go_num, by omega, HBiW.trans (hBk.out.mono HBiW.size)⟩
            case measure => simp [intOf]; omega
      clear hK0
      by_cases hi0 : i = 0
      · have d0 : ¬ (0 : Int) < (i : Int) := by omega
        have d5 : decide ((0 : Int) < (i : Int)) = false := decide_eq_false d0
        have d6 : decide (0 < i) = false := decide_eq_false (by omega)
        clear hi0 hcell
        refine Plan.wp_region_tree (.rd 0 (.rd 1 (.rd 2 (.rd 3 (.rd 4 (.rd 5 (.rd 6 (.rd 7 (.rd 8 (.rd 9 (.rd 10 (.rd 11 (.rd 12 (.rd 13 (.rd 14 (.rd 15 (.rd 16 (.rd 17 (.rd 18 (.rd 19 (.rd 20 (.rd 21 (.rd 22 (.rd 23 (.rd 24 (.rd 25 (.rd 26 (.rd 27 (.rd 28 (.rd 29 (.rd 30 (.rd 31 (.rd 32 (.rd 33 (.rd 34 .done))))))))))))))))))))))))))))))))))) (by kernel_rfl) (by kernel_rfl) ?_
        (repeat (first | (refine Plan.tree_read (v := ?_) rfl rfl ?_ ?_; rotate_left; (focus ((intro wS hSw; have hkS := (bcell hSw).1; go_simp); try with_reducible rfl)); simp only [Act.put, List.setIfInBounds_toArray, List.set_cons_zero, List.set_cons_succ]) | (refine Plan.tree_skip rfl rfl ?_; simp only [Act.put, List.setIfInBounds_toArray, List.set_cons_zero, List.set_cons_succ])))
        refine Plan.tree_done ?_
        exact REST _ _ _ _ _ _ _ _ _ _ _ _ _ _ _ _ _ _ _ _ _ _ _ _ _ _ _ _ _ _ _ _ _ _ _ _ _ _ _ _ _ _ _ _ _ _ _ _ _ _ _ _ _ _ _ _ _ _ _ _ _ _ _ _ _ _ _ _ _ _ _ _ _ _ _ _ _ _ _ _ _ _ _ _ _ _ _ _ _ _ _ _ _ _ _ _ _ _ _ _ _ _ _ _ _ _ _ _ _ _ _ _ _ _ _ _ _ _ _ _ _ _ _ _ _ _ _ _ _ _ _ _ _ _ _ _ _ _ _ _ _ _ _ _ _ _ _ _ _ _ _ _ _ _ _ _ _ _ _ _ _ _ _ _ _ _ _ _ _ _ _ _ _ _ _ _ _ _ _ _ w4.drew (Below.refl _ _).drew
      · obtain ⟨p, rfl⟩ : ∃ p, i = p + 1 := ⟨i - 1, by omega⟩
        obtain ⟨y, hy⟩ : ∃ y, RL[p]? = some y := ⟨_, List.getElem?_eq_getElem (by omega)⟩
        obtain ⟨bq, oq, hbo, hbq, p0, p1, p2, _⟩ := (RightsAt.below hC1 hBr.out).at_ hy
        injection hbo with hbo
        injection hbo with hb1 hb2
        subst hb1 hb2
        have hasc := (HAsc.out p (p + 1) y x (by omega) hy HX.out).1
        have pp0 := (hcell (off + p * 9)).trans p0
        have pp2 := (hcell (off + p * 9 + 2)).trans p2
        have d0 : (0 : Int) < ((p : Int) + 1) := by omega
        have d5 : decide ((0 : Int) < ((p : Int) + 1)) = true := decide_eq_true d0
        have d6 : decide (0 < p + 1) = true := decide_eq_true (by omega)
        have v3 : IntKind.i64.wrap (p : Int) = (p : Int) := by rw [IntKind.wrap_i64]; omega
        have v1 : IntKind.i64.wrap ((p : Int) + 1 - 1) = (p : Int) := by rw [IntKind.wrap_i64]; omega
        have v4 : (p : Int) < (RL.length : Int) := by omega
        have v5 : p < RL.length := by omega
        have hbw4 : b < w4.heap.size := by omega
        have hd1 : decide (x.date < y.date) = false := decide_eq_false (by omega)
        clear hy hi0 p0 p1 p2 hcell
        by_cases hdd : y.date = x.date
        · have e1 : (y.date == x.date) = true := by simpa using hdd
          have hd2 : decide (x.id ≤ y.id) = false := decide_eq_false (by omega)
          clear hasc hdd
          refine Plan.wp_region_tree (.rd 0 (.rd 1 (.rd 2 (.rd 3 (.rd 4 (.rd 5 (.rd 6 (.rd 7 (.rd 8 (.rd 9 (.rd 10 (.rd 11 (.rd 12 (.rd 13 (.rd 14 (.rd 15 (.rd 16 (.rd 17 (.rd 18 (.rd 19 (.rd 20 (.rd 21 (.rd 22 (.rd 23 (.rd 24 (.rd 25 (.rd 26 (.rd 27 (.rd 28 (.rd 29 (.rd 30 (.rd 31 (.rd 32 (.rd 33 (.rd 34 .done))))))))))))))))))))))))))))))))))) (by kernel_rfl) (by kernel_rfl) ?_
          (repeat (first | (refine Plan.tree_read (v := ?_) rfl rfl ?_ ?_; rotate_left; (focus ((intro wS hSw; have hkS := (bcell hSw).1; go_simp); try with_reducible rfl)); simp only [Act.put, List.setIfInBounds_toArray, List.set_cons_zero, List.set_cons_succ]) | (refine Plan.tree_skip rfl rfl ?_; simp only [Act.put, List.setIfInBounds_toArray, List.set_cons_zero, List.set_cons_succ])))
          refine Plan.tree_done ?_
          exact REST _ _ _ _ _ _ _ _ _ _ _ _ _ _ _ _ _ _ _ _ _ _ _ _ _ _ _ _ _ _ _ _ _ _ _ _ _ _ _ _ _ _ _ _ _ _ _ _ _ _ _ _ _ _ _ _ _ _ _ _ _ _ _ _ _ _ _ _ _ _ _ _ _ _ _ _ _ _ _ _ _ _ _ _ _ _ _ _ _ _ _ _ _ _ _ _ _ _ _ _ _ _ _ _ _ _ _ _ _ _ _ _ _ _ _ _ _ _ _ _ _ _ _ _ _ _ _ _ _ _ _ _ _ _ _ _ _ _ _ _ _ _ _ _ _ _ _ _ _ _ _ _ _ _ _ _ _ _ _ _ _ _ _ _ _ _ _ _ _ _ _ _ _ _ _ _ _ _ _ _ w4.drew (Below.refl _ _).drew
        · have e1 : (y.date == x.date) = false := by simpa using hdd
          clear hasc hdd
          refine Plan.wp_region_tree (.rd 0 (.rd 1 (.rd 2 (.rd 3 (.rd 4 (.rd 5 (.rd 6 (.rd 7 (.rd 8 (.rd 9 (.rd 10 (.rd 11 (.rd 12 (.rd 13 (.rd 14 (.rd 15 (.rd 16 (.rd 17 (.rd 18 (.rd 19 (.rd 20 (.rd 21 (.rd 22 (.rd 23 (.rd 24 (.rd 25 (.rd 26 (.rd 27 (.rd 28 (.rd 29 (.rd 30 (.rd 31 (.rd 32 (.rd 33 (.rd 34 .done))))))))))))))))))))))))))))))))))) (by kernel_rfl) (by kernel_rfl) ?_
          (repeat (first | (refine Plan.tree_read (v := ?_) rfl rfl ?_ ?_; rotate_left; (focus ((intro wS hSw; have hkS := (bcell hSw).1; go_simp); try with_reducible rfl)); simp only [Act.put, List.setIfInBounds_toArray, List.set_cons_zero, List.set_cons_succ]) | (refine Plan.tree_skip rfl rfl ?_; simp only [Act.put, List.setIfInBounds_toArray, List.set_cons_zero, List.set_cons_succ])))
          refine Plan.tree_done ?_
          exact REST _ _ _ _ _ _ _ _ _ _ _ _ _ _ _ _ _ _ _ _ _ _ _ _ _ _ _ _ _ _ _ _ _ _ _ _ _ _ _ _ _ _ _ _ _ _ _ _ _ _ _ _ _ _ _ _ _ _ _ _ _ _ _ _ _ _ _ _ _ _ _ _ _ _ _ _ _ _ _ _ _ _ _ _ _ _ _ _ _ _ _ _ _ _ _ _ _ _ _ _ _ _ _ _ _ _ _ _ _ _ _ _ _ _ _ _ _ _ _ _ _ _ _ _ _ _ _ _ _ _ _ _ _ _ _ _ _ _ _ _ _ _ _ _ _ _ _ _ _ _ _ _ _ _ _ _ _ _ _ _ _ _ _ _ _ _ _ _ _ _ _ _ _ _ _ _ _ _ _ _ w4.drew (Below.refl _ _).drew
    · have hke : i = RL.length := by omega
      subst hke
      clear HRt HLv HAny HIn
      go_wp2_with fail
      obtain ⟨wa, rfl⟩ : ∃ wa, wa = wr := ⟨_, rfl⟩
      go_loopw [20] (fun s20 wr => ∃ (i m : Nat), s20 = .int .i64 i ∧ i ≤ RL.length ∧ wr = wa.drewN m) (fun s20 _ => RL.length - (intOf s20).toNat)
      case atStart => exact ⟨0, 0, rfl, Nat.zero_le _, rfl⟩
      case round =>
        obtain ⟨i, m, rfl, hi3, hwr⟩ := hrel
        subst hwr
        by_cases hlt3 : i < RL.length
        · obtain ⟨x, hx⟩ : ∃ x, RL[i]? = some x := ⟨_, List.getElem?_eq_getElem hlt3⟩
          obtain ⟨b, off, rfl, hb, r0, _⟩ := (RightsAt.below hC1 hBr.out).at_ hx
          have HX := Lib.hid hx
          have hii : (0 : Int) ≤ (i : Int) ∧ (i : Int) < (RL.length : Int) := by omega
          clear hx
          go_wp2_with fail
          go_loopw [21] (fun s21 wr => ∃ (k m : Nat), s21 = .int .i64 k ∧ k ≤ i ∧ wr = wa.drewN m) (fun s21 _ => i - (intOf s21).toNat)
          case atStart => exact ⟨0, m, rfl, Nat.zero_le _, rfl⟩
          case round =>
            obtain ⟨k, m, rfl, hk3, hwr⟩ := hrel
            subst hwr
            by_cases hlt4 : k < i
            · obtain ⟨y, hy⟩ : ∃ y, RL[k]? = some y := ⟨_, List.getElem?_eq_getElem (by omega)⟩
              obtain ⟨bq, oq, hbo, hbq, p0, _⟩ := (RightsAt.below hC1 hBr.out).at_ hy
              injection hbo with hbo
              injection hbo with hb1 hb2
              subst hb1 hb2
              have hne := (HAsc.out k i y x hlt4 hy HX.out).2
              have e1 : (y.id == x.id) = false := by simpa using hne
              have hkk : (0 : Int) ≤ (k : Int) ∧ (k : Int) < (RL.length : Int) := by omega
              clear hy hne
              go_upto_region 41 with fail
              go_quiet (fail)
              go_wp2_with fail
              go_roundw
              case rel => exact ⟨k + 1, _, by go_num, by omega, rfl⟩
              case measure => simp [intOf]; omega
            · have hke4 : k = i := by omega
              subst hke4
              go_wp2_with fail
              go_roundw
              case rel => exact ⟨k + 1, _, by go_num, by omega, rfl⟩
              case measure => simp [intOf]; omega
        · have hke3 : i = RL.length := by omega
          subst hke3
          have hle : (RL.length : Int) ≤ (L.length : Int) := by have := HLE.out; omega
          have hle2 : decide ((RL.length : Int) ≤ (L.length : Int)) = true := decide_eq_true hle
          go_wp2_with fail
          go_ret
          exact ⟨rfl, below_drewN (HB.trans (hBr.out.mono (by omega))) m⟩
end Go.Proofs.YtchmplnkddgncaaDoor
