/- CallTells: for every input the law answers true. -/
import Derived.Test.YtkbceeobnbbfbaaSM
import Derived.Test.YtkbceeobnbbfbaaV15
set_option linter.unusedSimpArgs false
set_option linter.unusedVariables false
namespace Go.Proofs.Ytkbceeobnbbfbaa
open Go.RowKit CM
attribute [local go_sem] alloc_drewN setCell_drewN shape_drewN

theorem sameL_self {α : Type} [DecidableEq α] (A : List α) : SameL A A = true := decide_eq_true rfl
theorem same_below {α : Type} [DecidableEq α] {A : List α} {w : World} {e : Ending} {w' : World} (h : SameIs A A w e w') : e = .returned (.bool true) ∧ Below w.heap.size w w' := by
  obtain ⟨he, n, hw⟩ := h
  exact ⟨by rw [he, sameL_self], by rw [hw]; exact below_drewN (Below.refl _ _) n⟩
theorem pure_below {b : Bool} {w : World} {e : Ending} {w' : World} (h : BoolEq b w e w') : e = .returned (.bool b) ∧ Below w.heap.size w w' := ⟨h.1, h.2 ▸ Below.refl _ _⟩
theorem fewB_true {pl : Pl} {r g : Nat} (h : fewB pl r g = true) : pl.length ≤ 16 ∧ r ≤ 14 ∧ g ≤ 20 := by
  unfold fewB at h
  simpa using h
theorem excN_len (pl : Pl) (R : List Rt) (S : List Int) (G : List (Int × Int)) : (excN pl R S G).length ≤ R.length * R.length := excT_len R.length
theorem shortL_len (pl : Pl) (R : List Rt) (G : List (Int × Int)) : (shortL pl R G).length ≤ R.length := shortT_len pl R G R.length
set_option maxRecDepth 100000 in
set_option maxHeartbeats 8000000 in
theorem tells_any (X : Bas) (pl : Pl) (R : List Rt) (S : List Int) (G x : List (Int × Int)) (C : Option Addr) (cr : Nat) (E : Option Addr) (cs : Nat) (D : Option Addr) (cg : Nat) (Z : Option Addr) (cz : Nat) (i : Int) (w : World) (hP : PlacesAt w w.heap.size X.P pl) (hR : RightsAt w w.heap.size C R) (hE : IntsAt w w.heap.size E S) (hG : PairsAt w w.heap.size D G) (hZ : PairsAt w w.heap.size Z x)
    (hl : pl.length ≤ 9223372036854775807) (hr : R.length ≤ 9223372036854775807) (hg : G.length ≤ 9223372036854775807) (hs : S.length ≤ 9223372036854775807) (hx : x.length ≤ 9223372036854775807) (hS : ∀ x ∈ S, In64 x) :
    Calls Try.prog 3 #[.agg #[.string X.nm, .slice X.a1 X.l1 X.c1, .int .i64 X.cl, .slice X.P pl.length X.cP, .slice X.a4 X.l4 X.c4, .slice X.a5 X.l5 X.c5, .slice X.a6 X.l6 X.c6, .slice X.a7 X.l7 X.c7, .slice X.a8 X.l8 X.c8, .slice X.a9 X.l9 X.c9, .int .i64 X.er], .slice C R.length cr, .slice E S.length cs, .slice D G.length cg, .slice Z x.length cz, .int .i64 i] w (BoolIs true w) := by
  have K0 := Lib.hid (fun wx => small_any wx)
  have K1 := Lib.hid (fun wx => few_any X pl C R.length cr D G.length cg wx)
  cases hf : fewB pl R.length G.length
  · have K1b : Hid (∀ wx, Calls Try.prog 9 #[.agg #[.string X.nm, .slice X.a1 X.l1 X.c1, .int .i64 X.cl, .slice X.P pl.length X.cP, .slice X.a4 X.l4 X.c4, .slice X.a5 X.l5 X.c5, .slice X.a6 X.l6 X.c6, .slice X.a7 X.l7 X.c7, .slice X.a8 X.l8 X.c8, .slice X.a9 X.l9 X.c9, .int .i64 X.er], .slice C R.length cr, .slice D G.length cg] wx (BoolIs false wx)) := fun wx => by have := K1.out wx; rw [hf] at this; exact this
    clear K1 hf
    go_enter Try.func3, Try.ntmps3
    go_wp2_with (first | (go_at_call 8; ((with_reducible refine (K0.out _).mono ?_); rintro e1 w1 ⟨rfl, hb1⟩; have kc := (bcell hb1).1)) | (go_at_call 9; ((with_reducible refine (K1b.out _).mono ?_); rintro e2 w2 ⟨rfl, hb2⟩)) | fail)
    go_ret
    exact ⟨rfl, ((((Below.refl _ _).alloc (Nat.le_refl _) _).trans (hb1.mono (by simp)))).trans (hb2.mono (by have := hb1.size; simp at this; omega))⟩
  obtain ⟨f1, f2, f3⟩ := fewB_true hf
  have K1b : Hid (∀ wx, Calls Try.prog 9 #[.agg #[.string X.nm, .slice X.a1 X.l1 X.c1, .int .i64 X.cl, .slice X.P pl.length X.cP, .slice X.a4 X.l4 X.c4, .slice X.a5 X.l5 X.c5, .slice X.a6 X.l6 X.c6, .slice X.a7 X.l7 X.c7, .slice X.a8 X.l8 X.c8, .slice X.a9 X.l9 X.c9, .int .i64 X.er], .slice C R.length cr, .slice D G.length cg] wx (BoolIs true wx)) := fun wx => by have := K1.out wx; rw [hf] at this; exact this
  clear K1 hf hl hr hg
  have K2 : Hid (∀ (s : Int) (r : Rt) (wx : World), Below w.heap.size w wx → Calls Try.prog 10 #[.agg #[.string X.nm, .slice X.a1 X.l1 X.c1, .int .i64 X.cl, .slice X.P pl.length X.cP, .slice X.a4 X.l4 X.c4, .slice X.a5 X.l5 X.c5, .slice X.a6 X.l6 X.c6, .slice X.a7 X.l7 X.c7, .slice X.a8 X.l8 X.c8, .slice X.a9 X.l9 X.c9, .int .i64 X.er], .int .i64 s, .agg #[.int .i64 r.id, .int .i64 r.owner, .int .i64 r.date, .int .i64 r.place, .int .i64 r.rate, .int .i64 r.from1, .int .i64 r.until1, .int .i64 r.back, .int .i64 r.backTo]] wx (BoolIs (futF pl s r.place) wx)) := fun s r wx h => futile_any X pl s r wx (hP.below h) h.size (by omega)
  have K3 : Hid (∀ (s : Int) (r : Rt) (wx : World), Below w.heap.size w wx → Calls Try.prog 11 #[.agg #[.string X.nm, .slice X.a1 X.l1 X.c1, .int .i64 X.cl, .slice X.P pl.length X.cP, .slice X.a4 X.l4 X.c4, .slice X.a5 X.l5 X.c5, .slice X.a6 X.l6 X.c6, .slice X.a7 X.l7 X.c7, .slice X.a8 X.l8 X.c8, .slice X.a9 X.l9 X.c9, .int .i64 X.er], .int .i64 s, .agg #[.int .i64 r.id, .int .i64 r.owner, .int .i64 r.date, .int .i64 r.place, .int .i64 r.rate, .int .i64 r.from1, .int .i64 r.until1, .int .i64 r.back, .int .i64 r.backTo]] wx (BoolIs (futF pl s r.place) wx)) := fun s r wx h => rfutile_any X pl s r wx (hP.below h) h.size (by omega)
  obtain ⟨n1, hn1⟩ : ∃ n, Hid ((shortL pl R G).length = n) := ⟨_, rfl⟩
  have K4 : Hid (∀ (wx : World), Below w.heap.size w wx → Calls Try.prog 13 #[.agg #[.string X.nm, .slice X.a1 X.l1 X.c1, .int .i64 X.cl, .slice X.P pl.length X.cP, .slice X.a4 X.l4 X.c4, .slice X.a5 X.l5 X.c5, .slice X.a6 X.l6 X.c6, .slice X.a7 X.l7 X.c7, .slice X.a8 X.l8 X.c8, .slice X.a9 X.l9 X.c9, .int .i64 X.er], .slice C R.length cr, .slice D G.length cg] wx (fun e w' => ∃ A ca, e = .returned (.slice A n1 ca) ∧ IntsAt w' w'.heap.size A (shortL pl R G) ∧ Below wx.heap.size wx w')) := fun wx h => (shorts_any X pl R G C cr D cg wx (hR.below h) (hG.below h) h.size (by omega) (by omega) (by omega)).mono fun e w' ⟨A, ca, he, h1, h2⟩ => ⟨A, ca, by rw [he, hn1.out], h1, h2⟩
  have K5 : Hid (∀ (wx : World), Below w.heap.size w wx → Calls Try.prog 14 #[.agg #[.string X.nm, .slice X.a1 X.l1 X.c1, .int .i64 X.cl, .slice X.P pl.length X.cP, .slice X.a4 X.l4 X.c4, .slice X.a5 X.l5 X.c5, .slice X.a6 X.l6 X.c6, .slice X.a7 X.l7 X.c7, .slice X.a8 X.l8 X.c8, .slice X.a9 X.l9 X.c9, .int .i64 X.er], .slice C R.length cr, .slice D G.length cg] wx (fun e w' => ∃ A ca, e = .returned (.slice A n1 ca) ∧ IntsAt w' w'.heap.size A (shortL pl R G) ∧ Below wx.heap.size wx w')) := fun wx h => (rshorts_any X pl R G C cr D cg wx (hR.below h) (hG.below h) h.size (by omega) (by omega) (by omega)).mono fun e w' ⟨A, ca, he, h1, h2⟩ => ⟨A, ca, by rw [he, hn1.out], h1, h2⟩
  have K6 : Hid (∀ (A1 A2 : Option Addr) (c1 c2 : Nat) (wx : World) (B : Nat), IntsAt wx B A1 (shortL pl R G) → IntsAt wx B A2 (shortL pl R G) → Calls Try.prog 12 #[.slice A1 n1 c1, .slice A2 n1 c2] wx (fun e w' => e = .returned (.bool true) ∧ Below wx.heap.size wx w')) := fun A1 A2 c1 c2 wx B h1 h2 => by
    have hq := shortL_len pl R G
    have := (sameInts_any (shortL pl R G) (shortL pl R G) A1 A2 c1 c2 wx h1 h2 (by omega) (by omega)).mono fun e w' h => same_below h
    rw [hn1.out] at this
    exact this
  obtain ⟨n2, hn2⟩ : ∃ n, Hid ((excN pl R S G).length = n) := ⟨_, rfl⟩
  have K7 : Hid (∀ (wx : World), Below w.heap.size w wx → Calls Try.prog 16 #[.agg #[.string X.nm, .slice X.a1 X.l1 X.c1, .int .i64 X.cl, .slice X.P pl.length X.cP, .slice X.a4 X.l4 X.c4, .slice X.a5 X.l5 X.c5, .slice X.a6 X.l6 X.c6, .slice X.a7 X.l7 X.c7, .slice X.a8 X.l8 X.c8, .slice X.a9 X.l9 X.c9, .int .i64 X.er], .slice C R.length cr, .slice E S.length cs, .slice D G.length cg] wx (fun e w' => ∃ A ca, e = .returned (.slice A n2 ca) ∧ PairsAt w' w'.heap.size A (excN pl R S G) ∧ Below wx.heap.size wx w')) := fun wx h => (excuses_any X pl R S G C cr E cs D cg wx (hP.below h) (hR.below h) (hE.below h) (hG.below h) h.size (by omega) (by omega) (by omega) hs hS).mono fun e w' ⟨A, ca, he, _, h1, h2⟩ => ⟨A, ca, by rw [he, hn2.out], h1, h2⟩
  have K8 : Hid (∀ (wx : World), Below w.heap.size w wx → Calls Try.prog 17 #[.agg #[.string X.nm, .slice X.a1 X.l1 X.c1, .int .i64 X.cl, .slice X.P pl.length X.cP, .slice X.a4 X.l4 X.c4, .slice X.a5 X.l5 X.c5, .slice X.a6 X.l6 X.c6, .slice X.a7 X.l7 X.c7, .slice X.a8 X.l8 X.c8, .slice X.a9 X.l9 X.c9, .int .i64 X.er], .slice C R.length cr, .slice E S.length cs, .slice D G.length cg] wx (fun e w' => ∃ A ca, e = .returned (.slice A n2 ca) ∧ PairsAt w' w'.heap.size A (excN pl R S G) ∧ Below wx.heap.size wx w')) := fun wx h => (rexcuses_any X pl R S G C cr E cs D cg wx (hP.below h) (hR.below h) (hE.below h) (hG.below h) h.size (by omega) (by omega) (by omega) hs hS).mono fun e w' ⟨A, ca, he, _, h1, h2⟩ => ⟨A, ca, by rw [he, hn2.out], h1, h2⟩
  have K9 : Hid (∀ (A1 A2 : Option Addr) (c1 c2 : Nat) (wx : World) (B : Nat), PairsAt wx B A1 (excN pl R S G) → PairsAt wx B A2 (excN pl R S G) → Calls Try.prog 15 #[.slice A1 n2 c1, .slice A2 n2 c2] wx (fun e w' => e = .returned (.bool true) ∧ Below wx.heap.size wx w')) := fun A1 A2 c1 c2 wx B h1 h2 => by
    have hq := excN_len pl R S G
    have hq2 : R.length * R.length ≤ 14 * 14 := Nat.mul_le_mul f2 f2
    have := (same38_any (excN pl R S G) (excN pl R S G) A1 A2 c1 c2 wx h1 h2 (by omega) (by omega)).mono fun e w' h => same_below h
    rw [hn2.out] at this
    exact this
  obtain ⟨sv, hsv⟩ : ∃ sv, Hid (stopI pl R S G i = sv) := ⟨_, rfl⟩
  have K10 : Hid (∀ (wx : World), Below w.heap.size w wx → Calls Try.prog 18 #[.agg #[.string X.nm, .slice X.a1 X.l1 X.c1, .int .i64 X.cl, .slice X.P pl.length X.cP, .slice X.a4 X.l4 X.c4, .slice X.a5 X.l5 X.c5, .slice X.a6 X.l6 X.c6, .slice X.a7 X.l7 X.c7, .slice X.a8 X.l8 X.c8, .slice X.a9 X.l9 X.c9, .int .i64 X.er], .slice C R.length cr, .slice E S.length cs, .slice D G.length cg, .int .i64 i] wx (IntBe sv wx)) := fun wx h => by have := Stop_any X pl R S G C cr E cs D cg i wx (hP.below h) (hR.below h) (hE.below h) (hG.below h) h.size (by omega) (by omega) (by omega) hs hS; rw [hsv.out] at this; exact this
  have K11 : Hid (∀ (wx : World), Below w.heap.size w wx → Calls Try.prog 19 #[.agg #[.string X.nm, .slice X.a1 X.l1 X.c1, .int .i64 X.cl, .slice X.P pl.length X.cP, .slice X.a4 X.l4 X.c4, .slice X.a5 X.l5 X.c5, .slice X.a6 X.l6 X.c6, .slice X.a7 X.l7 X.c7, .slice X.a8 X.l8 X.c8, .slice X.a9 X.l9 X.c9, .int .i64 X.er], .slice C R.length cr, .slice E S.length cs, .slice D G.length cg, .int .i64 i] wx (IntBe sv wx)) := fun wx h => by have := rstop_any X pl R S G C cr E cs D cg i wx (hP.below h) (hR.below h) (hE.below h) (hG.below h) h.size (by omega) (by omega) (by omega) hs hS; rw [hsv.out] at this; exact this
  obtain ⟨cv, hcv⟩ : ∃ cv, Hid (chkN pl R S G x = cv) := ⟨_, rfl⟩
  have K12 : Hid (∀ (wx : World), Below w.heap.size w wx → Calls Try.prog 20 #[.agg #[.string X.nm, .slice X.a1 X.l1 X.c1, .int .i64 X.cl, .slice X.P pl.length X.cP, .slice X.a4 X.l4 X.c4, .slice X.a5 X.l5 X.c5, .slice X.a6 X.l6 X.c6, .slice X.a7 X.l7 X.c7, .slice X.a8 X.l8 X.c8, .slice X.a9 X.l9 X.c9, .int .i64 X.er], .slice C R.length cr, .slice E S.length cs, .slice D G.length cg, .slice Z x.length cz] wx (BoolIs cv wx)) := fun wx h => by have := check_any X pl R S G x C cr E cs D cg Z cz wx (hP.below h) (hR.below h) (hE.below h) (hG.below h) (hZ.below h) h.size (by omega) (by omega) (by omega) hs hx hS; rw [hcv.out] at this; exact this
  have K13 : Hid (∀ (wx : World), Below w.heap.size w wx → Calls Try.prog 21 #[.agg #[.string X.nm, .slice X.a1 X.l1 X.c1, .int .i64 X.cl, .slice X.P pl.length X.cP, .slice X.a4 X.l4 X.c4, .slice X.a5 X.l5 X.c5, .slice X.a6 X.l6 X.c6, .slice X.a7 X.l7 X.c7, .slice X.a8 X.l8 X.c8, .slice X.a9 X.l9 X.c9, .int .i64 X.er], .slice C R.length cr, .slice E S.length cs, .slice D G.length cg, .slice Z x.length cz] wx (BoolIs cv wx)) := fun wx h => by have := rcheck_any X pl R S G x C cr E cs D cg Z cz wx (hP.below h) (hR.below h) (hE.below h) (hG.below h) (hZ.below h) h.size (by omega) (by omega) (by omega) hs hx hS; rw [hcv.out] at this; exact this
  have HR := Lib.hid hR
  clear hR
  have sv1 : (sv == sv) = true := by simp
  have cv1 : (cv == cv) = true := by simp
  go_enter Try.func3, Try.ntmps3
  go_upto_region 5 with (first | (go_at_call 8; ((with_reducible refine (K0.out _).mono ?_); rintro e1 w1 ⟨rfl, hb1⟩; have kc := (bcell hb1).1)) | (go_at_call 9; ((with_reducible refine (K1b.out _).mono ?_); rintro e2 w2 ⟨rfl, hb2⟩)) | fail)
  have hX2 : BoxB w2 w.heap.size X pl := ((BoxB.new w X pl).below (B := w.heap.size + 1) (hb1.mono (by simp)) (by omega)).below (B := w.heap.size + 1) (hb2.mono (by have := hb1.size; simpa using this)) (by omega)
  have hB2 : Below w.heap.size w w2 := ((((Below.refl _ _).alloc (Nat.le_refl _) _).trans (hb1.mono (by simp)))).trans (hb2.mono (by have := hb1.size; simp at this; omega))
  have hz2 : w.heap.size < w2.heap.size := by have h1 := hb1.size; have h2 := hb2.size; simp at h1; omega
  clear hb1 hb2 kc K0 K1b
  go_cut [49] from 17 to 106 (fun s wx => s = .bool false ∧ Below w2.heap.size w2 wx)
  case first =>
    obtain ⟨x0, x1, x2, x3, x4, x5, x6, x7, x8, x9, x10⟩ := hX2.cells
    by_cases i0 : 0 ≤ i
    case neg =>
      have d0 : decide (0 ≤ i) = false := decide_eq_false i0
      go_quiet (fail)
      go_wp2_with fail
      go_meet
      exact ⟨rfl, below_drewN (Below.refl _ _) _⟩
    obtain ⟨k, rfl⟩ : ∃ k : Nat, i = k := ⟨i.toNat, by omega⟩
    have d0 : decide ((0 : Int) ≤ (k : Int)) = true := decide_eq_true i0
    by_cases i1 : k < R.length
    case neg =>
      have d1 : decide (k < R.length) = false := decide_eq_false i1
      have d2 : decide ((k : Int) < (R.length : Int)) = false := decide_eq_false (by omega)
      go_quiet (fail)
      go_wp2_with fail
      go_meet
      exact ⟨rfl, below_drewN (Below.refl _ _) _⟩
    have d1 : decide (k < R.length) = true := decide_eq_true i1
    have hkI : (0 : Int) ≤ (k : Int) ∧ (k : Int) < (R.length : Int) := by omega
    obtain ⟨r, hxr⟩ : ∃ r, R[k]? = some r := ⟨_, List.getElem?_eq_getElem i1⟩
    obtain ⟨b, off, rfl, hb, r0, r1, r2, r3, r4, r5, r6, r7, r8⟩ := HR.out.at_ hxr
    clear hxr
    obtain ⟨q0, q1, q2, q3, q4, q5, q6, q7, q8⟩ : w2.cell? ⟨b, off + k * 9, none⟩ = some (.int .i64 r.id) ∧ w2.cell? ⟨b, off + k * 9 + 1, none⟩ = some (.int .i64 r.owner) ∧ w2.cell? ⟨b, off + k * 9 + 2, none⟩ = some (.int .i64 r.date) ∧
      w2.cell? ⟨b, off + k * 9 + 3, none⟩ = some (.int .i64 r.place) ∧ w2.cell? ⟨b, off + k * 9 + 4, none⟩ = some (.int .i64 r.rate) ∧ w2.cell? ⟨b, off + k * 9 + 5, none⟩ = some (.int .i64 r.from1) ∧
      w2.cell? ⟨b, off + k * 9 + 6, none⟩ = some (.int .i64 r.until1) ∧ w2.cell? ⟨b, off + k * 9 + 7, none⟩ = some (.int .i64 r.back) ∧ w2.cell? ⟨b, off + k * 9 + 8, none⟩ = some (.int .i64 r.backTo) := by
      have q := fun o => hB2.cell (p := ⟨b, o, none⟩) hb
      exact ⟨(q _).trans r0, (q _).trans r1, (q _).trans r2, (q _).trans r3, (q _).trans r4, (q _).trans r5, (q _).trans r6, (q _).trans r7, (q _).trans r8⟩
    clear r0 r1 r2 r3 r4 r5 r6 r7 r8
    have hbw : b < w2.heap.size := by omega
    obtain ⟨fv, hfv⟩ : ∃ fv, futF pl (k : Int) r.place = fv := ⟨_, rfl⟩
    have K2b := K2.out (k : Int) r
    have K3b := K3.out (k : Int) r
    unfold BoolIs at K2b K3b
    rw [hfv] at K2b K3b
    have K2b := Lib.hid K2b
    have K3b := Lib.hid K3b
    clear hfv
    have fv1 : (fv == fv) = true := by simp
    have fv2 : (fv != fv) = false := by simp
    have hwz : w.heap.size ≤ w2.heap.size := by omega
    have kB10 : Below w2.heap.size w2 w2.drew := (Below.refl _ _).drew
    refine Plan.wp_region_tree (.rd 0 (.rd 1 (.rd 2 (.rd 3 (.rd 4 (.rd 5 (.rd 6 (.rd 7 (.rd 8 (.rd 9 (.rd 10 (.rd 11 (.rd 12 (.rd 13 (.rd 14 (.rd 16 (.rd 17 (.rd 18 (.rd 19 (.rd 20 (.rd 21 (.wr 15 (.wr 22 (.rd 23 (.rd 24 .done))))))))))))))))))))))))) (by kernel_rfl) (by kernel_rfl) ?_
    (repeat (first | (refine Plan.tree_read (v := ?_) rfl rfl ?_ ?_; rotate_left; (focus ((intro wS hSw; have hkS := (bcell hSw).1; try (have hkT := fun (b o : Nat) (h : b < w.heap.size) => hkS b o (by first | omega | (simp; omega) | (simp; done))); go_simp); try with_reducible rfl)); simp only [Act.put, List.setIfInBounds_toArray, List.set_cons_zero, List.set_cons_succ]) | (refine Plan.tree_skip rfl rfl ?_; simp only [Act.put, List.setIfInBounds_toArray, List.set_cons_zero, List.set_cons_succ])))
    (refine Plan.tree_write rfl (fun K hK => ?_); try go_simp)
    go_at_call 10
    (with_reducible refine (K2b.out _ (hB2.trans (kB10.mono hwz))).mono ?_)
    rintro e11 w11 ⟨rfl, hb11⟩
    have kB11 := Plan.below_go kB10 hb11
    (try go_simp)
    (refine hK.out _ _ (kB11) ?_; clear hK K; try simp only [Act.put, List.setIfInBounds_toArray, List.set_cons_zero, List.set_cons_succ])
    (repeat (first | (refine Plan.tree_read (v := ?_) rfl rfl ?_ ?_; rotate_left; (focus ((intro wS hSw; have hkS := (bcell hSw).1; try (have hkT := fun (b o : Nat) (h : b < w.heap.size) => hkS b o (by first | omega | (simp; omega) | (simp; done))); go_simp); try with_reducible rfl)); simp only [Act.put, List.setIfInBounds_toArray, List.set_cons_zero, List.set_cons_succ]) | (refine Plan.tree_skip rfl rfl ?_; simp only [Act.put, List.setIfInBounds_toArray, List.set_cons_zero, List.set_cons_succ])))
    (refine Plan.tree_write rfl (fun K hK => ?_); try go_simp)
    go_at_call 11
    (with_reducible refine (K3b.out _ (hB2.trans (kB11.mono hwz))).mono ?_)
    rintro e12 w12 ⟨rfl, hb12⟩
    have kB12 := Plan.below_go kB11 hb12
    (try go_simp)
    (refine hK.out _ _ (kB12) ?_; clear hK K; try simp only [Act.put, List.setIfInBounds_toArray, List.set_cons_zero, List.set_cons_succ])
    (repeat (first | (refine Plan.tree_read (v := ?_) rfl rfl ?_ ?_; rotate_left; (focus ((intro wS hSw; have hkS := (bcell hSw).1; try (have hkT := fun (b o : Nat) (h : b < w.heap.size) => hkS b o (by first | omega | (simp; omega) | (simp; done))); go_simp); try with_reducible rfl)); simp only [Act.put, List.setIfInBounds_toArray, List.set_cons_zero, List.set_cons_succ]) | (refine Plan.tree_skip rfl rfl ?_; simp only [Act.put, List.setIfInBounds_toArray, List.set_cons_zero, List.set_cons_succ])))
    refine Plan.tree_done ?_
    go_wp2_with fail
    go_meet
    exact ⟨by simp, kB12⟩
  case rest =>
    obtain ⟨rfl, hBc⟩ := hcut
    have hX3 := hX2.below hBc hz2
    have hB3 := hB2.trans (hBc.mono (by omega))
    have hz3 : w.heap.size < wc.heap.size := by have := hBc.size; omega
    have hwz : w.heap.size ≤ wc.heap.size := by omega
    clear hX2 hB2 hBc hz2 K2 K3
    obtain ⟨wd, rfl⟩ : ∃ wd, wd = wc := ⟨_, rfl⟩
    obtain ⟨x0, x1, x2, x3, x4, x5, x6, x7, x8, x9, x10⟩ := hX3.cells
    have kB20 : Below wd.heap.size wd wd.drew := (Below.refl _ _).drew
    go_upto_region 7 with fail
    refine Plan.wp_region_tree (.rd 0 (.rd 1 (.rd 2 (.rd 4 (.rd 5 (.rd 6 (.wr 3 (.wr 7 (.wr 8 (.rd 9 .done)))))))))) (by kernel_rfl) (by kernel_rfl) ?_
    (repeat (first | (refine Plan.tree_read (v := ?_) rfl rfl ?_ ?_; rotate_left; (focus ((intro wS hSw; have hkS := (bcell hSw).1; try (have hkT := fun (b o : Nat) (h : b < w.heap.size) => hkS b o (by first | omega | (simp; omega) | (simp; done))); go_simp); try with_reducible rfl)); simp only [Act.put, List.setIfInBounds_toArray, List.set_cons_zero, List.set_cons_succ]) | (refine Plan.tree_skip rfl rfl ?_; simp only [Act.put, List.setIfInBounds_toArray, List.set_cons_zero, List.set_cons_succ])))
    (refine Plan.tree_write rfl (fun K hK => ?_); try go_simp)
    go_at_call 13
    (with_reducible refine (K4.out _ (hB3.trans (kB20.mono hwz))).mono ?_)
    rintro e21 w21 ⟨A1, a1, rfl, hA1, hb21⟩
    have kB21 := Plan.below_go kB20 hb21
    (try go_simp)
    (refine hK.out _ _ (kB21) ?_; clear hK K; try simp only [Act.put, List.setIfInBounds_toArray, List.set_cons_zero, List.set_cons_succ])
    (repeat (first | (refine Plan.tree_read (v := ?_) rfl rfl ?_ ?_; rotate_left; (focus ((intro wS hSw; have hkS := (bcell hSw).1; try (have hkT := fun (b o : Nat) (h : b < w.heap.size) => hkS b o (by first | omega | (simp; omega) | (simp; done))); go_simp); try with_reducible rfl)); simp only [Act.put, List.setIfInBounds_toArray, List.set_cons_zero, List.set_cons_succ]) | (refine Plan.tree_skip rfl rfl ?_; simp only [Act.put, List.setIfInBounds_toArray, List.set_cons_zero, List.set_cons_succ])))
    (refine Plan.tree_write rfl (fun K hK => ?_); try go_simp)
    go_at_call 14
    (with_reducible refine (K5.out _ (hB3.trans (kB21.mono hwz))).mono ?_)
    rintro e22 w22 ⟨A2, a2, rfl, hA2, hb22⟩
    have kB22 := Plan.below_go kB21 hb22
    (try go_simp)
    (refine hK.out _ _ (kB22) ?_; clear hK K; try simp only [Act.put, List.setIfInBounds_toArray, List.set_cons_zero, List.set_cons_succ])
    (repeat (first | (refine Plan.tree_read (v := ?_) rfl rfl ?_ ?_; rotate_left; (focus ((intro wS hSw; have hkS := (bcell hSw).1; try (have hkT := fun (b o : Nat) (h : b < w.heap.size) => hkS b o (by first | omega | (simp; omega) | (simp; done))); go_simp); try with_reducible rfl)); simp only [Act.put, List.setIfInBounds_toArray, List.set_cons_zero, List.set_cons_succ]) | (refine Plan.tree_skip rfl rfl ?_; simp only [Act.put, List.setIfInBounds_toArray, List.set_cons_zero, List.set_cons_succ])))
    (refine Plan.tree_write rfl (fun K hK => ?_); try go_simp)
    go_at_call 12
    (with_reducible refine (K6.out _ _ _ _ _ _ ((hA1.below hb22).more hb22.size) hA2).mono ?_)
    rintro e23 w23 ⟨rfl, hb23⟩
    have kB23 := Plan.below_go kB22 hb23
    (try go_simp)
    (refine hK.out _ _ (kB23) ?_; clear hK K; try simp only [Act.put, List.setIfInBounds_toArray, List.set_cons_zero, List.set_cons_succ])
    (repeat (first | (refine Plan.tree_read (v := ?_) rfl rfl ?_ ?_; rotate_left; (focus ((intro wS hSw; have hkS := (bcell hSw).1; try (have hkT := fun (b o : Nat) (h : b < w.heap.size) => hkS b o (by first | omega | (simp; omega) | (simp; done))); go_simp); try with_reducible rfl)); simp only [Act.put, List.setIfInBounds_toArray, List.set_cons_zero, List.set_cons_succ]) | (refine Plan.tree_skip rfl rfl ?_; simp only [Act.put, List.setIfInBounds_toArray, List.set_cons_zero, List.set_cons_succ])))
    refine Plan.tree_done ?_
    have hX4 := hX3.below kB23 hz3
    have hB4 := hB3.trans (kB23.mono hwz)
    have hz4 : w.heap.size < w23.heap.size := by have := kB23.size; omega
    clear hX3 hB3 hz3 hwz x0 x1 x2 x3 x4 x5 x6 x7 x8 x9 x10 hA1 hA2 hb21 hb22 hb23 kB20 kB21 kB22 kB23
    have hwz : w.heap.size ≤ w23.heap.size := by omega
    obtain ⟨x0, x1, x2, x3, x4, x5, x6, x7, x8, x9, x10⟩ := hX4.cells
    go_upto_region 8 with fail
    have kB30 : Below w23.heap.size w23 w23.drew := (Below.refl _ _).drew
    refine Plan.wp_region_tree (.rd 0 (.rd 1 (.rd 2 (.rd 3 (.rd 5 (.rd 6 (.rd 7 (.rd 8 (.wr 4 (.wr 9 (.wr 10 (.rd 11 .done)))))))))))) (by kernel_rfl) (by kernel_rfl) ?_
    (repeat (first | (refine Plan.tree_read (v := ?_) rfl rfl ?_ ?_; rotate_left; (focus ((intro wS hSw; have hkS := (bcell hSw).1; try (have hkT := fun (b o : Nat) (h : b < w.heap.size) => hkS b o (by first | omega | (simp; omega) | (simp; done))); go_simp); try with_reducible rfl)); simp only [Act.put, List.setIfInBounds_toArray, List.set_cons_zero, List.set_cons_succ]) | (refine Plan.tree_skip rfl rfl ?_; simp only [Act.put, List.setIfInBounds_toArray, List.set_cons_zero, List.set_cons_succ])))
    (refine Plan.tree_write rfl (fun K hK => ?_); try go_simp)
    go_at_call 16
    (with_reducible refine (K7.out _ (hB4.trans (kB30.mono hwz))).mono ?_)
    rintro e31 w31 ⟨A1, a1, rfl, hA1, hb31⟩
    have kB31 := Plan.below_go kB30 hb31
    (try go_simp)
    (refine hK.out _ _ (kB31) ?_; clear hK K; try simp only [Act.put, List.setIfInBounds_toArray, List.set_cons_zero, List.set_cons_succ])
    (repeat (first | (refine Plan.tree_read (v := ?_) rfl rfl ?_ ?_; rotate_left; (focus ((intro wS hSw; have hkS := (bcell hSw).1; try (have hkT := fun (b o : Nat) (h : b < w.heap.size) => hkS b o (by first | omega | (simp; omega) | (simp; done))); go_simp); try with_reducible rfl)); simp only [Act.put, List.setIfInBounds_toArray, List.set_cons_zero, List.set_cons_succ]) | (refine Plan.tree_skip rfl rfl ?_; simp only [Act.put, List.setIfInBounds_toArray, List.set_cons_zero, List.set_cons_succ])))
    (refine Plan.tree_write rfl (fun K hK => ?_); try go_simp)
    go_at_call 17
    (with_reducible refine (K8.out _ (hB4.trans (kB31.mono hwz))).mono ?_)
    rintro e32 w32 ⟨A2, a2, rfl, hA2, hb32⟩
    have kB32 := Plan.below_go kB31 hb32
    (try go_simp)
    (refine hK.out _ _ (kB32) ?_; clear hK K; try simp only [Act.put, List.setIfInBounds_toArray, List.set_cons_zero, List.set_cons_succ])
    (repeat (first | (refine Plan.tree_read (v := ?_) rfl rfl ?_ ?_; rotate_left; (focus ((intro wS hSw; have hkS := (bcell hSw).1; try (have hkT := fun (b o : Nat) (h : b < w.heap.size) => hkS b o (by first | omega | (simp; omega) | (simp; done))); go_simp); try with_reducible rfl)); simp only [Act.put, List.setIfInBounds_toArray, List.set_cons_zero, List.set_cons_succ]) | (refine Plan.tree_skip rfl rfl ?_; simp only [Act.put, List.setIfInBounds_toArray, List.set_cons_zero, List.set_cons_succ])))
    (refine Plan.tree_write rfl (fun K hK => ?_); try go_simp)
    go_at_call 15
    (with_reducible refine (K9.out _ _ _ _ _ _ ((hA1.below hb32).more hb32.size) hA2).mono ?_)
    rintro e33 w33 ⟨rfl, hb33⟩
    have kB33 := Plan.below_go kB32 hb33
    (try go_simp)
    (refine hK.out _ _ (kB33) ?_; clear hK K; try simp only [Act.put, List.setIfInBounds_toArray, List.set_cons_zero, List.set_cons_succ])
    (repeat (first | (refine Plan.tree_read (v := ?_) rfl rfl ?_ ?_; rotate_left; (focus ((intro wS hSw; have hkS := (bcell hSw).1; try (have hkT := fun (b o : Nat) (h : b < w.heap.size) => hkS b o (by first | omega | (simp; omega) | (simp; done))); go_simp); try with_reducible rfl)); simp only [Act.put, List.setIfInBounds_toArray, List.set_cons_zero, List.set_cons_succ]) | (refine Plan.tree_skip rfl rfl ?_; simp only [Act.put, List.setIfInBounds_toArray, List.set_cons_zero, List.set_cons_succ])))
    refine Plan.tree_done ?_
    have hX5 := hX4.below kB33 hz4
    have hB5 := hB4.trans (kB33.mono hwz)
    have hz5 : w.heap.size < w33.heap.size := by have := kB33.size; omega
    clear hX4 hB4 hz4 hwz x0 x1 x2 x3 x4 x5 x6 x7 x8 x9 x10 hA1 hA2 hb31 hb32 hb33 kB30 kB31 kB32 kB33
    have hwz : w.heap.size ≤ w33.heap.size := by omega
    obtain ⟨x0, x1, x2, x3, x4, x5, x6, x7, x8, x9, x10⟩ := hX5.cells
    go_upto_region 9 with fail
    have kB40 : Below w33.heap.size w33 w33.drew := (Below.refl _ _).drew
    refine Plan.wp_region_tree (.rd 0 (.rd 1 (.rd 2 (.rd 3 (.rd 4 (.rd 5 (.rd 6 (.rd 7 (.rd 8 (.rd 9 (.rd 10 (.rd 11 (.rd 12 (.rd 14 (.rd 15 (.rd 16 (.rd 17 (.rd 18 (.wr 13 (.wr 19 (.rd 20 (.rd 21 (.rd 22 (.rd 23 (.rd 24 (.rd 25 (.rd 26 (.rd 27 (.rd 29 (.rd 30 (.rd 31 (.rd 32 (.rd 33 (.wr 28 (.wr 34 (.rd 35 (.rd 36 (.rd 37 .done)))))))))))))))))))))))))))))))))))))) (by kernel_rfl) (by kernel_rfl) ?_
    (repeat (first | (refine Plan.tree_read (v := ?_) rfl rfl ?_ ?_; rotate_left; (focus ((intro wS hSw; have hkS := (bcell hSw).1; try (have hkT := fun (b o : Nat) (h : b < w.heap.size) => hkS b o (by first | omega | (simp; omega) | (simp; done))); go_simp); try with_reducible rfl)); simp only [Act.put, List.setIfInBounds_toArray, List.set_cons_zero, List.set_cons_succ]) | (refine Plan.tree_skip rfl rfl ?_; simp only [Act.put, List.setIfInBounds_toArray, List.set_cons_zero, List.set_cons_succ])))
    (refine Plan.tree_write rfl (fun K hK => ?_); try go_simp)
    go_at_call 18
    (with_reducible refine (K10.out _ (hB5.trans (kB40.mono hwz))).mono ?_)
    rintro e41 w41 ⟨rfl, hb41⟩
    have kB41 := Plan.below_go kB40 hb41
    (try go_simp)
    (refine hK.out _ _ (kB41) ?_; clear hK K; try simp only [Act.put, List.setIfInBounds_toArray, List.set_cons_zero, List.set_cons_succ])
    (repeat (first | (refine Plan.tree_read (v := ?_) rfl rfl ?_ ?_; rotate_left; (focus ((intro wS hSw; have hkS := (bcell hSw).1; try (have hkT := fun (b o : Nat) (h : b < w.heap.size) => hkS b o (by first | omega | (simp; omega) | (simp; done))); go_simp); try with_reducible rfl)); simp only [Act.put, List.setIfInBounds_toArray, List.set_cons_zero, List.set_cons_succ]) | (refine Plan.tree_skip rfl rfl ?_; simp only [Act.put, List.setIfInBounds_toArray, List.set_cons_zero, List.set_cons_succ])))
    (refine Plan.tree_write rfl (fun K hK => ?_); try go_simp)
    go_at_call 19
    (with_reducible refine (K11.out _ (hB5.trans (kB41.mono hwz))).mono ?_)
    rintro e42 w42 ⟨rfl, hb42⟩
    have kB42 := Plan.below_go kB41 hb42
    (try go_simp)
    (refine hK.out _ _ (kB42) ?_; clear hK K; try simp only [Act.put, List.setIfInBounds_toArray, List.set_cons_zero, List.set_cons_succ])
    (repeat (first | (refine Plan.tree_read (v := ?_) rfl rfl ?_ ?_; rotate_left; (focus ((intro wS hSw; have hkS := (bcell hSw).1; try (have hkT := fun (b o : Nat) (h : b < w.heap.size) => hkS b o (by first | omega | (simp; omega) | (simp; done))); go_simp); try with_reducible rfl)); simp only [Act.put, List.setIfInBounds_toArray, List.set_cons_zero, List.set_cons_succ]) | (refine Plan.tree_skip rfl rfl ?_; simp only [Act.put, List.setIfInBounds_toArray, List.set_cons_zero, List.set_cons_succ])))
    (refine Plan.tree_write rfl (fun K hK => ?_); try go_simp)
    go_at_call 20
    (with_reducible refine (K12.out _ (hB5.trans (kB42.mono hwz))).mono ?_)
    rintro e43 w43 ⟨rfl, hb43⟩
    have kB43 := Plan.below_go kB42 hb43
    (try go_simp)
    (refine hK.out _ _ (kB43) ?_; clear hK K; try simp only [Act.put, List.setIfInBounds_toArray, List.set_cons_zero, List.set_cons_succ])
    (repeat (first | (refine Plan.tree_read (v := ?_) rfl rfl ?_ ?_; rotate_left; (focus ((intro wS hSw; have hkS := (bcell hSw).1; try (have hkT := fun (b o : Nat) (h : b < w.heap.size) => hkS b o (by first | omega | (simp; omega) | (simp; done))); go_simp); try with_reducible rfl)); simp only [Act.put, List.setIfInBounds_toArray, List.set_cons_zero, List.set_cons_succ]) | (refine Plan.tree_skip rfl rfl ?_; simp only [Act.put, List.setIfInBounds_toArray, List.set_cons_zero, List.set_cons_succ])))
    (refine Plan.tree_write rfl (fun K hK => ?_); try go_simp)
    go_at_call 21
    (with_reducible refine (K13.out _ (hB5.trans (kB43.mono hwz))).mono ?_)
    rintro e44 w44 ⟨rfl, hb44⟩
    have kB44 := Plan.below_go kB43 hb44
    (try go_simp)
    (refine hK.out _ _ (kB44) ?_; clear hK K; try simp only [Act.put, List.setIfInBounds_toArray, List.set_cons_zero, List.set_cons_succ])
    (repeat (first | (refine Plan.tree_read (v := ?_) rfl rfl ?_ ?_; rotate_left; (focus ((intro wS hSw; have hkS := (bcell hSw).1; try (have hkT := fun (b o : Nat) (h : b < w.heap.size) => hkS b o (by first | omega | (simp; omega) | (simp; done))); go_simp); try with_reducible rfl)); simp only [Act.put, List.setIfInBounds_toArray, List.set_cons_zero, List.set_cons_succ]) | (refine Plan.tree_skip rfl rfl ?_; simp only [Act.put, List.setIfInBounds_toArray, List.set_cons_zero, List.set_cons_succ])))
    refine Plan.tree_done ?_
    go_wp2_with fail
    go_ret
    exact ⟨ret_bool (by simp), hB5.trans (kB44.mono hwz)⟩
end Go.Proofs.Ytkbceeobnbbfbaa
