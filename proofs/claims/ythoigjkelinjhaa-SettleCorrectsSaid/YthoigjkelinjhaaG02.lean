/- Joined of: S1 S2 S3. -/
import Derived.Test.YthoigjkelinjhaaV2
import Derived.Test.YthoigjkelinjhaaG7
import Derived.Test.YthoigjkelinjhaaG01
/- Walks of SameGrants, few, modest. (Printed by gen_s1.py.) -/
set_option linter.unusedSimpArgs false
set_option linter.unusedVariables false
namespace Go.Proofs.Ythoigjkelinjhaa
open Go.RowKit CM
attribute [local go_sem] alloc_drewN setCell_drewN shape_drewN

set_option maxHeartbeats 1000000 in
theorem sameG_any (A E : List (Int × Int)) (C D : Option Addr) (cc dc : Nat) (w : World) {B : Nat} (hC : PairsAt w B C A) (hD : PairsAt w B D E) (hl : A.length ≤ 9223372036854775807) (hl2 : E.length ≤ 9223372036854775807) :
    Calls Try.prog 14 #[.slice C A.length cc, .slice D E.length dc] w (SameIs A E w) := by
  by_cases hle : A.length = E.length
  case neg =>
    have Hn := Lib.hid (sameL_len hle)
    have hl1 : (A.length != E.length) = true := by simp; exact hle
    have hl2 : ((A.length : Int) != (E.length : Int)) = true := by simp; omega
    go_enter Try.func14, Try.ntmps14
    go_wp2_with fail
    go_ret
    exact ⟨ret_bool Hn.out.symm, 0, rfl⟩
  have Hl := Lib.hid hle
  rw [← hle]
  clear hle hl2
  go_enter Try.func14, Try.ntmps14
  go_wp2_with fail
  go_loopw [5] (fun i wr => ∃ k m : Nat, k ≤ A.length ∧ i = .int .i64 k ∧ Hid (A.take k = E.take k) ∧ wr = w.drewN m) (fun i _ => A.length - (intOf i).toNat)
  case atStart => exact ⟨0, 0, Nat.zero_le _, rfl, rfl, rfl⟩
  case round =>
    obtain ⟨k, m, hk, rfl, hm, hwr⟩ := hrel
    subst hwr
    by_cases hlt : k < A.length
    · obtain ⟨x, hx⟩ : ∃ x, A[k]? = some x := ⟨_, List.getElem?_eq_getElem hlt⟩
      obtain ⟨y, hy⟩ : ∃ y, E[k]? = some y := ⟨_, List.getElem?_eq_getElem (by have := Hl.out; omega)⟩
      obtain ⟨b, off, rfl, hb, c0, c1⟩ := hC.at_ hx
      obtain ⟨b2, off2, rfl, hb2, d0, d1⟩ := hD.at_ hy
      have hk0 : 0 ≤ (k : Int) ∧ (k : Int) < (A.length : Int) := by omega
      by_cases g : x = y
      · have hN : Hid (A.take (k + 1) = E.take (k + 1)) := take_both hm.out hx (g ▸ hy)
        have g1 : (x.1 == y.1) = true := by simp [g]
        have g2 : (x.2 == y.2) = true := by simp [g]
        clear hx hy g
        go_upto_region 6 with fail
        go_quiet (fail)
        go_wp2_with fail
        go_roundw
        case rel => exact ⟨k + 1, _, by omega, by go_num, hN, rfl⟩
        case measure => simp [intOf]; omega
      · have hN : Hid (SameL A E = false) := sameL_no hx hy g
        clear hx hy
        by_cases h1 : x.1 = y.1
        · have g1 : (x.1 == y.1) = true := by simp [h1]
          have g2 : (x.2 == y.2) = false := by
            rw [Bool.eq_false_iff]; intro h; simp at h; exact g (Prod.ext h1 h)
          clear h1 g
          go_upto_region 6 with fail
          go_quiet (fail)
          go_wp2_with fail
          go_ret
          exact ⟨ret_bool hN.out.symm, _, World.drewN_drewN _ _ _⟩
        · have g1 : (x.1 == y.1) = false := by simpa using h1
          clear h1 g
          go_upto_region 6 with fail
          go_quiet (fail)
          go_wp2_with fail
          go_ret
          exact ⟨ret_bool hN.out.symm, _, World.drewN_drewN _ _ _⟩
    · have hke : k = A.length := by omega
      subst hke
      have hN : Hid (SameL A E = true) := sameL_yes Hl.out hm.out
      go_wp2_with fail
      go_ret
      exact ⟨ret_bool hN.out.symm, _, rfl⟩
/-- Some answer; where it is yes, P holds. -/
def IfB (P : Prop) (w : World) (e : Ending) (w' : World) : Prop := ∃ b : Bool, e = .returned (.bool b) ∧ (b = true → P) ∧ Below w.heap.size w w'
def Few4 (X : Bas) (pl : Pl) (n1 n2 n3 n4 : Nat) : Prop := (pl.length ≤ 8 ∧ X.l4 ≤ 4 ∧ X.l5 ≤ 4 ∧ X.l6 ≤ 6 ∧ X.l1 ≤ 4) ∧ n1 ≤ 8 ∧ n2 ≤ 8 ∧ n3 ≤ 8 ∧ n4 ≤ 10
def RightOk : Prop := ∀ (X : Bas) (pl : Pl) (w : World), RT.BasOk w w.heap.size X pl → X.nm.size ≤ 9223372036854775807 → pl.length ≤ 8 → X.l4 ≤ 4 → X.l5 ≤ 4 → X.l6 ≤ 6 → Calls Try.prog 20 #[.agg #[.string X.nm, .slice X.a1 X.l1 X.c1, .int .i64 X.cl, .slice X.P pl.length X.cP, .slice X.a4 X.l4 X.c4, .slice X.a5 X.l5 X.c5, .slice X.a6 X.l6 X.c6, .slice X.a7 X.l7 X.c7, .slice X.a8 X.l8 X.c8, .slice X.a9 X.l9 X.c9, .int .i64 X.er]] w (RT.SomeB w)
set_option maxRecDepth 100000 in
set_option maxHeartbeats 4000000 in
theorem few4_any (KR0 : RightOk) (X : Bas) (pl : Pl) (C1 : Option Addr) (n1 k1 : Nat) (C2 : Option Addr) (n2 k2 : Nat) (C3 : Option Addr) (n3 k3 : Nat) (C4 : Option Addr) (n4 k4 : Nat) (w : World) (hX : RT.BasOk w w.heap.size X pl) (hnm : X.nm.size ≤ 9223372036854775807) :
    Calls Try.prog 8 #[.agg #[.string X.nm, .slice X.a1 X.l1 X.c1, .int .i64 X.cl, .slice X.P pl.length X.cP, .slice X.a4 X.l4 X.c4, .slice X.a5 X.l5 X.c5, .slice X.a6 X.l6 X.c6, .slice X.a7 X.l7 X.c7, .slice X.a8 X.l8 X.c8, .slice X.a9 X.l9 X.c9, .int .i64 X.er], .slice C1 n1 k1, .slice C2 n2 k2, .slice C3 n3 k3, .slice C4 n4 k4] w (IfB (Few4 X pl n1 n2 n3 n4) w) := by
  obtain ⟨nm, a1, l1, c1, cl, P, cP, a4, l4, c4, a5, l5, c5, a6, l6, c6, a7, l7, c7, a8, l8, c8, a9, l9, c9, er⟩ := X
  dsimp only at hnm ⊢
  have HX := Lib.hid hX
  clear hX
  by_cases h1 : pl.length ≤ 8
  case neg =>
    have d1 : decide (8 < pl.length) = true := decide_eq_true (by omega)
    have e1 : decide ((8 : Int) < (pl.length : Int)) = true := decide_eq_true (by omega)
    go_enter Try.func8, Try.ntmps8
    go_wp2_with fail
    go_ret
    exact ⟨false, rfl, (fun h => by cases h), (Below.refl _ _).alloc (Nat.le_refl _) _⟩
  have e1 : decide ((8 : Int) < (pl.length : Int)) = false := decide_eq_false (by omega)
  have d1 : decide (8 < pl.length) = false := decide_eq_false (by omega)
  by_cases h2 : l4 ≤ 4
  case neg =>
    have d2 : decide (4 < l4) = true := decide_eq_true (by omega)
    have e2 : decide ((4 : Int) < (l4 : Int)) = true := decide_eq_true (by omega)
    go_enter Try.func8, Try.ntmps8
    go_wp2_with fail
    go_ret
    exact ⟨false, rfl, (fun h => by cases h), (Below.refl _ _).alloc (Nat.le_refl _) _⟩
  have e2 : decide ((4 : Int) < (l4 : Int)) = false := decide_eq_false (by omega)
  have d2 : decide (4 < l4) = false := decide_eq_false (by omega)
  by_cases h3 : l5 ≤ 4
  case neg =>
    have d3 : decide (4 < l5) = true := decide_eq_true (by omega)
    have e3 : decide ((4 : Int) < (l5 : Int)) = true := decide_eq_true (by omega)
    go_enter Try.func8, Try.ntmps8
    go_wp2_with fail
    go_ret
    exact ⟨false, rfl, (fun h => by cases h), (Below.refl _ _).alloc (Nat.le_refl _) _⟩
  have e3 : decide ((4 : Int) < (l5 : Int)) = false := decide_eq_false (by omega)
  have d3 : decide (4 < l5) = false := decide_eq_false (by omega)
  by_cases h4 : l6 ≤ 6
  case neg =>
    have d4 : decide (6 < l6) = true := decide_eq_true (by omega)
    have e4 : decide ((6 : Int) < (l6 : Int)) = true := decide_eq_true (by omega)
    go_enter Try.func8, Try.ntmps8
    go_wp2_with fail
    go_ret
    exact ⟨false, rfl, (fun h => by cases h), (Below.refl _ _).alloc (Nat.le_refl _) _⟩
  have e4 : decide ((6 : Int) < (l6 : Int)) = false := decide_eq_false (by omega)
  have d4 : decide (6 < l6) = false := decide_eq_false (by omega)
  by_cases h5 : l1 ≤ 4
  case neg =>
    have d5 : decide (4 < l1) = true := decide_eq_true (by omega)
    have e5 : decide ((4 : Int) < (l1 : Int)) = true := decide_eq_true (by omega)
    go_enter Try.func8, Try.ntmps8
    go_wp2_with fail
    go_ret
    exact ⟨false, rfl, (fun h => by cases h), (Below.refl _ _).alloc (Nat.le_refl _) _⟩
  have e5 : decide ((4 : Int) < (l1 : Int)) = false := decide_eq_false (by omega)
  have d5 : decide (4 < l1) = false := decide_eq_false (by omega)
  by_cases h6 : n1 ≤ 8
  case neg =>
    have d6 : decide (n1 ≤ 8) = false := decide_eq_false h6
    have e6 : decide ((n1 : Int) ≤ 8) = false := decide_eq_false (by omega)
    go_enter Try.func8, Try.ntmps8
    go_wp2_with fail
    go_ret
    exact ⟨false, rfl, (fun h => by cases h), (Below.refl _ _).alloc (Nat.le_refl _) _⟩
  have e6 : decide ((n1 : Int) ≤ 8) = true := decide_eq_true (by omega)
  have d6 : decide (n1 ≤ 8) = true := decide_eq_true h6
  by_cases h7 : n2 ≤ 8
  case neg =>
    have d7 : decide (n2 ≤ 8) = false := decide_eq_false h7
    have e7 : decide ((n2 : Int) ≤ 8) = false := decide_eq_false (by omega)
    go_enter Try.func8, Try.ntmps8
    go_wp2_with fail
    go_ret
    exact ⟨false, rfl, (fun h => by cases h), (Below.refl _ _).alloc (Nat.le_refl _) _⟩
  have e7 : decide ((n2 : Int) ≤ 8) = true := decide_eq_true (by omega)
  have d7 : decide (n2 ≤ 8) = true := decide_eq_true h7
  by_cases h8 : n3 ≤ 8
  case neg =>
    have d8 : decide (n3 ≤ 8) = false := decide_eq_false h8
    have e8 : decide ((n3 : Int) ≤ 8) = false := decide_eq_false (by omega)
    go_enter Try.func8, Try.ntmps8
    go_wp2_with fail
    go_ret
    exact ⟨false, rfl, (fun h => by cases h), (Below.refl _ _).alloc (Nat.le_refl _) _⟩
  have e8 : decide ((n3 : Int) ≤ 8) = true := decide_eq_true (by omega)
  have d8 : decide (n3 ≤ 8) = true := decide_eq_true h8
  by_cases h9 : n4 ≤ 10
  case neg =>
    have d9 : decide (n4 ≤ 10) = false := decide_eq_false h9
    have e9 : decide ((n4 : Int) ≤ 10) = false := decide_eq_false (by omega)
    go_enter Try.func8, Try.ntmps8
    go_wp2_with fail
    go_ret
    exact ⟨false, rfl, (fun h => by cases h), (Below.refl _ _).alloc (Nat.le_refl _) _⟩
  have e9 : decide ((n4 : Int) ≤ 10) = true := decide_eq_true (by omega)
  have d9 : decide (n4 ≤ 10) = true := decide_eq_true h9
  have HF : Hid (Few4 ⟨nm, a1, l1, c1, cl, P, cP, a4, l4, c4, a5, l5, c5, a6, l6, c6, a7, l7, c7, a8, l8, c8, a9, l9, c9, er⟩ pl n1 n2 n3 n4) := ⟨⟨h1, h2, h3, h4, h5⟩, h6, h7, h8, h9⟩
  have KR : Hid (∀ wx, Below w.heap.size w wx → Calls Try.prog 20 #[.agg #[.string nm, .slice a1 l1 c1, .int .i64 cl, .slice P pl.length cP, .slice a4 l4 c4, .slice a5 l5 c5, .slice a6 l6 c6, .slice a7 l7 c7, .slice a8 l8 c8, .slice a9 l9 c9, .int .i64 er]] wx (RT.SomeB wx)) := fun wx h => KR0 ⟨nm, a1, l1, c1, cl, P, cP, a4, l4, c4, a5, l5, c5, a6, l6, c6, a7, l7, c7, a8, l8, c8, a9, l9, c9, er⟩ pl wx (HX.out.up h) hnm h1 h2 h3 h4
  clear h1 h2 h3 h4 h5 h6 h7 h8 h9 KR0 HX hnm
  go_enter Try.func8, Try.ntmps8
  go_wp2_with (first | (go_at_call 20; (with_reducible refine (KR.out _ ((Below.refl _ _).alloc (Nat.le_refl _) _)).mono ?_); rintro e1 w1 ⟨b1, rfl, hb1⟩) | fail)
  go_ret
  exact ⟨b1, rfl, fun _ => HF.out, ((Below.refl _ _).alloc (Nat.le_refl _) _).trans (hb1.mono (by simp))⟩
def Mod4 (S : List Int) : Prop := ∀ x ∈ S, 0 ≤ x ∧ x ≤ 1099511627776
set_option maxHeartbeats 1000000 in
theorem modest4_any (S : List Int) (C : Option Addr) (cc : Nat) (w : World) {B : Nat} (hC : IntsAt w B C S) (hB : B ≤ w.heap.size) (hl : S.length ≤ 9223372036854775807) : Calls Try.prog 10 #[.slice C S.length cc] w (IfB (Mod4 S) w) := by
  go_enter Try.func10, Try.ntmps10
  go_wp2_with fail
  go_loop [3] (fun i => ∃ k : Nat, k ≤ S.length ∧ i = .int .i64 k ∧ Hid (∀ x ∈ S.take k, 0 ≤ x ∧ x ≤ 1099511627776)) (fun i => S.length - (intOf i).toNat)
  case atStart => exact ⟨0, Nat.zero_le _, rfl, fun x hx => by simp at hx⟩
  case round =>
    obtain ⟨k, hk, rfl, hm⟩ := hrel
    by_cases h1 : k < S.length
    case neg =>
      have hF : Hid (Mod4 S) := fun x hx => hm.out x (by rw [show k = S.length by omega, List.take_length]; exact hx)
      go_wp2_with fail
      go_ret
      exact ⟨true, rfl, fun _ => hF.out, Below.refl _ _⟩
    obtain ⟨s, hx⟩ : ∃ s, S[k]? = some s := ⟨_, List.getElem?_eq_getElem h1⟩
    obtain ⟨b, off, rfl, hb, c0⟩ := hC.at_ hx
    have hN : 0 ≤ s → s ≤ 1099511627776 → Hid (∀ x ∈ S.take (k + 1), 0 ≤ x ∧ x ≤ 1099511627776) := fun q1 q2 x hm2 => by
      rw [List.take_add_one, hx] at hm2
      rcases List.mem_append.1 hm2 with h | h
      · exact hm.out x h
      · simp at h; subst h; exact ⟨q1, q2⟩
    clear hx
    by_cases h2 : s < 0
    · have d2 : decide (s < 0) = true := decide_eq_true h2
      clear hN h2
      go_wp2_with fail
      go_ret
      exact ⟨false, rfl, (fun h => by cases h), Below.refl _ _⟩
    have d2 : decide (s < 0) = false := decide_eq_false h2
    by_cases h3 : 1099511627776 < s
    · have d3 : decide (1099511627776 < s) = true := decide_eq_true h3
      clear hN h2 h3
      go_wp2_with fail
      go_ret
      exact ⟨false, rfl, (fun h => by cases h), Below.refl _ _⟩
    have d3 : decide (1099511627776 < s) = false := decide_eq_false h3
    have hN2 := hN (by omega) (by omega)
    clear hN h2 h3
    go_wp2_with fail
    go_round
    case rel => exact ⟨k + 1, by omega, by go_num, hN2⟩
    case measure => simp [intOf]; omega
end Go.Proofs.Ythoigjkelinjhaa

/- The walk of plain (chapter 40). (Printed by gen_s2.py.) -/
namespace Go.Proofs.Ythoigjkelinjhaa
open Go.RowKit CM
attribute [local go_sem] alloc_drewN setCell_drewN shape_drewN

/-- A right of a plain roster. -/
def okR (X : Bas) (pl : Pl) (r : Rt) : Prop := (0 ≤ r.owner ∧ r.owner < X.l1) ∧ (0 ≤ r.place ∧ r.place < pl.length) ∧ 0 ≤ r.id ∧ r.id ≤ 1000
def Plain4 (X : Bas) (pl : Pl) (R : List Rt) : Prop := (∀ r ∈ R, okR X pl r) ∧ (R.map (·.id)).Nodup
theorem nodup_snoc {α : Type} {l : List α} {a : α} (h : l.Nodup) (ha : a ∉ l) : (l ++ [a]).Nodup := List.nodup_append.2 ⟨h, by simp, fun x hx y hy => by simp at hy; subst hy; exact fun e => ha (e ▸ hx)⟩
theorem RightsAt.same {w : World} {B b off : Nat} {C : Option Addr} {A : List Rt} (h : RightsAt w B C A) (hC : C = some ⟨b, off, none⟩) {k : Nat} {r : Rt} (hk : A[k]? = some r) : w.cell? ⟨b, off + k * 9, none⟩ = some (.int .i64 r.id) := by
  obtain ⟨b', off', e, _, c, _⟩ := h.at_ hk
  rw [hC] at e
  injection e with e
  injection e with e1 e2
  subst e1 e2
  exact c
set_option maxRecDepth 100000 in
set_option maxHeartbeats 8000000 in
theorem plain4_any (X : Bas) (pl : Pl) (R : List Rt) (C : Option Addr) (cr : Nat) (w : World) {B : Nat} (hR : RightsAt w B C R) (hB : B ≤ w.heap.size) (hr : R.length ≤ 9223372036854775807) (hpl : pl.length ≤ 9223372036854775807) (hl1 : X.l1 ≤ 9223372036854775807) :
    Calls Try.prog 9 #[.agg #[.string X.nm, .slice X.a1 X.l1 X.c1, .int .i64 X.cl, .slice X.P pl.length X.cP, .slice X.a4 X.l4 X.c4, .slice X.a5 X.l5 X.c5, .slice X.a6 X.l6 X.c6, .slice X.a7 X.l7 X.c7, .slice X.a8 X.l8 X.c8, .slice X.a9 X.l9 X.c9, .int .i64 X.er], .slice C R.length cr] w (IfB (Plain4 X pl R) w) := by
  obtain ⟨nm, a1, l1, c1, cl, P, cP, a4, l4, c4, a5, l5, c5, a6, l6, c6, a7, l7, c7, a8, l8, c8, a9, l9, c9, er⟩ := X
  dsimp only at hl1 ⊢
  obtain ⟨OKR, hOKR⟩ : ∃ Q : Rt → Prop, Hid (Q = okR ⟨nm, a1, l1, c1, cl, P, cP, a4, l4, c4, a5, l5, c5, a6, l6, c6, a7, l7, c7, a8, l8, c8, a9, l9, c9, er⟩ pl) := ⟨_, rfl⟩
  have HRs := Lib.hid (fun (wr : World) (h : Below w.heap.size w wr) => hR.below (h.mono hB))
  clear hR
  go_enter Try.func9, Try.ntmps9
  go_wp2_with fail
  have hX0 := RT.Box.new w #[.string nm, .slice a1 l1 c1, .int .i64 cl, .slice P pl.length cP, .slice a4 l4 c4, .slice a5 l5 c5, .slice a6 l6 c6, .slice a7 l7 c7, .slice a8 l8 c8, .slice a9 l9 c9, .int .i64 er] 31
  have hB0 := below_new w (.cells #[.string nm, .slice a1 l1 c1, .int .i64 cl, .slice P pl.length cP, .slice a4 l4 c4, .slice a5 l5 c5, .slice a6 l6 c6, .slice a7 l7 c7, .slice a8 l8 c8, .slice a9 l9 c9, .int .i64 er] 31)
  go_loopw [5] (fun iv wr => ∃ k : Nat, k ≤ R.length ∧ iv = .int .i64 k ∧ Hid ((∀ r ∈ R.take k, OKR r) ∧ ((R.take k).map (·.id)).Nodup) ∧ RT.Box wr w.heap.size #[.string nm, .slice a1 l1 c1, .int .i64 cl, .slice P pl.length cP, .slice a4 l4 c4, .slice a5 l5 c5, .slice a6 l6 c6, .slice a7 l7 c7, .slice a8 l8 c8, .slice a9 l9 c9, .int .i64 er] 31 ∧ Below w.heap.size w wr) (fun iv _ => R.length - (intOf iv).toNat)
  case atStart => exact ⟨0, Nat.zero_le _, rfl, ⟨fun r h => by simp at h, by simp⟩, hX0, hB0⟩
  case round =>
    clear hX0 hB0
    obtain ⟨k, hk, rfl, hok, hX, hBw⟩ := hrel
    by_cases hlt : k < R.length
    case neg =>
      have hF : Hid (Plain4 ⟨nm, a1, l1, c1, cl, P, cP, a4, l4, c4, a5, l5, c5, a6, l6, c6, a7, l7, c7, a8, l8, c8, a9, l9, c9, er⟩ pl R) := by
        have q := hok.out
        rw [show k = R.length by omega, List.take_length, hOKR.out] at q
        exact q
      go_wp2_with fail
      go_ret
      exact ⟨true, rfl, fun _ => hF.out, hBw⟩
    obtain ⟨r, hx⟩ : ∃ r, R[k]? = some r := ⟨_, List.getElem?_eq_getElem hlt⟩
    have hRr := Lib.hid (HRs.out wr hBw)
    obtain ⟨b, off, ec, hb, r0, r1, r2, r3, r4, r5, r6, r7, r8⟩ := hRr.out.at_ hx
    have hsame := Lib.hid (fun (j : Nat) (q : Rt) (hj : R[j]? = some q) => hRr.out.same ec hj)
    subst ec
    have hbw : b < wr.heap.size := by have := hBw.size; omega
    have hk0 : 0 ≤ (k : Int) ∧ (k : Int) < (R.length : Int) := by omega
    have hXl := hX.lt
    have x1 : wr.cell? ⟨w.heap.size, 1, none⟩ = some (.slice a1 l1 c1) := hX.cell rfl
    have x3 : wr.cell? ⟨w.heap.size, 3, none⟩ = some (.slice P pl.length cP) := hX.cell rfl
    have hid0 := Lib.hid r.id.lt_irrefl
    obtain ⟨ow, how⟩ : ∃ z, r.owner = z := ⟨_, rfl⟩
    obtain ⟨pc, hpc⟩ : ∃ z, r.place = z := ⟨_, rfl⟩
    obtain ⟨ri, hri⟩ : ∃ z, r.id = z := ⟨_, rfl⟩
    rw [hri] at r0
    rw [how] at r1
    rw [hpc] at r3
    have HX1 := Lib.hid hX
    have HBw := Lib.hid hBw
    have HE := Lib.hid (And.intro how (And.intro hpc hri))
    clear r2 r4 r5 r6 r7 r8 how hpc hri hid0 hX hBw
    by_cases h0 : ow < 0
    · have d0 : decide (ow < 0) = true := decide_eq_true h0
      clear h0
      go_upto_region 4 with fail
      go_quiet (fail)
      go_wp2_with fail
      go_ret
      exact ⟨false, rfl, (fun h => by cases h), below_drewN HBw.out _⟩
    have d0 : decide (ow < 0) = false := decide_eq_false h0
    by_cases h1 : (l1 : Int) ≤ ow
    · have d1 : decide ((l1 : Int) ≤ ow) = true := decide_eq_true h1
      clear h1
      go_upto_region 4 with fail
      go_quiet (fail)
      go_wp2_with fail
      go_ret
      exact ⟨false, rfl, (fun h => by cases h), below_drewN HBw.out _⟩
    have d1 : decide ((l1 : Int) ≤ ow) = false := decide_eq_false h1
    by_cases h2 : pc < 0
    · have d2 : decide (pc < 0) = true := decide_eq_true h2
      clear h2
      go_upto_region 4 with fail
      go_quiet (fail)
      go_wp2_with fail
      go_ret
      exact ⟨false, rfl, (fun h => by cases h), below_drewN HBw.out _⟩
    have d2 : decide (pc < 0) = false := decide_eq_false h2
    by_cases h3 : (pl.length : Int) ≤ pc
    · have d3 : decide ((pl.length : Int) ≤ pc) = true := decide_eq_true h3
      clear h3
      go_upto_region 4 with fail
      go_quiet (fail)
      go_wp2_with fail
      go_ret
      exact ⟨false, rfl, (fun h => by cases h), below_drewN HBw.out _⟩
    have d3 : decide ((pl.length : Int) ≤ pc) = false := decide_eq_false h3
    by_cases h4 : ri < 0
    · have d4 : decide (ri < 0) = true := decide_eq_true h4
      clear h4
      go_upto_region 4 with fail
      go_quiet (fail)
      go_wp2_with fail
      go_ret
      exact ⟨false, rfl, (fun h => by cases h), below_drewN HBw.out _⟩
    have d4 : decide (ri < 0) = false := decide_eq_false h4
    by_cases h5 : 1000 < ri
    · have d5 : decide (1000 < ri) = true := decide_eq_true h5
      clear h5
      go_upto_region 4 with fail
      go_quiet (fail)
      go_wp2_with fail
      go_ret
      exact ⟨false, rfl, (fun h => by cases h), below_drewN HBw.out _⟩
    have d5 : decide (1000 < ri) = false := decide_eq_false h5
    have HOK : Hid (OKR r) := by
      show OKR r
      rw [hOKR.out]
      obtain ⟨e1, e2, e3⟩ := HE.out
      exact ⟨by rw [e1]; dsimp only; omega, by rw [e2]; omega, by rw [e3]; omega⟩
    clear h0 h1 h2 h3 h4 h5
    go_upto_region 4 with fail
    go_quiet (fail)
    go_wp2_with fail
    clear d0 d1 d2 d3 d4 d5 x1 x3 r1 r3
    have hkl : k ≤ 9223372036854775807 := by omega
    obtain ⟨w1, rfl⟩ : ∃ w1, w1 = wr := ⟨_, rfl⟩
    have HK : Hid (k < R.length) := hlt
    go_loopw [6] (fun jv wx => ∃ j n : Nat, j ≤ k ∧ jv = .int .i64 j ∧ Hid (∀ (i : Nat) (q : Rt), i < j → R[i]? = some q → q.id ≠ ri) ∧ wx = w1.drewN n) (fun jv _ => k - (intOf jv).toNat)
    case atStart => exact ⟨0, _, Nat.zero_le _, rfl, fun i q h => absurd h (Nat.not_lt_zero _), rfl⟩
    case round =>
      obtain ⟨j, n, hj, rfl, hne, hwr⟩ := hrel
      subst hwr
      by_cases hjk : j < k
      · obtain ⟨q, hq⟩ : ∃ q, R[j]? = some q := ⟨_, List.getElem?_eq_getElem (by omega)⟩
        have c0 := hsame.out j q hq
        have hj0 : 0 ≤ (j : Int) ∧ (j : Int) < (R.length : Int) := by omega
        have hjn : (j : Int) < (k : Int) := by omega
        by_cases hqr : q.id = ri
        · have g1 : (q.id == ri) = true := by simpa using hqr
          clear hqr hq
          go_upto_region 9 with fail
          go_quiet (fail)
          go_wp2_with fail
          go_ret
          exact ⟨false, rfl, (fun h => by cases h), below_drewN (below_drewN HBw.out _) _⟩
        · have g1 : (q.id == ri) = false := by simpa using hqr
          have hN : Hid (∀ (i : Nat) (q : Rt), i < j + 1 → R[i]? = some q → q.id ≠ ri) := fun i q2 hi h2 => by
            by_cases g : i < j
            · exact hne.out i q2 g h2
            · obtain rfl : i = j := by omega
              rw [hq] at h2
              injection h2 with h2
              subst h2
              exact hqr
          clear hqr hq hne
          go_upto_region 9 with fail
          go_quiet (fail)
          go_wp2_with fail
          go_roundw
          case rel => exact ⟨j + 1, _, by omega, by go_num, hN, rfl⟩
          case measure => simp [intOf]; omega
      · obtain rfl : j = k := by omega
        have hN : Hid ((∀ r ∈ R.take (j + 1), OKR r) ∧ ((R.take (j + 1)).map (·.id)).Nodup) := by
          obtain ⟨q1, q2⟩ := hok.out
          rw [take_snoc_p hx]
          refine ⟨fun r2 h => ?_, ?_⟩
          · rcases List.mem_append.1 h with h | h
            · exact q1 r2 h
            · simp at h; subst h; exact HOK.out
          · rw [List.map_append]
            refine nodup_snoc q2 (fun h => ?_)
            obtain ⟨q, hq, e⟩ := List.mem_map.1 h
            obtain ⟨i, hi⟩ := List.getElem?_of_mem hq
            rw [List.getElem?_take] at hi
            split at hi
            · rename_i hij
              exact hne.out i q hij hi (e.trans HE.out.2.2)
            · cases hi
        have hX2 := HX1.out.keep (w' := w1.drewN n) rfl
        have hB2 := below_drewN HBw.out n
        clear hx hne hjk hok
        go_wp2_with fail
        go_roundw
        case rel => exact ⟨j + 1, by omega, by go_num, hN, hX2, hB2⟩
        case measure => simp [intOf]; omega
end Go.Proofs.Ythoigjkelinjhaa

/- The walk of share (chapter 40). -/
namespace Go.Proofs.Ythoigjkelinjhaa
open Go.RowKit CM
attribute [local go_sem] alloc_drewN setCell_drewN shape_drewN

def shareS (o p : Int) (g : Int × Int) (n : Int) (r : Rt) : Int := if r.id = g.1 ∧ r.owner = o ∧ r.place = p then wrap64 (n + g.2) else n
def shareI (R : List Rt) (o p : Int) (n : Int) (g : Int × Int) : Int := R.foldl (shareS o p g) n
def shareF (R : List Rt) (G : List (Int × Int)) (o p : Int) : Int := G.foldl (shareI R o p) 0
def IntBe (n : Int) (w : World) (e : Ending) (w' : World) : Prop := e = .returned (.int .i64 n) ∧ Below w.heap.size w w'
theorem foldl_snoc {α β : Type} (f : β → α → β) {l : List α} {k : Nat} {x : α} (h : l[k]? = some x) (z : β) : (l.take (k + 1)).foldl f z = f ((l.take k).foldl f z) x := by
  rw [List.take_add_one, h, List.foldl_append]; rfl
set_option maxRecDepth 100000 in
set_option maxHeartbeats 4000000 in
theorem share_any (R : List Rt) (G : List (Int × Int)) (o p : Int) (C : Option Addr) (cr : Nat) (D : Option Addr) (cg : Nat) (w : World) {B : Nat} (hR : RightsAt w B C R) (hG : PairsAt w B D G) (hB : B ≤ w.heap.size) (hr : R.length ≤ 9223372036854775807) (hg : G.length ≤ 9223372036854775807) :
    Calls Try.prog 15 #[.slice C R.length cr, .slice D G.length cg, .int .i64 o, .int .i64 p] w (IntBe (shareF R G o p) w) := by
  have HR := Lib.hid hR
  have HG := Lib.hid hG
  clear hR hG
  go_enter Try.func15, Try.ntmps15
  go_wp2_with fail
  go_loopw [9, 10] (fun nv iv wr => ∃ (k m : Nat) (n : Int), k ≤ G.length ∧ iv = .int .i64 k ∧ nv = .int .i64 n ∧ Hid (n = (G.take k).foldl (shareI R o p) 0) ∧ wr = w.drewN m) (fun _ iv _ => G.length - (intOf iv).toNat)
  case atStart => exact ⟨0, 0, 0, Nat.zero_le _, rfl, rfl, rfl, rfl⟩
  case round =>
    obtain ⟨k, m, n, hk, rfl, rfl, hn, hwr⟩ := hrel
    subst hwr
    by_cases hlt : k < G.length
    case neg =>
      have hF : Hid (n = shareF R G o p) := by
        have q := hn.out
        rw [show k = G.length by omega, List.take_length] at q
        exact q
      go_wp2_with fail
      go_ret
      exact ⟨by rw [← hF.out]; rfl, below_drewN (Below.refl _ _) _⟩
    obtain ⟨g, hx⟩ : ∃ g, G[k]? = some g := ⟨_, List.getElem?_eq_getElem hlt⟩
    have hN1 : Hid ((G.take (k + 1)).foldl (shareI R o p) 0 = shareI R o p n g) := by
      show _ = _
      rw [foldl_snoc _ hx, ← hn.out]
    obtain ⟨b, off, ec, hb, c0, c1⟩ := HG.out.at_ hx
    subst ec
    have hbw : b < w.heap.size := by omega
    have hk0 : 0 ≤ (k : Int) ∧ (k : Int) < (G.length : Int) := by omega
    clear hx hn
    go_wp2_with fail
    go_loopw [9, 11] (fun nv jv wx => ∃ (j m : Nat) (n1 : Int), j ≤ R.length ∧ jv = .int .i64 j ∧ nv = .int .i64 n1 ∧ Hid (n1 = (R.take j).foldl (shareS o p g) n) ∧ wx = w.drewN m) (fun _ jv _ => R.length - (intOf jv).toNat)
    case atStart => exact ⟨0, _, _, Nat.zero_le _, rfl, rfl, rfl, rfl⟩
    case round =>
      obtain ⟨j, m, n1, hj, rfl, rfl, hn, hwr⟩ := hrel
      subst hwr
      by_cases hjl : j < R.length
      case neg =>
        have hF : Hid (n1 = (G.take (k + 1)).foldl (shareI R o p) 0) := by
          show _ = _
          rw [hN1.out]
          have q := hn.out
          rw [show j = R.length by omega, List.take_length] at q
          exact q
        clear hn hN1
        go_wp2_with fail
        go_roundw
        case rel => exact ⟨k + 1, _, n1, by omega, by go_num, rfl, hF, rfl⟩
        case measure => simp [intOf]; omega
      obtain ⟨r, hx⟩ : ∃ r, R[j]? = some r := ⟨_, List.getElem?_eq_getElem hjl⟩
      have hS : Hid ((R.take (j + 1)).foldl (shareS o p g) n = shareS o p g n1 r) := by
        show _ = _
        rw [foldl_snoc _ hx, ← hn.out]
      obtain ⟨b2, off2, ec, hb2, r0, r1, r2, r3, _⟩ := HR.out.at_ hx
      subst ec
      have hbw2 : b2 < w.heap.size := by omega
      have hj0 : 0 ≤ (j : Int) ∧ (j : Int) < (R.length : Int) := by omega
      obtain ⟨ri, hri⟩ : ∃ z, r.id = z := ⟨_, rfl⟩
      obtain ⟨ro, hro⟩ : ∃ z, r.owner = z := ⟨_, rfl⟩
      obtain ⟨rp, hrp⟩ : ∃ z, r.place = z := ⟨_, rfl⟩
      obtain ⟨g1, g2⟩ := g
      dsimp only at c0 c1
      rw [hri] at r0
      rw [hro] at r1
      rw [hrp] at r3
      have hE : Hid (shareS o p (g1, g2) n1 r = if ri = g1 ∧ ro = o ∧ rp = p then wrap64 (n1 + g2) else n1) := by
        show _ = _
        unfold shareS
        rw [hri, hro, hrp]
      clear hx hn hri hro hrp r2
      by_cases e1 : ri = g1
      case neg =>
        have d1 : (ri == g1) = false := by simpa using e1
        have hN : Hid (n1 = (R.take (j + 1)).foldl (shareS o p (g1, g2)) n) := by show _ = _; rw [hS.out, hE.out, if_neg (fun h => e1 h.1)]
        clear e1 hS hE
        go_upto_region 8 with fail
        go_quiet (fail)
        go_wp2_with fail
        go_roundw
        case rel => exact ⟨j + 1, _, n1, by omega, by go_num, rfl, hN, rfl⟩
        case measure => simp [intOf]; omega
      have d1 : (ri == g1) = true := by simpa using e1
      by_cases e2 : ro = o
      case neg =>
        have d2 : (ro == o) = false := by simpa using e2
        have hN : Hid (n1 = (R.take (j + 1)).foldl (shareS o p (g1, g2)) n) := by show _ = _; rw [hS.out, hE.out, if_neg (fun h => e2 h.2.1)]
        clear e1 e2 hS hE
        go_upto_region 8 with fail
        go_quiet (fail)
        go_wp2_with fail
        go_roundw
        case rel => exact ⟨j + 1, _, n1, by omega, by go_num, rfl, hN, rfl⟩
        case measure => simp [intOf]; omega
      have d2 : (ro == o) = true := by simpa using e2
      by_cases e3 : rp = p
      case neg =>
        have d3 : (rp == p) = false := by simpa using e3
        have hN : Hid (n1 = (R.take (j + 1)).foldl (shareS o p (g1, g2)) n) := by show _ = _; rw [hS.out, hE.out, if_neg (fun h => e3 h.2.2)]
        clear e1 e2 e3 hS hE
        go_upto_region 8 with fail
        go_quiet (fail)
        go_wp2_with fail
        go_roundw
        case rel => exact ⟨j + 1, _, n1, by omega, by go_num, rfl, hN, rfl⟩
        case measure => simp [intOf]; omega
      have d3 : (rp == p) = true := by simpa using e3
      have hN : Hid (wrap64 (n1 + g2) = (R.take (j + 1)).foldl (shareS o p (g1, g2)) n) := by show _ = _; rw [hS.out, hE.out, if_pos ⟨e1, e2, e3⟩]
      clear e1 e2 e3 hS hE
      go_upto_region 8 with fail
      go_quiet (fail)
      go_wp2_with fail
      go_roundw
      case rel => exact ⟨j + 1, _, wrap64 (n1 + g2), by omega, by go_num, rfl, hN, rfl⟩
      case measure => simp [intOf]; omega
end Go.Proofs.Ythoigjkelinjhaa

