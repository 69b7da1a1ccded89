/- The walk of RoadFloods: true, whatever the basin. (Printed by gen_lf.py.) -/
import Derived.Deep.Cut
import Derived.Test.YtphebdmdbnpokaaLW
import Derived.Test.YtphebdmdbnpokaaLF0
set_option linter.unusedSimpArgs false
set_option linter.unusedVariables false
namespace Go.Proofs.Ytphebdmdbnpokaa
open Go.RowKit RD FM
attribute [local go_sem] alloc_drewN setCell_drewN shape_drewN
theorem ways_any (X : Bs) (C : Option Addr) (c : Nat) (L : List Vl) (town : Int) (w : World) (hX : BsAt w w.heap.size X) (hV : VlsAt w w.heap.size C L) (hT : X.T.length ≤ 50) (hSl : X.S.length ≤ 50) (hR : X.R.length ≤ 100) (hL : L.length ≤ 1000) (hP : X.l3 ≤ 9223372036854775807) :
    Calls Try.prog 9 #[.agg #[.string X.nm, .slice X.a1 X.l1 X.c1, .int .i64 X.cl, .slice X.a3 X.l3 X.c3, .slice X.a4 X.l4 X.c4, .slice X.a5 X.T.length X.c5, .slice X.a6 X.l6 X.c6, .slice X.a7 X.R.length X.c7, .slice X.a8 X.S.length X.c8, .slice X.a9 X.l9 X.c9, .int .i64 X.er], .int .i64 town, .slice C L.length c] w (WaysIs X L town w) := by
  by_cases h : town < 0 ∨ (X.T.length : Int) ≤ town
  · exact ways_no X C c L town w hT h
  · obtain ⟨k, rfl⟩ := Int.eq_ofNat_of_zero_le (show 0 ≤ town by omega)
    exact ways_yes X C c L k w hX hV hT hSl hR hL hP (by omega)
/-- The first t lists are nowhere higher. -/
def LowTo (L M : List Vl) (t : Nat) : Prop := ∀ s x y, s < t → L[s]? = some x → M[s]? = some y → x.l.length = y.l.length ∧ ∀ p, p < x.l.length → x.l.getD p 0 ≤ y.l.getD p 0
theorem LowTo.all {L M : List Vl} (hlen : L.length = M.length) (h : LowTo L M L.length) : Lower (vsOf L) (vsOf M) := by
  refine ⟨by rw [vsOf_len, vsOf_len, hlen], fun t ht => ?_⟩
  rw [vsOf_len] at ht
  have h1 : L[t]? = some L[t] := List.getElem?_eq_getElem ht
  have h2 : M[t]? = some (M[t]'(by omega)) := List.getElem?_eq_getElem _
  obtain ⟨e, g⟩ := h t _ _ ht h1 h2
  rw [vsOf_at h1, vsOf_at h2]
  refine ⟨e, fun p => ?_⟩
  by_cases hp : p < L[t].l.length
  · exact g p hp
  · rw [List.getD_eq_getElem?_getD, List.getD_eq_getElem?_getD, List.getElem?_eq_none (by omega), List.getElem?_eq_none (by omega)]; exact Int.le_refl _
theorem LowTo.next {L M : List Vl} {t : Nat} {x y : Vl} (h : LowTo L M t) (h1 : L[t]? = some x) (h2 : M[t]? = some y) (e : x.l.length = y.l.length) (g : ∀ p, p < x.l.length → x.l.getD p 0 ≤ y.l.getD p 0) : LowTo L M (t + 1) := fun s x' y' hs k1 k2 => by
  by_cases q : s = t
  · subst q
    rw [h1] at k1; rw [h2] at k2
    obtain rfl := Option.some.inj k1
    obtain rfl := Option.some.inj k2
    exact ⟨e, g⟩
  · exact h s x' y' (by omega) k1 k2
set_option maxRecDepth 100000 in
set_option maxHeartbeats 16000000 in
theorem floods_l1 (X : Bs) (C : Option Addr) (c : Nat) (L : List Vl) (E : Option Addr) (d : Nat) (M : List Vl) (town hours : Int) (w : World) (hX : BsAt w w.heap.size X) (hV : VlsAt w w.heap.size C L) (hU : VlsAt w w.heap.size E M) (hL : L.length ≤ 9223372036854775807) (hM : M.length ≤ 9223372036854775807) (hRl : X.R.length ≤ 9223372036854775807) (hP : X.l3 ≤ 9223372036854775807) (hf : fewB X L.length = false) :
    Calls Try.prog 5 #[.agg #[.string X.nm, .slice X.a1 X.l1 X.c1, .int .i64 X.cl, .slice X.a3 X.l3 X.c3, .slice X.a4 X.l4 X.c4, .slice X.a5 X.T.length X.c5, .slice X.a6 X.l6 X.c6, .slice X.a7 X.R.length X.c7, .slice X.a8 X.S.length X.c8, .slice X.a9 X.l9 X.c9, .int .i64 X.er], .int .i64 town, .slice C L.length c, .slice E M.length d, .int .i64 hours] w (TrueIs w) := by
  have hB0 : Below w.heap.size w (w.alloc (.cells #[.string X.nm, .slice X.a1 X.l1 X.c1, .int .i64 X.cl, .slice X.a3 X.l3 X.c3, .slice X.a4 X.l4 X.c4, .slice X.a5 X.T.length X.c5, .slice X.a6 X.l6 X.c6, .slice X.a7 X.R.length X.c7, .slice X.a8 X.S.length X.c8, .slice X.a9 X.l9 X.c9, .int .i64 X.er] 31)) := (Below.refl _ _).alloc (Nat.le_refl _) _
  have hX0 : Box (w.alloc (.cells #[.string X.nm, .slice X.a1 X.l1 X.c1, .int .i64 X.cl, .slice X.a3 X.l3 X.c3, .slice X.a4 X.l4 X.c4, .slice X.a5 X.T.length X.c5, .slice X.a6 X.l6 X.c6, .slice X.a7 X.R.length X.c7, .slice X.a8 X.S.length X.c8, .slice X.a9 X.l9 X.c9, .int .i64 X.er] 31)) w.heap.size #[.string X.nm, .slice X.a1 X.l1 X.c1, .int .i64 X.cl, .slice X.a3 X.l3 X.c3, .slice X.a4 X.l4 X.c4, .slice X.a5 X.T.length X.c5, .slice X.a6 X.l6 X.c6, .slice X.a7 X.R.length X.c7, .slice X.a8 X.S.length X.c8, .slice X.a9 X.l9 X.c9, .int .i64 X.er] 31 := Box.new w _ _
  have KF : Hid (∀ wx, Calls Try.prog 8 #[.agg #[.string X.nm, .slice X.a1 X.l1 X.c1, .int .i64 X.cl, .slice X.a3 X.l3 X.c3, .slice X.a4 X.l4 X.c4, .slice X.a5 X.T.length X.c5, .slice X.a6 X.l6 X.c6, .slice X.a7 X.R.length X.c7, .slice X.a8 X.S.length X.c8, .slice X.a9 X.l9 X.c9, .int .i64 X.er], .slice C L.length c] wx (fun e w' => e = .returned (.bool false) ∧ Below wx.heap.size wx w')) := fun wx => (few_any X C L.length c wx hL).mono fun e w' ⟨he, hb⟩ => ⟨by rw [he, hf], hb⟩
  clear hX hV hU hf
  go_enter Try.func5, Try.ntmps5
  go_wp2_with fail
  generalize (w.alloc (.cells #[.string X.nm, .slice X.a1 X.l1 X.c1, .int .i64 X.cl, .slice X.a3 X.l3 X.c3, .slice X.a4 X.l4 X.c4, .slice X.a5 X.T.length X.c5, .slice X.a6 X.l6 X.c6, .slice X.a7 X.R.length X.c7, .slice X.a8 X.S.length X.c8, .slice X.a9 X.l9 X.c9, .int .i64 X.er] 31)) = w0 at hX0 hB0 ⊢
  go_at_call 7
  (with_reducible refine (small_any w0).mono ?_)
  rintro e1 w1 ⟨rfl, hb1⟩
  have hX1 := hX0.below hb1 (by have := hX0.lt; omega)
  have hB1 := go3 hB0 hb1
  obtain ⟨x0, x1, x2, x3, x4, x5, x6, x7, x8, x9, x10⟩ := hX1.bas
  go_wp2_with fail
  clear x0 x1 x2 x3 x4 x5 x6 x7 x8 x9 x10
  go_at_call 8
  (with_reducible refine (KF.out w1).mono ?_)
  rintro e2 w2 ⟨rfl, hb2⟩
  have hX2 := hX1.below hb2 (by have := hX1.lt; omega)
  have hB2 := go3 hB1 hb2
  obtain ⟨x0, x1, x2, x3, x4, x5, x6, x7, x8, x9, x10⟩ := hX2.bas
  go_wp2_with fail
  clear x0 x1 x2 x3 x4 x5 x6 x7 x8 x9 x10
  go_ret
  exact ⟨rfl, hB2⟩
set_option maxRecDepth 100000 in
set_option maxHeartbeats 16000000 in
theorem floods_l2 (X : Bs) (C : Option Addr) (c : Nat) (L : List Vl) (E : Option Addr) (d : Nat) (M : List Vl) (town hours : Int) (w : World) (hX : BsAt w w.heap.size X) (hV : VlsAt w w.heap.size C L) (hU : VlsAt w w.heap.size E M) (hL : L.length ≤ 9223372036854775807) (hM : M.length ≤ 9223372036854775807) (hRl : X.R.length ≤ 9223372036854775807) (hP : X.l3 ≤ 9223372036854775807) (hf : fewB X L.length = true) (hne : L.length ≠ M.length) :
    Calls Try.prog 5 #[.agg #[.string X.nm, .slice X.a1 X.l1 X.c1, .int .i64 X.cl, .slice X.a3 X.l3 X.c3, .slice X.a4 X.l4 X.c4, .slice X.a5 X.T.length X.c5, .slice X.a6 X.l6 X.c6, .slice X.a7 X.R.length X.c7, .slice X.a8 X.S.length X.c8, .slice X.a9 X.l9 X.c9, .int .i64 X.er], .int .i64 town, .slice C L.length c, .slice E M.length d, .int .i64 hours] w (TrueIs w) := by
  have hB0 : Below w.heap.size w (w.alloc (.cells #[.string X.nm, .slice X.a1 X.l1 X.c1, .int .i64 X.cl, .slice X.a3 X.l3 X.c3, .slice X.a4 X.l4 X.c4, .slice X.a5 X.T.length X.c5, .slice X.a6 X.l6 X.c6, .slice X.a7 X.R.length X.c7, .slice X.a8 X.S.length X.c8, .slice X.a9 X.l9 X.c9, .int .i64 X.er] 31)) := (Below.refl _ _).alloc (Nat.le_refl _) _
  have hX0 : Box (w.alloc (.cells #[.string X.nm, .slice X.a1 X.l1 X.c1, .int .i64 X.cl, .slice X.a3 X.l3 X.c3, .slice X.a4 X.l4 X.c4, .slice X.a5 X.T.length X.c5, .slice X.a6 X.l6 X.c6, .slice X.a7 X.R.length X.c7, .slice X.a8 X.S.length X.c8, .slice X.a9 X.l9 X.c9, .int .i64 X.er] 31)) w.heap.size #[.string X.nm, .slice X.a1 X.l1 X.c1, .int .i64 X.cl, .slice X.a3 X.l3 X.c3, .slice X.a4 X.l4 X.c4, .slice X.a5 X.T.length X.c5, .slice X.a6 X.l6 X.c6, .slice X.a7 X.R.length X.c7, .slice X.a8 X.S.length X.c8, .slice X.a9 X.l9 X.c9, .int .i64 X.er] 31 := Box.new w _ _
  have KF : Hid (∀ wx, Calls Try.prog 8 #[.agg #[.string X.nm, .slice X.a1 X.l1 X.c1, .int .i64 X.cl, .slice X.a3 X.l3 X.c3, .slice X.a4 X.l4 X.c4, .slice X.a5 X.T.length X.c5, .slice X.a6 X.l6 X.c6, .slice X.a7 X.R.length X.c7, .slice X.a8 X.S.length X.c8, .slice X.a9 X.l9 X.c9, .int .i64 X.er], .slice C L.length c] wx (fun e w' => e = .returned (.bool true) ∧ Below wx.heap.size wx w')) := fun wx => (few_any X C L.length c wx hL).mono fun e w' ⟨he, hb⟩ => ⟨by rw [he, hf], hb⟩
  have hne2 : ¬ ((L.length : Int) = (M.length : Int)) := by omega
  have hne3 : (L.length == M.length) = false := by simpa using hne
  have hne4 : (L.length != M.length) = true := by simpa using hne
  clear hX hV hU hf
  go_enter Try.func5, Try.ntmps5
  go_wp2_with fail
  generalize (w.alloc (.cells #[.string X.nm, .slice X.a1 X.l1 X.c1, .int .i64 X.cl, .slice X.a3 X.l3 X.c3, .slice X.a4 X.l4 X.c4, .slice X.a5 X.T.length X.c5, .slice X.a6 X.l6 X.c6, .slice X.a7 X.R.length X.c7, .slice X.a8 X.S.length X.c8, .slice X.a9 X.l9 X.c9, .int .i64 X.er] 31)) = w0 at hX0 hB0 ⊢
  go_at_call 7
  (with_reducible refine (small_any w0).mono ?_)
  rintro e1 w1 ⟨rfl, hb1⟩
  have hX1 := hX0.below hb1 (by have := hX0.lt; omega)
  have hB1 := go3 hB0 hb1
  obtain ⟨x0, x1, x2, x3, x4, x5, x6, x7, x8, x9, x10⟩ := hX1.bas
  go_wp2_with fail
  clear x0 x1 x2 x3 x4 x5 x6 x7 x8 x9 x10
  go_at_call 8
  (with_reducible refine (KF.out w1).mono ?_)
  rintro e2 w2 ⟨rfl, hb2⟩
  have hX2 := hX1.below hb2 (by have := hX1.lt; omega)
  have hB2 := go3 hB1 hb2
  obtain ⟨x0, x1, x2, x3, x4, x5, x6, x7, x8, x9, x10⟩ := hX2.bas
  go_wp2_with fail
  clear x0 x1 x2 x3 x4 x5 x6 x7 x8 x9 x10
  go_ret
  exact ⟨rfl, hB2⟩
set_option maxRecDepth 100000 in
set_option maxHeartbeats 16000000 in
theorem floods_l3 (X : Bs) (C : Option Addr) (c : Nat) (L : List Vl) (E : Option Addr) (d : Nat) (M : List Vl) (town hours : Int) (w : World) (hX : BsAt w w.heap.size X) (hV : VlsAt w w.heap.size C L) (hU : VlsAt w w.heap.size E M) (hL : L.length ≤ 9223372036854775807) (hM : M.length ≤ 9223372036854775807) (hRl : X.R.length ≤ 9223372036854775807) (hP : X.l3 ≤ 9223372036854775807) (hf : fewB X L.length = true) (heq : L.length = M.length) (h0 : L.length = 0) :
    Calls Try.prog 5 #[.agg #[.string X.nm, .slice X.a1 X.l1 X.c1, .int .i64 X.cl, .slice X.a3 X.l3 X.c3, .slice X.a4 X.l4 X.c4, .slice X.a5 X.T.length X.c5, .slice X.a6 X.l6 X.c6, .slice X.a7 X.R.length X.c7, .slice X.a8 X.S.length X.c8, .slice X.a9 X.l9 X.c9, .int .i64 X.er], .int .i64 town, .slice C L.length c, .slice E M.length d, .int .i64 hours] w (TrueIs w) := by
  have hB0 : Below w.heap.size w (w.alloc (.cells #[.string X.nm, .slice X.a1 X.l1 X.c1, .int .i64 X.cl, .slice X.a3 X.l3 X.c3, .slice X.a4 X.l4 X.c4, .slice X.a5 X.T.length X.c5, .slice X.a6 X.l6 X.c6, .slice X.a7 X.R.length X.c7, .slice X.a8 X.S.length X.c8, .slice X.a9 X.l9 X.c9, .int .i64 X.er] 31)) := (Below.refl _ _).alloc (Nat.le_refl _) _
  have hX0 : Box (w.alloc (.cells #[.string X.nm, .slice X.a1 X.l1 X.c1, .int .i64 X.cl, .slice X.a3 X.l3 X.c3, .slice X.a4 X.l4 X.c4, .slice X.a5 X.T.length X.c5, .slice X.a6 X.l6 X.c6, .slice X.a7 X.R.length X.c7, .slice X.a8 X.S.length X.c8, .slice X.a9 X.l9 X.c9, .int .i64 X.er] 31)) w.heap.size #[.string X.nm, .slice X.a1 X.l1 X.c1, .int .i64 X.cl, .slice X.a3 X.l3 X.c3, .slice X.a4 X.l4 X.c4, .slice X.a5 X.T.length X.c5, .slice X.a6 X.l6 X.c6, .slice X.a7 X.R.length X.c7, .slice X.a8 X.S.length X.c8, .slice X.a9 X.l9 X.c9, .int .i64 X.er] 31 := Box.new w _ _
  have KF : Hid (∀ wx, Calls Try.prog 8 #[.agg #[.string X.nm, .slice X.a1 X.l1 X.c1, .int .i64 X.cl, .slice X.a3 X.l3 X.c3, .slice X.a4 X.l4 X.c4, .slice X.a5 X.T.length X.c5, .slice X.a6 X.l6 X.c6, .slice X.a7 X.R.length X.c7, .slice X.a8 X.S.length X.c8, .slice X.a9 X.l9 X.c9, .int .i64 X.er], .slice C L.length c] wx (fun e w' => e = .returned (.bool true) ∧ Below wx.heap.size wx w')) := fun wx => (few_any X C L.length c wx hL).mono fun e w' ⟨he, hb⟩ => ⟨by rw [he, hf], hb⟩
  rw [h0] at KF
  rw [show M.length = 0 by omega, h0]
  clear hX hV hU hf heq h0
  go_enter Try.func5, Try.ntmps5
  go_wp2_with fail
  generalize (w.alloc (.cells #[.string X.nm, .slice X.a1 X.l1 X.c1, .int .i64 X.cl, .slice X.a3 X.l3 X.c3, .slice X.a4 X.l4 X.c4, .slice X.a5 X.T.length X.c5, .slice X.a6 X.l6 X.c6, .slice X.a7 X.R.length X.c7, .slice X.a8 X.S.length X.c8, .slice X.a9 X.l9 X.c9, .int .i64 X.er] 31)) = w0 at hX0 hB0 ⊢
  go_at_call 7
  (with_reducible refine (small_any w0).mono ?_)
  rintro e1 w1 ⟨rfl, hb1⟩
  have hX1 := hX0.below hb1 (by have := hX0.lt; omega)
  have hB1 := go3 hB0 hb1
  obtain ⟨x0, x1, x2, x3, x4, x5, x6, x7, x8, x9, x10⟩ := hX1.bas
  go_wp2_with fail
  clear x0 x1 x2 x3 x4 x5 x6 x7 x8 x9 x10
  go_at_call 8
  (with_reducible refine (KF.out w1).mono ?_)
  rintro e2 w2 ⟨rfl, hb2⟩
  have hX2 := hX1.below hb2 (by have := hX1.lt; omega)
  have hB2 := go3 hB1 hb2
  obtain ⟨x0, x1, x2, x3, x4, x5, x6, x7, x8, x9, x10⟩ := hX2.bas
  go_wp2_with fail
  clear x0 x1 x2 x3 x4 x5 x6 x7 x8 x9 x10
  go_ret
  exact ⟨rfl, hB2⟩
set_option maxRecDepth 100000 in
set_option maxHeartbeats 16000000 in
theorem floods_l4 (X : Bs) (C : Option Addr) (c : Nat) (L : List Vl) (E : Option Addr) (d : Nat) (M : List Vl) (town hours : Int) (w : World) (hX : BsAt w w.heap.size X) (hV : VlsAt w w.heap.size C L) (hU : VlsAt w w.heap.size E M) (hL : L.length ≤ 9223372036854775807) (hM : M.length ≤ 9223372036854775807) (hRl : X.R.length ≤ 9223372036854775807) (hP : X.l3 ≤ 9223372036854775807) (hf : fewB X L.length = true) (heq : L.length = M.length) (h0 : 0 < L.length) :
    Calls Try.prog 5 #[.agg #[.string X.nm, .slice X.a1 X.l1 X.c1, .int .i64 X.cl, .slice X.a3 X.l3 X.c3, .slice X.a4 X.l4 X.c4, .slice X.a5 X.T.length X.c5, .slice X.a6 X.l6 X.c6, .slice X.a7 X.R.length X.c7, .slice X.a8 X.S.length X.c8, .slice X.a9 X.l9 X.c9, .int .i64 X.er], .int .i64 town, .slice C L.length c, .slice E M.length d, .int .i64 hours] w (TrueIs w) := by
  have hB0 : Below w.heap.size w (w.alloc (.cells #[.string X.nm, .slice X.a1 X.l1 X.c1, .int .i64 X.cl, .slice X.a3 X.l3 X.c3, .slice X.a4 X.l4 X.c4, .slice X.a5 X.T.length X.c5, .slice X.a6 X.l6 X.c6, .slice X.a7 X.R.length X.c7, .slice X.a8 X.S.length X.c8, .slice X.a9 X.l9 X.c9, .int .i64 X.er] 31)) := (Below.refl _ _).alloc (Nat.le_refl _) _
  have hX0 : Box (w.alloc (.cells #[.string X.nm, .slice X.a1 X.l1 X.c1, .int .i64 X.cl, .slice X.a3 X.l3 X.c3, .slice X.a4 X.l4 X.c4, .slice X.a5 X.T.length X.c5, .slice X.a6 X.l6 X.c6, .slice X.a7 X.R.length X.c7, .slice X.a8 X.S.length X.c8, .slice X.a9 X.l9 X.c9, .int .i64 X.er] 31)) w.heap.size #[.string X.nm, .slice X.a1 X.l1 X.c1, .int .i64 X.cl, .slice X.a3 X.l3 X.c3, .slice X.a4 X.l4 X.c4, .slice X.a5 X.T.length X.c5, .slice X.a6 X.l6 X.c6, .slice X.a7 X.R.length X.c7, .slice X.a8 X.S.length X.c8, .slice X.a9 X.l9 X.c9, .int .i64 X.er] 31 := Box.new w _ _
  obtain ⟨f1, f2, f3, f4⟩ := few_is hf
  have KF : Hid (∀ wx, Calls Try.prog 8 #[.agg #[.string X.nm, .slice X.a1 X.l1 X.c1, .int .i64 X.cl, .slice X.a3 X.l3 X.c3, .slice X.a4 X.l4 X.c4, .slice X.a5 X.T.length X.c5, .slice X.a6 X.l6 X.c6, .slice X.a7 X.R.length X.c7, .slice X.a8 X.S.length X.c8, .slice X.a9 X.l9 X.c9, .int .i64 X.er], .slice C L.length c] wx (fun e w' => e = .returned (.bool true) ∧ Below wx.heap.size wx w')) := fun wx => (few_any X C L.length c wx hL).mono fun e w' ⟨he, hb⟩ => ⟨by rw [he, hf], hb⟩
  have hbl : BsLen X := ⟨by omega, by omega, by omega, hP⟩
  have hNn : X.T.length ≤ X.N := by unfold Bs.N; omega
  have hN10 : X.N ≤ 10 := by unfold Bs.N; omega
  obtain ⟨xl, hxl⟩ : ∃ x, L[0]? = some x := ⟨_, List.getElem?_eq_getElem h0⟩
  obtain ⟨xm, hxm⟩ : ∃ x, M[0]? = some x := ⟨_, List.getElem?_eq_getElem (by omega)⟩
  obtain ⟨bC, oC, eC, hbC, cL0, iL0, nL0⟩ := vl_at hV hxl
  obtain ⟨bE, oE, eE, hbE, cM0, iM0, nM0⟩ := vl_at hU hxm
  subst eC eE
  rw [Nat.add_zero] at cL0 cM0
  have HL : Hid (∀ wx, Below w.heap.size w wx → ∀ k x, L[k]? = some x → wx.cell? ⟨bC, oC + k, none⟩ = some (.slice x.a x.l.length x.c) ∧ IntsAt wx w.heap.size x.a x.l ∧ x.l.length ≤ 9223372036854775807) := fun wx hb k x hk => by
    obtain ⟨b', o', e', _, g1, g2, g3⟩ := vl_at (hV.below hb) hk
    simp at e'
    obtain ⟨rfl, rfl⟩ := e'
    exact ⟨g1, g2, g3⟩
  have HM : Hid (∀ wx, Below w.heap.size w wx → ∀ k x, M[k]? = some x → wx.cell? ⟨bE, oE + k, none⟩ = some (.slice x.a x.l.length x.c) ∧ IntsAt wx w.heap.size x.a x.l ∧ x.l.length ≤ 9223372036854775807) := fun wx hb k x hk => by
    obtain ⟨b', o', e', _, g1, g2, g3⟩ := vl_at (hU.below hb) hk
    simp at e'
    obtain ⟨rfl, rfl⟩ := e'
    exact ⟨g1, g2, g3⟩
  have gl0 : (vsOf L).getD 0 [] = xl.l := vsOf_at hxl
  have gm0 : (vsOf M).getD 0 [] = xm.l := vsOf_at hxm
  have KW : Hid (∀ wx, Below w.heap.size w wx → Calls Try.prog 9 #[.agg #[.string X.nm, .slice X.a1 X.l1 X.c1, .int .i64 X.cl, .slice X.a3 X.l3 X.c3, .slice X.a4 X.l4 X.c4, .slice X.a5 X.T.length X.c5, .slice X.a6 X.l6 X.c6, .slice X.a7 X.R.length X.c7, .slice X.a8 X.S.length X.c8, .slice X.a9 X.l9 X.c9, .int .i64 X.er], .int .i64 town, .slice (some ⟨bC, oC, none⟩) L.length c] wx (WaysIs X L town wx)) := fun wx h => ways_any X _ c L town wx (hX.up h) (hV.up h) (by omega) (by omega) (by omega) (by omega) hP
  have KW2 : Hid (∀ wx, Below w.heap.size w wx → Calls Try.prog 9 #[.agg #[.string X.nm, .slice X.a1 X.l1 X.c1, .int .i64 X.cl, .slice X.a3 X.l3 X.c3, .slice X.a4 X.l4 X.c4, .slice X.a5 X.T.length X.c5, .slice X.a6 X.l6 X.c6, .slice X.a7 X.R.length X.c7, .slice X.a8 X.S.length X.c8, .slice X.a9 X.l9 X.c9, .int .i64 X.er], .int .i64 town, .slice (some ⟨bE, oE, none⟩) M.length d] wx (WaysIs X M town wx)) := fun wx h => ways_any X _ d M town wx (hX.up h) (hU.up h) (by omega) (by omega) (by omega) (by omega) hP
  have KT : Hid (∀ F e' n m wx, Below w.heap.size w wx → IntsAt wx wx.heap.size F m → m.length ≤ 100 → m.length = n → Calls Try.prog 16 #[.agg #[.string X.nm, .slice X.a1 X.l1 X.c1, .int .i64 X.cl, .slice X.a3 X.l3 X.c3, .slice X.a4 X.l4 X.c4, .slice X.a5 X.T.length X.c5, .slice X.a6 X.l6 X.c6, .slice X.a7 X.R.length X.c7, .slice X.a8 X.S.length X.c8, .slice X.a9 X.l9 X.c9, .int .i64 X.er], .int .i64 town, .slice (some ⟨bC, oC, none⟩) L.length c, .slice F n e'] wx (TravIs X L town m wx)) := fun F e' n m wx h hI h1 h2 => travelled_len X _ c L town F e' n m wx (hX.up h) (hV.up h) hI hbl (by omega) h1 h2
  have KT2 : Hid (∀ F e' n m wx, Below w.heap.size w wx → IntsAt wx wx.heap.size F m → m.length ≤ 100 → m.length = n → Calls Try.prog 16 #[.agg #[.string X.nm, .slice X.a1 X.l1 X.c1, .int .i64 X.cl, .slice X.a3 X.l3 X.c3, .slice X.a4 X.l4 X.c4, .slice X.a5 X.T.length X.c5, .slice X.a6 X.l6 X.c6, .slice X.a7 X.R.length X.c7, .slice X.a8 X.S.length X.c8, .slice X.a9 X.l9 X.c9, .int .i64 X.er], .int .i64 town, .slice (some ⟨bE, oE, none⟩) M.length d, .slice F n e'] wx (TravIs X M town m wx)) := fun F e' n m wx h hI h1 h2 => travelled_len X _ d M town F e' n m wx (hX.up h) (hU.up h) hI hbl (by omega) h1 h2
  have KO : Hid (∀ k wx, k < X.R.length → Below w.heap.size w wx → Calls Try.prog 14 #[.agg #[.string X.nm, .slice X.a1 X.l1 X.c1, .int .i64 X.cl, .slice X.a3 X.l3 X.c3, .slice X.a4 X.l4 X.c4, .slice X.a5 X.T.length X.c5, .slice X.a6 X.l6 X.c6, .slice X.a7 X.R.length X.c7, .slice X.a8 X.S.length X.c8, .slice X.a9 X.l9 X.c9, .int .i64 X.er], .int .i64 (k : Nat), .slice xl.a xl.l.length xl.c] wx (OpenIs X (k : Nat) xl.l wx)) := fun k wx hk h => open_any X k _ _ xl.l wx (hX.up h).r (ints_up iL0 h) nL0 hbl
  have KO2 : Hid (∀ k wx, k < X.R.length → Below w.heap.size w wx → Calls Try.prog 14 #[.agg #[.string X.nm, .slice X.a1 X.l1 X.c1, .int .i64 X.cl, .slice X.a3 X.l3 X.c3, .slice X.a4 X.l4 X.c4, .slice X.a5 X.T.length X.c5, .slice X.a6 X.l6 X.c6, .slice X.a7 X.R.length X.c7, .slice X.a8 X.S.length X.c8, .slice X.a9 X.l9 X.c9, .int .i64 X.er], .int .i64 (k : Nat), .slice xm.a xm.l.length xm.c] wx (OpenIs X (k : Nat) xm.l wx)) := fun k wx hk h => open_any X k _ _ xm.l wx (hX.up h).r (ints_up iM0 h) nM0 hbl
  have KR : Hid (∀ wx, Below w.heap.size w wx → Calls Try.prog 11 #[.agg #[.string X.nm, .slice X.a1 X.l1 X.c1, .int .i64 X.cl, .slice X.a3 X.l3 X.c3, .slice X.a4 X.l4 X.c4, .slice X.a5 X.T.length X.c5, .slice X.a6 X.l6 X.c6, .slice X.a7 X.R.length X.c7, .slice X.a8 X.S.length X.c8, .slice X.a9 X.l9 X.c9, .int .i64 X.er], .slice xl.a xl.l.length xl.c, .int .i64 hours] wx (RoomIs X xl.l hours wx)) := fun wx h => room_any X _ _ xl.l hours wx (hX.up h) (ints_up iL0 h) nL0 (by omega) (by omega) (by omega) hP
  have KR2 : Hid (∀ wx, Below w.heap.size w wx → Calls Try.prog 11 #[.agg #[.string X.nm, .slice X.a1 X.l1 X.c1, .int .i64 X.cl, .slice X.a3 X.l3 X.c3, .slice X.a4 X.l4 X.c4, .slice X.a5 X.T.length X.c5, .slice X.a6 X.l6 X.c6, .slice X.a7 X.R.length X.c7, .slice X.a8 X.S.length X.c8, .slice X.a9 X.l9 X.c9, .int .i64 X.er], .slice xm.a xm.l.length xm.c, .int .i64 hours] wx (RoomIs X xm.l hours wx)) := fun wx h => room_any X _ _ xm.l hours wx (hX.up h) (ints_up iM0 h) nM0 (by omega) (by omega) (by omega) hP
  have Hgl0 := Lib.hid gl0
  have Hgm0 := Lib.hid gm0
  have Hxl := Lib.hid hxl
  have Hxm := Lib.hid hxm
  have Heq := Lib.hid heq
  have HNn := Lib.hid hNn
  have HN10 := Lib.hid hN10
  have Hf3 := Lib.hid f3
  have HRb : X.R.length ≤ 14 := f3
  have heqI : (L.length : Int) = (M.length : Int) := by omega
  obtain ⟨q, hq⟩ : ∃ q, L.length = q := ⟨_, rfl⟩
  have hqM : M.length = q := by omega
  have hq0 : 0 < q := by omega
  have hq12 : q ≤ 12 := by omega
  rw [hq] at KF KW KT
  rw [hqM] at KW2 KT2
  rw [hq, hqM]
  have qd1 : decide ((q : Int) = 0) = false := decide_eq_false (by omega)
  have qd2 : ((q : Int) == 0) = false := by rw [beq_eq_false_iff_ne]; omega
  have qd3 : decide (q = 0) = false := decide_eq_false (by omega)
  have qd4 : (q == 0) = false := by rw [beq_eq_false_iff_ne]; omega
  have qd5 : ¬ q = 0 := by omega
  have Hq := Lib.hid hq
  have HqM := Lib.hid hqM
  clear hX hV hU hf hL hM hRl hP f1 f2 f3 f4 hbl hNn hN10 hxl hxm heq heqI gl0 gm0 cL0 cM0 iL0 iM0 hq hqM h0 nL0 nM0
  go_enter Try.func5, Try.ntmps5
  go_wp2_with fail
  generalize (w.alloc (.cells #[.string X.nm, .slice X.a1 X.l1 X.c1, .int .i64 X.cl, .slice X.a3 X.l3 X.c3, .slice X.a4 X.l4 X.c4, .slice X.a5 X.T.length X.c5, .slice X.a6 X.l6 X.c6, .slice X.a7 X.R.length X.c7, .slice X.a8 X.S.length X.c8, .slice X.a9 X.l9 X.c9, .int .i64 X.er] 31)) = w0 at hX0 hB0 ⊢
  go_at_call 7
  (with_reducible refine (small_any w0).mono ?_)
  rintro e1 w1 ⟨rfl, hb1⟩
  have hX1 := hX0.below hb1 (by have := hX0.lt; omega)
  have hB1 := go3 hB0 hb1
  obtain ⟨x0, x1, x2, x3, x4, x5, x6, x7, x8, x9, x10⟩ := hX1.bas
  go_wp2_with fail
  clear x0 x1 x2 x3 x4 x5 x6 x7 x8 x9 x10
  go_at_call 8
  (with_reducible refine (KF.out w1).mono ?_)
  rintro e2 w2 ⟨rfl, hb2⟩
  have hX2 := hX1.below hb2 (by have := hX1.lt; omega)
  have hB2 := go3 hB1 hb2
  obtain ⟨x0, x1, x2, x3, x4, x5, x6, x7, x8, x9, x10⟩ := hX2.bas
  go_wp2_with fail
  clear x0 x1 x2 x3 x4 x5 x6 x7 x8 x9 x10
  clear KF
  go_loopw [12] (fun tv wr => ∃ t : Nat, t ≤ q ∧ tv = .int .i64 t ∧ LowTo L M t ∧ Box wr w.heap.size #[.string X.nm, .slice X.a1 X.l1 X.c1, .int .i64 X.cl, .slice X.a3 X.l3 X.c3, .slice X.a4 X.l4 X.c4, .slice X.a5 X.T.length X.c5, .slice X.a6 X.l6 X.c6, .slice X.a7 X.R.length X.c7, .slice X.a8 X.S.length X.c8, .slice X.a9 X.l9 X.c9, .int .i64 X.er] 31 ∧ Below w.heap.size w wr) (fun tv _ => q - (intOf tv).toNat)
  case atStart => exact ⟨0, Nat.zero_le _, rfl, fun s x y hs => by omega, hX2, hB2⟩
  case round =>
    clear hX0 hX1 hX2 hB0 hB1 hB2 hb1 hb2
    obtain ⟨t, ht, rfl, hLow, hBx, hBw⟩ := hrel
    have hwz := hBx.lt
    have HLow := Lib.hid hLow
    clear hLow
    by_cases htl : t < q
    · obtain ⟨x, hx⟩ : ∃ x, L[t]? = some x := ⟨_, List.getElem?_eq_getElem (by have := Hq.out; omega)⟩
      obtain ⟨y, hy⟩ : ∃ x, M[t]? = some x := ⟨_, List.getElem?_eq_getElem (by have := HqM.out; omega)⟩
      obtain ⟨c0, i0, n0⟩ := HL.out wr hBw t x hx
      obtain ⟨d0, j0, m0⟩ := HM.out wr hBw t y hy
      have Hx := Lib.hid hx
      have Hy := Lib.hid hy
      have HI := Lib.hid i0
      have HJ := Lib.hid j0
      have HBx := Lib.hid hBx
      clear hx hy i0 j0 hBx
      by_cases hne : x.l.length = y.l.length
      · have n1 : (x.l.length : Int) = (y.l.length : Int) := by omega
        have n2 : (x.l.length != y.l.length) = false := by simpa using hne
        obtain ⟨z, hz⟩ : ∃ z, x.l.length = z := ⟨_, rfl⟩
        have hz2 : y.l.length = z := by omega
        rw [hz] at c0 n0
        rw [hz2] at d0 m0
        have Hz := Lib.hid hz
        have Hz2 := Lib.hid hz2
        clear hne n1 n2 hz hz2
        go_wp2_with fail
        go_quiet (fail)
        go_wp2_with fail
        clear c0 d0
        go_loopw [13] (fun pv wr => ∃ p : Nat, p ≤ z ∧ pv = .int .i64 p ∧ (∀ s, s < p → x.l.getD s 0 ≤ y.l.getD s 0) ∧ Box wr w.heap.size #[.string X.nm, .slice X.a1 X.l1 X.c1, .int .i64 X.cl, .slice X.a3 X.l3 X.c3, .slice X.a4 X.l4 X.c4, .slice X.a5 X.T.length X.c5, .slice X.a6 X.l6 X.c6, .slice X.a7 X.R.length X.c7, .slice X.a8 X.S.length X.c8, .slice X.a9 X.l9 X.c9, .int .i64 X.er] 31 ∧ Below w.heap.size w wr) (fun pv _ => z - (intOf pv).toNat)
        case atStart => exact ⟨0, Nat.zero_le _, rfl, fun s hs => by omega, by first | exact HBx.out.below (below_drewN (Below.refl wr.heap.size wr) _) hwz | exact HBx.out.below ((Below.refl wr.heap.size wr).drew) hwz, by first | exact below_drewN hBw _ | exact hBw.drew⟩
        case round =>
          clear HI HJ hBw HBx hwz
          obtain ⟨p, hp, rfl, hpl, hBx, hBw⟩ := hrel
          have hwz := hBx.lt
          have Hpl := Lib.hid hpl
          clear hpl
          obtain ⟨c0, i0, _⟩ := HL.out wr hBw t x Hx.out
          obtain ⟨d0, j0, _⟩ := HM.out wr hBw t y Hy.out
          rw [Hz.out] at c0
          rw [Hz2.out] at d0
          have HBx := Lib.hid hBx
          clear hBx
          by_cases hpz : p < z
          · obtain ⟨u, hu⟩ : ∃ u, x.l[p]? = some u := ⟨_, List.getElem?_eq_getElem (by have := Hz.out; omega)⟩
            obtain ⟨v, hv⟩ : ∃ u, y.l[p]? = some u := ⟨_, List.getElem?_eq_getElem (by have := Hz2.out; omega)⟩
            obtain ⟨b1, o1, e1, hb1, g0⟩ := ints_at i0 hu
            obtain ⟨b2, o2, e2, hb2, k0⟩ := ints_at j0 hv
            rw [e1] at c0
            rw [e2] at d0
            have Hu := Lib.hid (getD_of hu)
            have Hv := Lib.hid (getD_of hv)
            clear hu hv i0 j0 e1 e2
            by_cases hgt : v < u
            · go_wp2_with fail
              go_quiet (fail)
              go_wp2_with fail
              go_ret
              exact ⟨rfl, by first | exact below_drewN hBw _ | exact hBw.drew | exact hBw⟩
            · go_wp2_with fail
              go_quiet (fail)
              go_wp2_with fail
              go_roundw
              case rel =>
               exact ⟨p + 1, by omega, by go_num, fun s hs => by
                by_cases e : s = p
                · rw [e, Hu.out, Hv.out]; omega
                · exact Hpl.out s (by omega), by first | exact HBx.out.below (below_drewN (Below.refl wr.heap.size wr) _) hwz | exact HBx.out.below ((Below.refl wr.heap.size wr).drew) hwz, by first | exact below_drewN hBw _ | exact hBw.drew⟩
              case measure => simp [intOf]; omega
          · clear i0 j0
            obtain rfl : z = p := by omega
            go_wp2_with fail
            go_roundw
            case rel => exact ⟨t + 1, by omega, by go_num, HLow.out.next Hx.out Hy.out (by rw [Hz.out, Hz2.out]) (fun s hs => Hpl.out s (by rw [Hz.out] at hs; exact hs)), HBx.out, hBw⟩
            case measure => simp [intOf]; omega
      · have n2 : (x.l.length != y.l.length) = true := by simpa using hne
        have n3 : ¬ ((x.l.length : Int) = (y.l.length : Int)) := by omega
        go_wp2_with fail
        go_quiet (fail)
        go_wp2_with fail
        go_ret
        exact ⟨rfl, by first | exact below_drewN hBw _ | exact hBw.drew | exact hBw⟩
    · obtain rfl : q = t := by omega
      have hLw : Lower (vsOf L) (vsOf M) := LowTo.all Heq.out (by rw [Hq.out]; exact HLow.out)
      have HLw := Lib.hid hLw
      have HBx := Lib.hid hBx
      clear hLw HLow hBx Hq HqM Heq
      go_wp2_with fail
      go_loopw [14] (fun rv wr => ∃ r : Nat, r ≤ X.R.length ∧ rv = .int .i64 r ∧ Box wr w.heap.size #[.string X.nm, .slice X.a1 X.l1 X.c1, .int .i64 X.cl, .slice X.a3 X.l3 X.c3, .slice X.a4 X.l4 X.c4, .slice X.a5 X.T.length X.c5, .slice X.a6 X.l6 X.c6, .slice X.a7 X.R.length X.c7, .slice X.a8 X.S.length X.c8, .slice X.a9 X.l9 X.c9, .int .i64 X.er] 31 ∧ Below w.heap.size w wr) (fun rv _ => X.R.length - (intOf rv).toNat)
      case atStart => exact ⟨0, Nat.zero_le _, rfl, HBx.out, hBw⟩
      case round =>
        clear HBx hBw hwz
        obtain ⟨r, hr, rfl, hBx, hBw⟩ := hrel
        have hwz := hBx.lt
        obtain ⟨c0, _, _⟩ := HL.out wr hBw 0 xl Hxl.out
        obtain ⟨d0, _, _⟩ := HM.out wr hBw 0 xm Hxm.out
        rw [Nat.add_zero] at c0 d0
        have HBx := Lib.hid hBx
        clear hBx
        by_cases hrl : r < X.R.length
        · cases hoh : openB X.N X.l3 X.R (r : Int) xm.l
          · skip
            obtain ⟨x0, x1, x2, x3, x4, x5, x6, x7, x8, x9, x10⟩ := HBx.out.bas
            have KOh := Lib.hid (KO2.out r wr.drew hrl hBw.drew)
            unfold OpenIs at KOh
            rw [hoh] at KOh
            go_wp2_with fail
            refine Plan.wp_region_below 14 [(0, true), (1, true), (2, true), (3, true), (4, true), (5, false), (6, true), (7, true), (8, true), (9, true), (10, true), (11, true), (12, true), (13, true), (14, false)] (by kernel_rfl) (by kernel_rfl) ?_
            (repeat (first | (refine Plan.plan_read (v := ?_) rfl rfl ?_ ?_; rotate_left; (focus ((intro wS hSw; have hkS := (bcell hSw).1; try (have hkT := fun (b o : Nat) (h : b < w.heap.size) => hkS b o (by first | omega | (simp; omega) | (simp; done))); go_simp); try with_reducible rfl)); simp only [Act.put, List.setIfInBounds_toArray, List.set_cons_zero, List.set_cons_succ]) | (refine Plan.plan_skip rfl rfl ?_; simp only [Act.put, List.setIfInBounds_toArray, List.set_cons_zero, List.set_cons_succ])))
            refine Plan.plan_write rfl (fun K hK => ?_)
            go_simp
            go_at_call 14
            (with_reducible refine (KOh.out).mono ?_)
            rintro e5 w5 ⟨rfl, hb5⟩
            have kB := Plan.below_drew_go hb5
            refine hK.out _ _ kB ?_
            clear hK K
            try simp only [Act.put, List.setIfInBounds_toArray, List.set_cons_zero, List.set_cons_succ]
            (repeat (first | (refine Plan.plan_read (v := ?_) rfl rfl ?_ ?_; rotate_left; (focus ((intro wS hSw; have hkS := (bcell hSw).1; try (have hkT := fun (b o : Nat) (h : b < w.heap.size) => hkS b o (by first | omega | (simp; omega) | (simp; done))); go_simp); try with_reducible rfl)); simp only [Act.put, List.setIfInBounds_toArray, List.set_cons_zero, List.set_cons_succ]) | (refine Plan.plan_skip rfl rfl ?_; simp only [Act.put, List.setIfInBounds_toArray, List.set_cons_zero, List.set_cons_succ])))
            refine Plan.plan_last rfl (fun K hK => ?_)
            go_simp
            refine hK.out _ _ ?_
            clear hK K
            try simp only [Act.put, List.setIfInBounds_toArray, List.set_cons_zero, List.set_cons_succ]
            go_wp2_with fail
            go_roundw
            case rel => exact ⟨r + 1, by omega, by go_num, HBx.out.below kB hwz, hBw.trans (kB.mono (by omega))⟩
            case measure => simp [intOf]; omega
          · skip
            have hol : openB X.N X.l3 X.R (r : Int) xl.l = true := by
              have := openB_mono HLw.out (N := X.N) (P := X.l3) (R := X.R) (k := r) (by rw [Hgm0.out]; exact hoh)
              rw [Hgl0.out] at this; exact this
            obtain ⟨x0, x1, x2, x3, x4, x5, x6, x7, x8, x9, x10⟩ := HBx.out.bas
            have KOh := Lib.hid (KO2.out r wr.drew hrl hBw.drew)
            have KOl := Lib.hid (fun wx h => KO.out r wx hrl h)
            unfold OpenIs at KOh KOl
            rw [hoh] at KOh
            rw [hol] at KOl
            go_wp2_with fail
            refine Plan.wp_region_below 14 [(0, true), (1, true), (2, true), (3, true), (4, true), (5, false), (6, true), (7, true), (8, true), (9, true), (10, true), (11, true), (12, false), (13, true), (14, false)] (by kernel_rfl) (by kernel_rfl) ?_
            (repeat (first | (refine Plan.plan_read (v := ?_) rfl rfl ?_ ?_; rotate_left; (focus ((intro wS hSw; have hkS := (bcell hSw).1; try (have hkT := fun (b o : Nat) (h : b < w.heap.size) => hkS b o (by first | omega | (simp; omega) | (simp; done))); go_simp); try with_reducible rfl)); simp only [Act.put, List.setIfInBounds_toArray, List.set_cons_zero, List.set_cons_succ]) | (refine Plan.plan_skip rfl rfl ?_; simp only [Act.put, List.setIfInBounds_toArray, List.set_cons_zero, List.set_cons_succ])))
            refine Plan.plan_write rfl (fun K hK => ?_)
            go_simp
            go_at_call 14
            (with_reducible refine (KOh.out).mono ?_)
            rintro e5 w5 ⟨rfl, hb5⟩
            have kB := Plan.below_drew_go hb5
            refine hK.out _ _ kB ?_
            clear hK K
            try simp only [Act.put, List.setIfInBounds_toArray, List.set_cons_zero, List.set_cons_succ]
            (repeat (first | (refine Plan.plan_read (v := ?_) rfl rfl ?_ ?_; rotate_left; (focus ((intro wS hSw; have hkS := (bcell hSw).1; try (have hkT := fun (b o : Nat) (h : b < w.heap.size) => hkS b o (by first | omega | (simp; omega) | (simp; done))); go_simp); try with_reducible rfl)); simp only [Act.put, List.setIfInBounds_toArray, List.set_cons_zero, List.set_cons_succ]) | (refine Plan.plan_skip rfl rfl ?_; simp only [Act.put, List.setIfInBounds_toArray, List.set_cons_zero, List.set_cons_succ])))
            refine Plan.plan_write rfl (fun K hK => ?_)
            go_simp
            go_at_call 14
            (with_reducible refine (KOl.out w5 (hBw.trans (kB.mono (by omega)))).mono ?_)
            rintro e6 w6 ⟨rfl, hb6⟩
            replace kB := Plan.below_go kB hb6
            refine hK.out _ _ kB ?_
            clear hK K
            try simp only [Act.put, List.setIfInBounds_toArray, List.set_cons_zero, List.set_cons_succ]
            (repeat (first | (refine Plan.plan_read (v := ?_) rfl rfl ?_ ?_; rotate_left; (focus ((intro wS hSw; have hkS := (bcell hSw).1; try (have hkT := fun (b o : Nat) (h : b < w.heap.size) => hkS b o (by first | omega | (simp; omega) | (simp; done))); go_simp); try with_reducible rfl)); simp only [Act.put, List.setIfInBounds_toArray, List.set_cons_zero, List.set_cons_succ]) | (refine Plan.plan_skip rfl rfl ?_; simp only [Act.put, List.setIfInBounds_toArray, List.set_cons_zero, List.set_cons_succ])))
            refine Plan.plan_last rfl (fun K hK => ?_)
            go_simp
            refine hK.out _ _ ?_
            clear hK K
            try simp only [Act.put, List.setIfInBounds_toArray, List.set_cons_zero, List.set_cons_succ]
            go_wp2_with fail
            go_roundw
            case rel => exact ⟨r + 1, by omega, by go_num, HBx.out.below kB hwz, hBw.trans (kB.mono (by omega))⟩
            case measure => simp [intOf]; omega
        · skip
          obtain rfl : X.R.length = r := by omega
          obtain ⟨x0, x1, x2, x3, x4, x5, x6, x7, x8, x9, x10⟩ := HBx.out.bas
          go_wp2_with fail
          refine Plan.wp_region_below 10 [(0, true), (1, true), (2, true), (3, true), (4, true), (5, false), (6, true), (7, true), (8, true), (9, true), (10, false)] (by kernel_rfl) (by kernel_rfl) ?_
          (repeat (first | (refine Plan.plan_read (v := ?_) rfl rfl ?_ ?_; rotate_left; (focus ((intro wS hSw; have hkS := (bcell hSw).1; try (have hkT := fun (b o : Nat) (h : b < w.heap.size) => hkS b o (by first | omega | (simp; omega) | (simp; done))); go_simp); try with_reducible rfl)); simp only [Act.put, List.setIfInBounds_toArray, List.set_cons_zero, List.set_cons_succ]) | (refine Plan.plan_skip rfl rfl ?_; simp only [Act.put, List.setIfInBounds_toArray, List.set_cons_zero, List.set_cons_succ])))
          refine Plan.plan_write rfl (fun K hK => ?_)
          go_simp
          go_at_call 11
          (with_reducible refine (KR.out _ hBw.drew).mono ?_)
          rintro e5 w5 ⟨f5, v5, Q5, C5, c5, rfl, hm5, _, _, _, hb5⟩
          have kB := Plan.below_drew_go hb5
          have HM5 := Lib.hid hm5
          clear hm5
          refine hK.out _ _ kB ?_
          clear hK K
          try simp only [Act.put, List.setIfInBounds_toArray, List.set_cons_zero, List.set_cons_succ]
          (repeat (first | (refine Plan.plan_read (v := ?_) rfl rfl ?_ ?_; rotate_left; (focus ((intro wS hSw; have hkS := (bcell hSw).1; try (have hkT := fun (b o : Nat) (h : b < w.heap.size) => hkS b o (by first | omega | (simp; omega) | (simp; done))); go_simp); try with_reducible rfl)); simp only [Act.put, List.setIfInBounds_toArray, List.set_cons_zero, List.set_cons_succ]) | (refine Plan.plan_skip rfl rfl ?_; simp only [Act.put, List.setIfInBounds_toArray, List.set_cons_zero, List.set_cons_succ])))
          refine Plan.plan_last rfl (fun K hK => ?_)
          go_simp
          refine hK.out _ _ ?_
          clear hK K
          try simp only [Act.put, List.setIfInBounds_toArray, List.set_cons_zero, List.set_cons_succ]
          have hB5 := hBw.trans (kB.mono (by omega))
          have hX5 := HBx.out.below kB hwz
          clear x0 x1 x2 x3 x4 x5 x6 x7 x8 x9 x10 c0 d0 hb5 kB HBx hBw hwz
          obtain ⟨d0, _, _⟩ := HM.out w5 hB5 0 xm Hxm.out
          rw [Nat.add_zero] at d0
          obtain ⟨x0, x1, x2, x3, x4, x5, x6, x7, x8, x9, x10⟩ := hX5.bas
          have hwz := hX5.lt
          have HX5 := Lib.hid hX5
          clear hX5
          go_wp2_with fail
          refine Plan.wp_region_below 10 [(0, true), (1, true), (2, true), (3, true), (4, true), (5, false), (6, true), (7, true), (8, true), (9, true), (10, false)] (by kernel_rfl) (by kernel_rfl) ?_
          (repeat (first | (refine Plan.plan_read (v := ?_) rfl rfl ?_ ?_; rotate_left; (focus ((intro wS hSw; have hkS := (bcell hSw).1; try (have hkT := fun (b o : Nat) (h : b < w.heap.size) => hkS b o (by first | omega | (simp; omega) | (simp; done))); go_simp); try with_reducible rfl)); simp only [Act.put, List.setIfInBounds_toArray, List.set_cons_zero, List.set_cons_succ]) | (refine Plan.plan_skip rfl rfl ?_; simp only [Act.put, List.setIfInBounds_toArray, List.set_cons_zero, List.set_cons_succ])))
          refine Plan.plan_write rfl (fun K hK => ?_)
          go_simp
          go_at_call 11
          (with_reducible refine (KR2.out _ hB5.drew).mono ?_)
          rintro e6 w6 ⟨f6, v6, Q6, C6, c6, rfl, hm6, _, _, _, hb6⟩
          have kB := Plan.below_drew_go hb6
          have HM6 := Lib.hid hm6
          clear hm6
          refine hK.out _ _ kB ?_
          clear hK K
          try simp only [Act.put, List.setIfInBounds_toArray, List.set_cons_zero, List.set_cons_succ]
          (repeat (first | (refine Plan.plan_read (v := ?_) rfl rfl ?_ ?_; rotate_left; (focus ((intro wS hSw; have hkS := (bcell hSw).1; try (have hkT := fun (b o : Nat) (h : b < w.heap.size) => hkS b o (by first | omega | (simp; omega) | (simp; done))); go_simp); try with_reducible rfl)); simp only [Act.put, List.setIfInBounds_toArray, List.set_cons_zero, List.set_cons_succ]) | (refine Plan.plan_skip rfl rfl ?_; simp only [Act.put, List.setIfInBounds_toArray, List.set_cons_zero, List.set_cons_succ])))
          refine Plan.plan_last rfl (fun K hK => ?_)
          go_simp
          refine hK.out _ _ ?_
          clear hK K
          try simp only [Act.put, List.setIfInBounds_toArray, List.set_cons_zero, List.set_cons_succ]
          have hB6 := hB5.trans (kB.mono (by omega))
          have hX6 := HX5.out.below kB hwz
          have hnm : v6 ≤ v5 := room_mono HLw.out (X := X) (hours := hours) (by rw [Hgm0.out]; exact HM6.out) (by rw [Hgl0.out]; exact HM5.out)
          have hnm2 : ¬ (v5 < v6) := by omega
          clear x0 x1 x2 x3 x4 x5 x6 x7 x8 x9 x10 d0 hb6 kB hwz HX5 hB5 HM5 HM6
          obtain ⟨x0, x1, x2, x3, x4, x5, x6, x7, x8, x9, x10⟩ := hX6.bas
          go_wp2_with fail
          clear x0 x1 x2 x3 x4 x5 x6 x7 x8 x9 x10
          go_at_call 9
          (with_reducible refine (KW.out w6 hB6).mono ?_)
          rintro e7 w7 ⟨l7, one, C7, c7, hw7, rfl, hI7, hb7⟩
          have hB7 := go3 hB6 hb7
          have hX7 := hX6.below hb7 (by have := hX6.lt; omega)
          have HI7 := Lib.hid hI7
          have HW7 := Lib.hid hw7
          clear hI7 hw7 hX6 hB6 hb7
          obtain ⟨x0, x1, x2, x3, x4, x5, x6, x7, x8, x9, x10⟩ := hX7.bas
          go_wp2_with fail
          clear x0 x1 x2 x3 x4 x5 x6 x7 x8 x9 x10
          go_at_call 9
          (with_reducible refine (KW2.out w7 hB7).mono ?_)
          rintro e8 w8 ⟨l8, two, C8, c8, hw8, rfl, hI8, hb8⟩
          have hB8 := go3 hB7 hb8
          have hX8 := hX7.below hb8 (by have := hX7.lt; omega)
          have HI7 := Lib.hid (ints_up HI7.out hb8)
          have HI8 := Lib.hid hI8
          have hwz := hX8.lt
          clear hI8 hX7 hB7 hb8
          cases two
          · clear hw8
            go_wp2_with fail
            refine Plan.wp_region_below 18 [(0, true), (1, true), (2, true), (3, true), (4, true), (5, true), (6, true), (7, true), (8, true), (9, true), (10, true), (11, true), (12, true), (13, true), (14, true), (15, true), (16, true), (17, true), (18, false)] (by kernel_rfl) (by kernel_rfl) ?_
            (repeat (first | (refine Plan.plan_read (v := ?_) rfl rfl ?_ ?_; rotate_left; (focus ((intro wS hSw; have hkS := (bcell hSw).1; try (have hkT := fun (b o : Nat) (h : b < w.heap.size) => hkS b o (by first | omega | (simp; omega) | (simp; done))); go_simp); try with_reducible rfl)); simp only [Act.put, List.setIfInBounds_toArray, List.set_cons_zero, List.set_cons_succ]) | (refine Plan.plan_skip rfl rfl ?_; simp only [Act.put, List.setIfInBounds_toArray, List.set_cons_zero, List.set_cons_succ])))
            refine Plan.plan_last rfl (fun K hK => ?_)
            go_simp
            refine hK.out _ _ ?_
            clear hK K
            try simp only [Act.put, List.setIfInBounds_toArray, List.set_cons_zero, List.set_cons_succ]
            go_wp2_with fail
            go_ret
            exact ⟨rfl, hB8.drew⟩
          · obtain ⟨rfl, hle⟩ := floods_ways HNn.out HLw.out HW7.out hw8
            have ht1 := Lib.hid (fun wx h hI => KT.out C7 c7 l7.length (intsOf l7) wx h hI (by have := way_len HNn.out HW7.out; have := HN10.out; unfold intsOf; rw [List.length_map]; omega) (by unfold intsOf; rw [List.length_map]))
            have ht2 := Lib.hid (fun wx h hI => KT2.out C8 c8 l8.length (intsOf l8) wx h hI (by have := way_len HNn.out hw8; have := HN10.out; unfold intsOf; rw [List.length_map]; omega) (by unfold intsOf; rw [List.length_map]))
            unfold TravIs at ht1 ht2
            generalize travS X.N X.l3 X.T.length (vsOf L) X.R town (intsOf l7) = q7 at ht1 hle
            generalize travS X.N X.l3 X.T.length (vsOf M) X.R town (intsOf l8) = q8 at ht2 hle
            clear hw8
            obtain ⟨x0, x1, x2, x3, x4, x5, x6, x7, x8, x9, x10⟩ := hX8.bas
            go_wp2_with fail
            refine Plan.wp_region_below 18 [(0, true), (1, true), (2, true), (3, true), (4, true), (5, true), (6, true), (7, true), (8, true), (10, true), (11, true), (12, true), (13, true), (9, false), (14, false), (15, true), (16, true), (17, true), (18, false)] (by kernel_rfl) (by kernel_rfl) ?_
            (repeat (first | (refine Plan.plan_read (v := ?_) rfl rfl ?_ ?_; rotate_left; (focus ((intro wS hSw; have hkS := (bcell hSw).1; try (have hkT := fun (b o : Nat) (h : b < w.heap.size) => hkS b o (by first | omega | (simp; omega) | (simp; done))); go_simp); try with_reducible rfl)); simp only [Act.put, List.setIfInBounds_toArray, List.set_cons_zero, List.set_cons_succ]) | (refine Plan.plan_skip rfl rfl ?_; simp only [Act.put, List.setIfInBounds_toArray, List.set_cons_zero, List.set_cons_succ])))
            refine Plan.plan_write rfl (fun K hK => ?_)
            go_simp
            go_at_call 16
            (with_reducible refine (ht1.out _ hB8.drew (ints_up HI7.out ((Below.refl w8.heap.size w8).drew))).mono ?_)
            rintro e9 w9 ⟨rfl, hb9⟩
            have kB := Plan.below_drew_go hb9
            refine hK.out _ _ kB ?_
            clear hK K
            try simp only [Act.put, List.setIfInBounds_toArray, List.set_cons_zero, List.set_cons_succ]
            (repeat (first | (refine Plan.plan_read (v := ?_) rfl rfl ?_ ?_; rotate_left; (focus ((intro wS hSw; have hkS := (bcell hSw).1; try (have hkT := fun (b o : Nat) (h : b < w.heap.size) => hkS b o (by first | omega | (simp; omega) | (simp; done))); go_simp); try with_reducible rfl)); simp only [Act.put, List.setIfInBounds_toArray, List.set_cons_zero, List.set_cons_succ]) | (refine Plan.plan_skip rfl rfl ?_; simp only [Act.put, List.setIfInBounds_toArray, List.set_cons_zero, List.set_cons_succ])))
            refine Plan.plan_write rfl (fun K hK => ?_)
            go_simp
            go_at_call 16
            (with_reducible refine (ht2.out _ (hB8.trans (kB.mono (by omega))) (ints_up HI8.out kB)).mono ?_)
            rintro e10 w10 ⟨rfl, hb10⟩
            replace kB := Plan.below_go kB hb10
            refine hK.out _ _ kB ?_
            clear hK K
            try simp only [Act.put, List.setIfInBounds_toArray, List.set_cons_zero, List.set_cons_succ]
            (repeat (first | (refine Plan.plan_read (v := ?_) rfl rfl ?_ ?_; rotate_left; (focus ((intro wS hSw; have hkS := (bcell hSw).1; try (have hkT := fun (b o : Nat) (h : b < w.heap.size) => hkS b o (by first | omega | (simp; omega) | (simp; done))); go_simp); try with_reducible rfl)); simp only [Act.put, List.setIfInBounds_toArray, List.set_cons_zero, List.set_cons_succ]) | (refine Plan.plan_skip rfl rfl ?_; simp only [Act.put, List.setIfInBounds_toArray, List.set_cons_zero, List.set_cons_succ])))
            refine Plan.plan_last rfl (fun K hK => ?_)
            go_simp
            refine hK.out _ _ ?_
            clear hK K
            try simp only [Act.put, List.setIfInBounds_toArray, List.set_cons_zero, List.set_cons_succ]
            go_wp2_with fail
            go_ret
            exact ⟨rfl, hB8.trans (kB.mono (by omega))⟩
theorem floods_law (X : Bs) (C : Option Addr) (c : Nat) (L : List Vl) (E : Option Addr) (d : Nat) (M : List Vl) (town hours : Int) (w : World) (hX : BsAt w w.heap.size X) (hV : VlsAt w w.heap.size C L) (hU : VlsAt w w.heap.size E M) (hL : L.length ≤ 9223372036854775807) (hM : M.length ≤ 9223372036854775807) (hRl : X.R.length ≤ 9223372036854775807) (hP : X.l3 ≤ 9223372036854775807) :
    Calls Try.prog 5 #[.agg #[.string X.nm, .slice X.a1 X.l1 X.c1, .int .i64 X.cl, .slice X.a3 X.l3 X.c3, .slice X.a4 X.l4 X.c4, .slice X.a5 X.T.length X.c5, .slice X.a6 X.l6 X.c6, .slice X.a7 X.R.length X.c7, .slice X.a8 X.S.length X.c8, .slice X.a9 X.l9 X.c9, .int .i64 X.er], .int .i64 town, .slice C L.length c, .slice E M.length d, .int .i64 hours] w (TrueIs w) := by
  by_cases hf : fewB X L.length = true
  · by_cases h1 : L.length = M.length
    · by_cases h2 : L.length = 0
      · exact floods_l3 X C c L E d M town hours w hX hV hU hL hM hRl hP hf h1 h2
      · exact floods_l4 X C c L E d M town hours w hX hV hU hL hM hRl hP hf h1 (by omega)
    · exact floods_l2 X C c L E d M town hours w hX hV hU hL hM hRl hP hf h1
  · exact floods_l1 X C c L E d M town hours w hX hV hU hL hM hRl hP (by simpa using hf)
end Go.Proofs.Ytphebdmdbnpokaa
