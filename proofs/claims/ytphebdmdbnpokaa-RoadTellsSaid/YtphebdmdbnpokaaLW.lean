/- The walk of RoadWays: true, whatever the basin. (Printed by gen_lw.py.) -/
import Derived.Deep.Cut
import Derived.Test.YtphebdmdbnpokaaSM
import Derived.Test.YtphebdmdbnpokaaLW0
set_option linter.unusedSimpArgs false
set_option linter.unusedVariables false
namespace Go.Proofs.Ytphebdmdbnpokaa
open Go.RowKit RD
theorem BsAt.up {w w' : World} {X : Bs} (h : BsAt w w.heap.size X) (hb : Below w.heap.size w w') : BsAt w' w'.heap.size X := (h.below hb).more hb.size
theorem VlsAt.up {w w' : World} {C : Option Addr} {L : List Vl} (h : VlsAt w w.heap.size C L) (hb : Below w.heap.size w w') : VlsAt w' w'.heap.size C L := (h.below hb).more hb.size
theorem ints_up {w w' : World} {C : Option Addr} {l : List Int} (h : IntsAt w w.heap.size C l) (hb : Below w.heap.size w w') : IntsAt w' w'.heap.size C l := ints_more (ints_below h hb) hb.size
theorem few_is {X : Bs} {n : Nat} (h : fewB X n = true) : X.T.length ≤ 6 ∧ X.S.length ≤ 4 ∧ X.R.length ≤ 14 ∧ n ≤ 12 := by simpa [fewB] using h
def TrueIs (w : World) (e : Ending) (w' : World) : Prop := e = .returned (.bool true) ∧ Below w.heap.size w w'
theorem travelled_len (X : Bs) (C : Option Addr) (c : Nat) (L : List Vl) (town : Int) (D : Option Addr) (d n : Nat) (l : List Int) (w : World) (hX : BsAt w w.heap.size X) (hV : VlsAt w w.heap.size C L) (hD : IntsAt w w.heap.size D l) (hbl : BsLen X) (hL : L.length ≤ 1000) (hl : l.length ≤ 100) (hn : l.length = n) :
    Calls Try.prog 16 #[.agg #[.string X.nm, .slice X.a1 X.l1 X.c1, .int .i64 X.cl, .slice X.a3 X.l3 X.c3, .slice X.a4 X.l4 X.c4, .slice X.a5 X.T.length X.c5, .slice X.a6 X.l6 X.c6, .slice X.a7 X.R.length X.c7, .slice X.a8 X.S.length X.c8, .slice X.a9 X.l9 X.c9, .int .i64 X.er], .int .i64 town, .slice C L.length c, .slice D n d] w (TravIs X L town l w) := by
  subst hn; exact travelled_any X C c L town D d l w hX hV hD hbl hL hl
set_option maxRecDepth 100000 in
set_option maxHeartbeats 8000000 in
theorem ways_l1 (X : Bs) (C : Option Addr) (c : Nat) (L : List Vl) (town : Int) (D : Option Addr) (d : Nat) (l : List Int) (w : World) (hX : BsAt w w.heap.size X) (hV : VlsAt w w.heap.size C L) (hD : IntsAt w w.heap.size D l) (hL : L.length ≤ 9223372036854775807) (hl : l.length ≤ 9223372036854775807) (hP : X.l3 ≤ 9223372036854775807) (hf : fewB X L.length = false) :
    Calls Try.prog 4 #[.agg #[.string X.nm, .slice X.a1 X.l1 X.c1, .int .i64 X.cl, .slice X.a3 X.l3 X.c3, .slice X.a4 X.l4 X.c4, .slice X.a5 X.T.length X.c5, .slice X.a6 X.l6 X.c6, .slice X.a7 X.R.length X.c7, .slice X.a8 X.S.length X.c8, .slice X.a9 X.l9 X.c9, .int .i64 X.er], .int .i64 town, .slice C L.length c, .slice D l.length d] w (TrueIs w) := by
  have hB0 : Below w.heap.size w (w.alloc (.cells #[.string X.nm, .slice X.a1 X.l1 X.c1, .int .i64 X.cl, .slice X.a3 X.l3 X.c3, .slice X.a4 X.l4 X.c4, .slice X.a5 X.T.length X.c5, .slice X.a6 X.l6 X.c6, .slice X.a7 X.R.length X.c7, .slice X.a8 X.S.length X.c8, .slice X.a9 X.l9 X.c9, .int .i64 X.er] 31)) := (Below.refl _ _).alloc (Nat.le_refl _) _
  have hX0 : Box (w.alloc (.cells #[.string X.nm, .slice X.a1 X.l1 X.c1, .int .i64 X.cl, .slice X.a3 X.l3 X.c3, .slice X.a4 X.l4 X.c4, .slice X.a5 X.T.length X.c5, .slice X.a6 X.l6 X.c6, .slice X.a7 X.R.length X.c7, .slice X.a8 X.S.length X.c8, .slice X.a9 X.l9 X.c9, .int .i64 X.er] 31)) w.heap.size #[.string X.nm, .slice X.a1 X.l1 X.c1, .int .i64 X.cl, .slice X.a3 X.l3 X.c3, .slice X.a4 X.l4 X.c4, .slice X.a5 X.T.length X.c5, .slice X.a6 X.l6 X.c6, .slice X.a7 X.R.length X.c7, .slice X.a8 X.S.length X.c8, .slice X.a9 X.l9 X.c9, .int .i64 X.er] 31 := Box.new w _ _
  have KF : Hid (∀ wx, Calls Try.prog 8 #[.agg #[.string X.nm, .slice X.a1 X.l1 X.c1, .int .i64 X.cl, .slice X.a3 X.l3 X.c3, .slice X.a4 X.l4 X.c4, .slice X.a5 X.T.length X.c5, .slice X.a6 X.l6 X.c6, .slice X.a7 X.R.length X.c7, .slice X.a8 X.S.length X.c8, .slice X.a9 X.l9 X.c9, .int .i64 X.er], .slice C L.length c] wx (fun e w' => e = .returned (.bool false) ∧ Below wx.heap.size wx w')) := fun wx => (few_any X C L.length c wx hL).mono fun e w' ⟨he, hb⟩ => ⟨by rw [he, hf], hb⟩
  clear hX hV hD hf
  go_enter Try.func4, Try.ntmps4
  go_wp2_with fail
  generalize (w.alloc (.cells #[.string X.nm, .slice X.a1 X.l1 X.c1, .int .i64 X.cl, .slice X.a3 X.l3 X.c3, .slice X.a4 X.l4 X.c4, .slice X.a5 X.T.length X.c5, .slice X.a6 X.l6 X.c6, .slice X.a7 X.R.length X.c7, .slice X.a8 X.S.length X.c8, .slice X.a9 X.l9 X.c9, .int .i64 X.er] 31)) = w0 at hX0 hB0 ⊢
  go_at_call 7
  (with_reducible refine (small_any w0).mono ?_)
  rintro e1 w1 ⟨rfl, hb1⟩
  have hX1 := hX0.below hb1 (by have := hX0.lt; omega)
  have hB1 := go3 hB0 hb1
  obtain ⟨x0, x1, x2, x3, x4, x5, x6, x7, x8, x9, x10⟩ := hX1.bas
  go_wp2_with fail
  clear x0 x1 x2 x3 x4 x5 x6 x7 x8 x9 x10
  go_at_call 8
  (with_reducible refine (KF.out w1).mono ?_)
  rintro e2 w2 ⟨rfl, hb2⟩
  have hX2 := hX1.below hb2 (by have := hX1.lt; omega)
  have hB2 := go3 hB1 hb2
  obtain ⟨x0, x1, x2, x3, x4, x5, x6, x7, x8, x9, x10⟩ := hX2.bas
  go_wp2_with fail
  clear x0 x1 x2 x3 x4 x5 x6 x7 x8 x9 x10
  go_ret
  exact ⟨rfl, hB2⟩
set_option maxRecDepth 100000 in
set_option maxHeartbeats 8000000 in
theorem ways_l2 (X : Bs) (C : Option Addr) (c : Nat) (L : List Vl) (town : Int) (D : Option Addr) (d : Nat) (l : List Int) (w : World) (hX : BsAt w w.heap.size X) (hV : VlsAt w w.heap.size C L) (hD : IntsAt w w.heap.size D l) (hL : L.length ≤ 9223372036854775807) (hl : l.length ≤ 9223372036854775807) (hP : X.l3 ≤ 9223372036854775807) (hf : fewB X L.length = true) (h8 : 8 < l.length) :
    Calls Try.prog 4 #[.agg #[.string X.nm, .slice X.a1 X.l1 X.c1, .int .i64 X.cl, .slice X.a3 X.l3 X.c3, .slice X.a4 X.l4 X.c4, .slice X.a5 X.T.length X.c5, .slice X.a6 X.l6 X.c6, .slice X.a7 X.R.length X.c7, .slice X.a8 X.S.length X.c8, .slice X.a9 X.l9 X.c9, .int .i64 X.er], .int .i64 town, .slice C L.length c, .slice D l.length d] w (TrueIs w) := by
  have hB0 : Below w.heap.size w (w.alloc (.cells #[.string X.nm, .slice X.a1 X.l1 X.c1, .int .i64 X.cl, .slice X.a3 X.l3 X.c3, .slice X.a4 X.l4 X.c4, .slice X.a5 X.T.length X.c5, .slice X.a6 X.l6 X.c6, .slice X.a7 X.R.length X.c7, .slice X.a8 X.S.length X.c8, .slice X.a9 X.l9 X.c9, .int .i64 X.er] 31)) := (Below.refl _ _).alloc (Nat.le_refl _) _
  have hX0 : Box (w.alloc (.cells #[.string X.nm, .slice X.a1 X.l1 X.c1, .int .i64 X.cl, .slice X.a3 X.l3 X.c3, .slice X.a4 X.l4 X.c4, .slice X.a5 X.T.length X.c5, .slice X.a6 X.l6 X.c6, .slice X.a7 X.R.length X.c7, .slice X.a8 X.S.length X.c8, .slice X.a9 X.l9 X.c9, .int .i64 X.er] 31)) w.heap.size #[.string X.nm, .slice X.a1 X.l1 X.c1, .int .i64 X.cl, .slice X.a3 X.l3 X.c3, .slice X.a4 X.l4 X.c4, .slice X.a5 X.T.length X.c5, .slice X.a6 X.l6 X.c6, .slice X.a7 X.R.length X.c7, .slice X.a8 X.S.length X.c8, .slice X.a9 X.l9 X.c9, .int .i64 X.er] 31 := Box.new w _ _
  have KF : Hid (∀ wx, Calls Try.prog 8 #[.agg #[.string X.nm, .slice X.a1 X.l1 X.c1, .int .i64 X.cl, .slice X.a3 X.l3 X.c3, .slice X.a4 X.l4 X.c4, .slice X.a5 X.T.length X.c5, .slice X.a6 X.l6 X.c6, .slice X.a7 X.R.length X.c7, .slice X.a8 X.S.length X.c8, .slice X.a9 X.l9 X.c9, .int .i64 X.er], .slice C L.length c] wx (fun e w' => e = .returned (.bool true) ∧ Below wx.heap.size wx w')) := fun wx => (few_any X C L.length c wx hL).mono fun e w' ⟨he, hb⟩ => ⟨by rw [he, hf], hb⟩
  have h8' : (8 : Int) < (l.length : Int) := by omega
  clear hX hV hD hf
  go_enter Try.func4, Try.ntmps4
  go_wp2_with fail
  generalize (w.alloc (.cells #[.string X.nm, .slice X.a1 X.l1 X.c1, .int .i64 X.cl, .slice X.a3 X.l3 X.c3, .slice X.a4 X.l4 X.c4, .slice X.a5 X.T.length X.c5, .slice X.a6 X.l6 X.c6, .slice X.a7 X.R.length X.c7, .slice X.a8 X.S.length X.c8, .slice X.a9 X.l9 X.c9, .int .i64 X.er] 31)) = w0 at hX0 hB0 ⊢
  go_at_call 7
  (with_reducible refine (small_any w0).mono ?_)
  rintro e1 w1 ⟨rfl, hb1⟩
  have hX1 := hX0.below hb1 (by have := hX0.lt; omega)
  have hB1 := go3 hB0 hb1
  obtain ⟨x0, x1, x2, x3, x4, x5, x6, x7, x8, x9, x10⟩ := hX1.bas
  go_wp2_with fail
  clear x0 x1 x2 x3 x4 x5 x6 x7 x8 x9 x10
  go_at_call 8
  (with_reducible refine (KF.out w1).mono ?_)
  rintro e2 w2 ⟨rfl, hb2⟩
  have hX2 := hX1.below hb2 (by have := hX1.lt; omega)
  have hB2 := go3 hB1 hb2
  obtain ⟨x0, x1, x2, x3, x4, x5, x6, x7, x8, x9, x10⟩ := hX2.bas
  go_wp2_with fail
  clear x0 x1 x2 x3 x4 x5 x6 x7 x8 x9 x10
  go_ret
  exact ⟨rfl, hB2⟩
set_option maxRecDepth 100000 in
set_option maxHeartbeats 8000000 in
theorem ways_l3 (X : Bs) (C : Option Addr) (c : Nat) (L : List Vl) (town : Int) (D : Option Addr) (d : Nat) (l : List Int) (w : World) (hX : BsAt w w.heap.size X) (hV : VlsAt w w.heap.size C L) (hD : IntsAt w w.heap.size D l) (hL : L.length ≤ 9223372036854775807) (hl : l.length ≤ 9223372036854775807) (hP : X.l3 ≤ 9223372036854775807) (hf : fewB X L.length = true) (h8 : ¬ 8 < l.length) (hto : town < 0) :
    Calls Try.prog 4 #[.agg #[.string X.nm, .slice X.a1 X.l1 X.c1, .int .i64 X.cl, .slice X.a3 X.l3 X.c3, .slice X.a4 X.l4 X.c4, .slice X.a5 X.T.length X.c5, .slice X.a6 X.l6 X.c6, .slice X.a7 X.R.length X.c7, .slice X.a8 X.S.length X.c8, .slice X.a9 X.l9 X.c9, .int .i64 X.er], .int .i64 town, .slice C L.length c, .slice D l.length d] w (TrueIs w) := by
  have hB0 : Below w.heap.size w (w.alloc (.cells #[.string X.nm, .slice X.a1 X.l1 X.c1, .int .i64 X.cl, .slice X.a3 X.l3 X.c3, .slice X.a4 X.l4 X.c4, .slice X.a5 X.T.length X.c5, .slice X.a6 X.l6 X.c6, .slice X.a7 X.R.length X.c7, .slice X.a8 X.S.length X.c8, .slice X.a9 X.l9 X.c9, .int .i64 X.er] 31)) := (Below.refl _ _).alloc (Nat.le_refl _) _
  have hX0 : Box (w.alloc (.cells #[.string X.nm, .slice X.a1 X.l1 X.c1, .int .i64 X.cl, .slice X.a3 X.l3 X.c3, .slice X.a4 X.l4 X.c4, .slice X.a5 X.T.length X.c5, .slice X.a6 X.l6 X.c6, .slice X.a7 X.R.length X.c7, .slice X.a8 X.S.length X.c8, .slice X.a9 X.l9 X.c9, .int .i64 X.er] 31)) w.heap.size #[.string X.nm, .slice X.a1 X.l1 X.c1, .int .i64 X.cl, .slice X.a3 X.l3 X.c3, .slice X.a4 X.l4 X.c4, .slice X.a5 X.T.length X.c5, .slice X.a6 X.l6 X.c6, .slice X.a7 X.R.length X.c7, .slice X.a8 X.S.length X.c8, .slice X.a9 X.l9 X.c9, .int .i64 X.er] 31 := Box.new w _ _
  obtain ⟨f1, f2, f3, f4⟩ := few_is hf
  have KF : Hid (∀ wx, Calls Try.prog 8 #[.agg #[.string X.nm, .slice X.a1 X.l1 X.c1, .int .i64 X.cl, .slice X.a3 X.l3 X.c3, .slice X.a4 X.l4 X.c4, .slice X.a5 X.T.length X.c5, .slice X.a6 X.l6 X.c6, .slice X.a7 X.R.length X.c7, .slice X.a8 X.S.length X.c8, .slice X.a9 X.l9 X.c9, .int .i64 X.er], .slice C L.length c] wx (fun e w' => e = .returned (.bool true) ∧ Below wx.heap.size wx w')) := fun wx => (few_any X C L.length c wx hL).mono fun e w' ⟨he, hb⟩ => ⟨by rw [he, hf], hb⟩
  have h8' : ¬ (8 : Int) < (l.length : Int) := by omega
  have hto0 := hto
  replace hto : town < 0 ∨ (X.T.length : Int) ≤ town := .inl hto
  have KW : Hid (∀ wx, Calls Try.prog 9 #[.agg #[.string X.nm, .slice X.a1 X.l1 X.c1, .int .i64 X.cl, .slice X.a3 X.l3 X.c3, .slice X.a4 X.l4 X.c4, .slice X.a5 X.T.length X.c5, .slice X.a6 X.l6 X.c6, .slice X.a7 X.R.length X.c7, .slice X.a8 X.S.length X.c8, .slice X.a9 X.l9 X.c9, .int .i64 X.er], .int .i64 town, .slice C L.length c] wx (fun e w' => ∃ E c2, e = .returned (.tuple #[.slice E 0 c2, .bool false]) ∧ Below wx.heap.size wx w')) := fun wx => (ways_no X C c L town wx (by omega) hto).mono fun e w' ⟨l', ok, E, c2, hw, he, _, hb⟩ => by
    rcases hw with ⟨rfl, rfl, _⟩ | ⟨_, g1, g2, _⟩
    · exact ⟨E, c2, he, hb⟩
    · omega
  clear hto
  clear hX hV hD hf f1 f2 f3 f4
  go_enter Try.func4, Try.ntmps4
  go_wp2_with fail
  generalize (w.alloc (.cells #[.string X.nm, .slice X.a1 X.l1 X.c1, .int .i64 X.cl, .slice X.a3 X.l3 X.c3, .slice X.a4 X.l4 X.c4, .slice X.a5 X.T.length X.c5, .slice X.a6 X.l6 X.c6, .slice X.a7 X.R.length X.c7, .slice X.a8 X.S.length X.c8, .slice X.a9 X.l9 X.c9, .int .i64 X.er] 31)) = w0 at hX0 hB0 ⊢
  go_at_call 7
  (with_reducible refine (small_any w0).mono ?_)
  rintro e1 w1 ⟨rfl, hb1⟩
  have hX1 := hX0.below hb1 (by have := hX0.lt; omega)
  have hB1 := go3 hB0 hb1
  obtain ⟨x0, x1, x2, x3, x4, x5, x6, x7, x8, x9, x10⟩ := hX1.bas
  go_wp2_with fail
  clear x0 x1 x2 x3 x4 x5 x6 x7 x8 x9 x10
  go_at_call 8
  (with_reducible refine (KF.out w1).mono ?_)
  rintro e2 w2 ⟨rfl, hb2⟩
  have hX2 := hX1.below hb2 (by have := hX1.lt; omega)
  have hB2 := go3 hB1 hb2
  obtain ⟨x0, x1, x2, x3, x4, x5, x6, x7, x8, x9, x10⟩ := hX2.bas
  go_wp2_with fail
  clear x0 x1 x2 x3 x4 x5 x6 x7 x8 x9 x10
  go_at_call 9
  (with_reducible refine (KW.out w2).mono ?_)
  rintro e3 w3 ⟨E, c2, rfl, hb3⟩
  have hX3 := hX2.below hb3 (by have := hX2.lt; omega)
  have hB3 := go3 hB2 hb3
  obtain ⟨x0, x1, x2, x3, x4, x5, x6, x7, x8, x9, x10⟩ := hX3.bas
  go_wp2_with fail
  clear x0 x1 x2 x3 x4 x5 x6 x7 x8 x9 x10
  go_ret
  exact ⟨rfl, hB3⟩
set_option maxRecDepth 100000 in
set_option maxHeartbeats 8000000 in
theorem ways_l4 (X : Bs) (C : Option Addr) (c : Nat) (L : List Vl) (town : Nat) (D : Option Addr) (d : Nat) (l : List Int) (w : World) (hX : BsAt w w.heap.size X) (hV : VlsAt w w.heap.size C L) (hD : IntsAt w w.heap.size D l) (hL : L.length ≤ 9223372036854775807) (hl : l.length ≤ 9223372036854775807) (hP : X.l3 ≤ 9223372036854775807) (hf : fewB X L.length = true) (h8 : ¬ 8 < l.length) (hto : X.T.length ≤ town) :
    Calls Try.prog 4 #[.agg #[.string X.nm, .slice X.a1 X.l1 X.c1, .int .i64 X.cl, .slice X.a3 X.l3 X.c3, .slice X.a4 X.l4 X.c4, .slice X.a5 X.T.length X.c5, .slice X.a6 X.l6 X.c6, .slice X.a7 X.R.length X.c7, .slice X.a8 X.S.length X.c8, .slice X.a9 X.l9 X.c9, .int .i64 X.er], .int .i64 town, .slice C L.length c, .slice D l.length d] w (TrueIs w) := by
  have hB0 : Below w.heap.size w (w.alloc (.cells #[.string X.nm, .slice X.a1 X.l1 X.c1, .int .i64 X.cl, .slice X.a3 X.l3 X.c3, .slice X.a4 X.l4 X.c4, .slice X.a5 X.T.length X.c5, .slice X.a6 X.l6 X.c6, .slice X.a7 X.R.length X.c7, .slice X.a8 X.S.length X.c8, .slice X.a9 X.l9 X.c9, .int .i64 X.er] 31)) := (Below.refl _ _).alloc (Nat.le_refl _) _
  have hX0 : Box (w.alloc (.cells #[.string X.nm, .slice X.a1 X.l1 X.c1, .int .i64 X.cl, .slice X.a3 X.l3 X.c3, .slice X.a4 X.l4 X.c4, .slice X.a5 X.T.length X.c5, .slice X.a6 X.l6 X.c6, .slice X.a7 X.R.length X.c7, .slice X.a8 X.S.length X.c8, .slice X.a9 X.l9 X.c9, .int .i64 X.er] 31)) w.heap.size #[.string X.nm, .slice X.a1 X.l1 X.c1, .int .i64 X.cl, .slice X.a3 X.l3 X.c3, .slice X.a4 X.l4 X.c4, .slice X.a5 X.T.length X.c5, .slice X.a6 X.l6 X.c6, .slice X.a7 X.R.length X.c7, .slice X.a8 X.S.length X.c8, .slice X.a9 X.l9 X.c9, .int .i64 X.er] 31 := Box.new w _ _
  obtain ⟨f1, f2, f3, f4⟩ := few_is hf
  have KF : Hid (∀ wx, Calls Try.prog 8 #[.agg #[.string X.nm, .slice X.a1 X.l1 X.c1, .int .i64 X.cl, .slice X.a3 X.l3 X.c3, .slice X.a4 X.l4 X.c4, .slice X.a5 X.T.length X.c5, .slice X.a6 X.l6 X.c6, .slice X.a7 X.R.length X.c7, .slice X.a8 X.S.length X.c8, .slice X.a9 X.l9 X.c9, .int .i64 X.er], .slice C L.length c] wx (fun e w' => e = .returned (.bool true) ∧ Below wx.heap.size wx w')) := fun wx => (few_any X C L.length c wx hL).mono fun e w' ⟨he, hb⟩ => ⟨by rw [he, hf], hb⟩
  have h8' : ¬ (8 : Int) < (l.length : Int) := by omega
  have hto2 := hto
  replace hto : (town : Int) < 0 ∨ (X.T.length : Int) ≤ (town : Int) := .inr (by omega)
  have KW : Hid (∀ wx, Calls Try.prog 9 #[.agg #[.string X.nm, .slice X.a1 X.l1 X.c1, .int .i64 X.cl, .slice X.a3 X.l3 X.c3, .slice X.a4 X.l4 X.c4, .slice X.a5 X.T.length X.c5, .slice X.a6 X.l6 X.c6, .slice X.a7 X.R.length X.c7, .slice X.a8 X.S.length X.c8, .slice X.a9 X.l9 X.c9, .int .i64 X.er], .int .i64 (town : Nat), .slice C L.length c] wx (fun e w' => ∃ E c2, e = .returned (.tuple #[.slice E 0 c2, .bool false]) ∧ Below wx.heap.size wx w')) := fun wx => (ways_no X C c L (town : Nat) wx (by omega) hto).mono fun e w' ⟨l', ok, E, c2, hw, he, _, hb⟩ => by
    rcases hw with ⟨rfl, rfl, _⟩ | ⟨_, g1, g2, _⟩
    · exact ⟨E, c2, he, hb⟩
    · omega
  have hto3 : ¬ ((town : Int) < 0) := by omega
  have hto4 : (X.T.length : Int) ≤ (town : Int) := by omega
  clear hX hV hD hf f1 f2 f3 f4 hto
  go_enter Try.func4, Try.ntmps4
  go_wp2_with fail
  generalize (w.alloc (.cells #[.string X.nm, .slice X.a1 X.l1 X.c1, .int .i64 X.cl, .slice X.a3 X.l3 X.c3, .slice X.a4 X.l4 X.c4, .slice X.a5 X.T.length X.c5, .slice X.a6 X.l6 X.c6, .slice X.a7 X.R.length X.c7, .slice X.a8 X.S.length X.c8, .slice X.a9 X.l9 X.c9, .int .i64 X.er] 31)) = w0 at hX0 hB0 ⊢
  go_at_call 7
  (with_reducible refine (small_any w0).mono ?_)
  rintro e1 w1 ⟨rfl, hb1⟩
  have hX1 := hX0.below hb1 (by have := hX0.lt; omega)
  have hB1 := go3 hB0 hb1
  obtain ⟨x0, x1, x2, x3, x4, x5, x6, x7, x8, x9, x10⟩ := hX1.bas
  go_wp2_with fail
  clear x0 x1 x2 x3 x4 x5 x6 x7 x8 x9 x10
  go_at_call 8
  (with_reducible refine (KF.out w1).mono ?_)
  rintro e2 w2 ⟨rfl, hb2⟩
  have hX2 := hX1.below hb2 (by have := hX1.lt; omega)
  have hB2 := go3 hB1 hb2
  obtain ⟨x0, x1, x2, x3, x4, x5, x6, x7, x8, x9, x10⟩ := hX2.bas
  go_wp2_with fail
  clear x0 x1 x2 x3 x4 x5 x6 x7 x8 x9 x10
  go_at_call 9
  (with_reducible refine (KW.out w2).mono ?_)
  rintro e3 w3 ⟨E, c2, rfl, hb3⟩
  have hX3 := hX2.below hb3 (by have := hX2.lt; omega)
  have hB3 := go3 hB2 hb3
  obtain ⟨x0, x1, x2, x3, x4, x5, x6, x7, x8, x9, x10⟩ := hX3.bas
  go_wp2_with fail
  clear x0 x1 x2 x3 x4 x5 x6 x7 x8 x9 x10
  go_ret
  exact ⟨rfl, hB3⟩
set_option maxRecDepth 100000 in
set_option maxHeartbeats 8000000 in
theorem ways_l5 (X : Bs) (C : Option Addr) (c : Nat) (L : List Vl) (town : Nat) (D : Option Addr) (d : Nat) (l : List Int) (w : World) (hX : BsAt w w.heap.size X) (hV : VlsAt w w.heap.size C L) (hD : IntsAt w w.heap.size D l) (hL : L.length ≤ 9223372036854775807) (hl : l.length ≤ 9223372036854775807) (hP : X.l3 ≤ 9223372036854775807) (hf : fewB X L.length = true) (h8 : ¬ 8 < l.length) (hto : town < X.T.length) :
    Calls Try.prog 4 #[.agg #[.string X.nm, .slice X.a1 X.l1 X.c1, .int .i64 X.cl, .slice X.a3 X.l3 X.c3, .slice X.a4 X.l4 X.c4, .slice X.a5 X.T.length X.c5, .slice X.a6 X.l6 X.c6, .slice X.a7 X.R.length X.c7, .slice X.a8 X.S.length X.c8, .slice X.a9 X.l9 X.c9, .int .i64 X.er], .int .i64 town, .slice C L.length c, .slice D l.length d] w (TrueIs w) := by
  have hB0 : Below w.heap.size w (w.alloc (.cells #[.string X.nm, .slice X.a1 X.l1 X.c1, .int .i64 X.cl, .slice X.a3 X.l3 X.c3, .slice X.a4 X.l4 X.c4, .slice X.a5 X.T.length X.c5, .slice X.a6 X.l6 X.c6, .slice X.a7 X.R.length X.c7, .slice X.a8 X.S.length X.c8, .slice X.a9 X.l9 X.c9, .int .i64 X.er] 31)) := (Below.refl _ _).alloc (Nat.le_refl _) _
  have hX0 : Box (w.alloc (.cells #[.string X.nm, .slice X.a1 X.l1 X.c1, .int .i64 X.cl, .slice X.a3 X.l3 X.c3, .slice X.a4 X.l4 X.c4, .slice X.a5 X.T.length X.c5, .slice X.a6 X.l6 X.c6, .slice X.a7 X.R.length X.c7, .slice X.a8 X.S.length X.c8, .slice X.a9 X.l9 X.c9, .int .i64 X.er] 31)) w.heap.size #[.string X.nm, .slice X.a1 X.l1 X.c1, .int .i64 X.cl, .slice X.a3 X.l3 X.c3, .slice X.a4 X.l4 X.c4, .slice X.a5 X.T.length X.c5, .slice X.a6 X.l6 X.c6, .slice X.a7 X.R.length X.c7, .slice X.a8 X.S.length X.c8, .slice X.a9 X.l9 X.c9, .int .i64 X.er] 31 := Box.new w _ _
  obtain ⟨f1, f2, f3, f4⟩ := few_is hf
  have KF : Hid (∀ wx, Calls Try.prog 8 #[.agg #[.string X.nm, .slice X.a1 X.l1 X.c1, .int .i64 X.cl, .slice X.a3 X.l3 X.c3, .slice X.a4 X.l4 X.c4, .slice X.a5 X.T.length X.c5, .slice X.a6 X.l6 X.c6, .slice X.a7 X.R.length X.c7, .slice X.a8 X.S.length X.c8, .slice X.a9 X.l9 X.c9, .int .i64 X.er], .slice C L.length c] wx (fun e w' => e = .returned (.bool true) ∧ Below wx.heap.size wx w')) := fun wx => (few_any X C L.length c wx hL).mono fun e w' ⟨he, hb⟩ => ⟨by rw [he, hf], hb⟩
  have h8' : ¬ (8 : Int) < (l.length : Int) := by omega
  have hbl : BsLen X := ⟨by omega, by omega, by omega, hP⟩
  have hNn : X.T.length ≤ X.N := by unfold Bs.N; omega
  have KW : Hid (∀ wx, Below w.heap.size w wx → Calls Try.prog 9 #[.agg #[.string X.nm, .slice X.a1 X.l1 X.c1, .int .i64 X.cl, .slice X.a3 X.l3 X.c3, .slice X.a4 X.l4 X.c4, .slice X.a5 X.T.length X.c5, .slice X.a6 X.l6 X.c6, .slice X.a7 X.R.length X.c7, .slice X.a8 X.S.length X.c8, .slice X.a9 X.l9 X.c9, .int .i64 X.er], .int .i64 (town : Nat), .slice C L.length c] wx (WaysIs X L (town : Nat) wx)) := fun wx h => ways_yes X C c L town wx (hX.up h) (hV.up h) (by omega) (by omega) (by omega) (by omega) hP hto
  have KT : Hid (∀ E e' n m wx, Below w.heap.size w wx → IntsAt wx wx.heap.size E m → m.length ≤ 100 → m.length = n → Calls Try.prog 16 #[.agg #[.string X.nm, .slice X.a1 X.l1 X.c1, .int .i64 X.cl, .slice X.a3 X.l3 X.c3, .slice X.a4 X.l4 X.c4, .slice X.a5 X.T.length X.c5, .slice X.a6 X.l6 X.c6, .slice X.a7 X.R.length X.c7, .slice X.a8 X.S.length X.c8, .slice X.a9 X.l9 X.c9, .int .i64 X.er], .int .i64 (town : Nat), .slice C L.length c, .slice E n e'] wx (TravIs X L (town : Nat) m wx)) := fun E e' n m wx h hI h1 h2 => travelled_len X C c L town E e' n m wx (hX.up h) (hV.up h) hI hbl (by omega) h1 h2
  have KH : Hid (IntsAt w w.heap.size D l) := hD
  have h9 : l.length ≤ 8 := by omega
  have hto3 : ¬ ((town : Int) < 0) := by omega
  have hto4 : ¬ ((X.T.length : Int) ≤ (town : Int)) := by omega
  have hN10 : X.N ≤ 10 := by unfold Bs.N; omega
  clear hX hV hD hf f1 f2 f3 f4 hto hP hL hl hbl
  go_enter Try.func4, Try.ntmps4
  go_wp2_with fail
  generalize (w.alloc (.cells #[.string X.nm, .slice X.a1 X.l1 X.c1, .int .i64 X.cl, .slice X.a3 X.l3 X.c3, .slice X.a4 X.l4 X.c4, .slice X.a5 X.T.length X.c5, .slice X.a6 X.l6 X.c6, .slice X.a7 X.R.length X.c7, .slice X.a8 X.S.length X.c8, .slice X.a9 X.l9 X.c9, .int .i64 X.er] 31)) = w0 at hX0 hB0 ⊢
  go_at_call 7
  (with_reducible refine (small_any w0).mono ?_)
  rintro e1 w1 ⟨rfl, hb1⟩
  have hX1 := hX0.below hb1 (by have := hX0.lt; omega)
  have hB1 := go3 hB0 hb1
  obtain ⟨x0, x1, x2, x3, x4, x5, x6, x7, x8, x9, x10⟩ := hX1.bas
  go_wp2_with fail
  clear x0 x1 x2 x3 x4 x5 x6 x7 x8 x9 x10
  go_at_call 8
  (with_reducible refine (KF.out w1).mono ?_)
  rintro e2 w2 ⟨rfl, hb2⟩
  have hX2 := hX1.below hb2 (by have := hX1.lt; omega)
  have hB2 := go3 hB1 hb2
  obtain ⟨x0, x1, x2, x3, x4, x5, x6, x7, x8, x9, x10⟩ := hX2.bas
  go_wp2_with fail
  clear x0 x1 x2 x3 x4 x5 x6 x7 x8 x9 x10
  go_at_call 9
  (with_reducible refine (KW.out w2 hB2).mono ?_)
  rintro e3 w3 ⟨l', ok, E, c2, hw, rfl, hI3, hb3⟩
  have hX3 := hX2.below hb3 (by have := hX2.lt; omega)
  have hB3 := go3 hB2 hb3
  have H9 := Lib.hid h9
  have HN := Lib.hid hN10
  clear h9 hN10 KW KF
  cases ok
  · obtain rfl : l' = [] := by
      rcases hw with ⟨_, h, _⟩ | ⟨h, _⟩
      · exact h
      · cases h
    have hneg := Lib.hid (ways_no_walk hNn hw (by omega) l)
    clear hw
    obtain ⟨x0, x1, x2, x3, x4, x5, x6, x7, x8, x9, x10⟩ := hX3.bas
    go_wp2_with fail
    clear x0 x1 x2 x3 x4 x5 x6 x7 x8 x9 x10
    go_at_call 16
    (with_reducible refine (KT.out _ _ 0 [] w3 hB3 hI3 (by simp) rfl).mono ?_)
    rintro e4 w4 ⟨rfl, hb4⟩
    have hX4 := hX3.below hb4 (by have := hX3.lt; omega)
    have hB4 := go3 hB3 hb4
    generalize travS X.N X.l3 X.T.length (vsOf L) X.R (town : Nat) (intsOf []) = q4
    generalize travS X.N X.l3 X.T.length (vsOf L) X.R (town : Nat) [] = q5
    obtain ⟨x0, x1, x2, x3, x4, x5, x6, x7, x8, x9, x10⟩ := hX4.bas
    go_wp2_with fail
    clear x0 x1 x2 x3 x4 x5 x6 x7 x8 x9 x10
    go_at_call 16
    (with_reducible refine (KT.out _ _ _ l w4 hB4 (ints_up KH.out hB4) (by have := H9.out; omega) rfl).mono ?_)
    rintro e5 w5 ⟨rfl, hb5⟩
    have hB5 := go3 hB4 hb5
    have hneg := hneg.out
    generalize travS X.N X.l3 X.T.length (vsOf L) X.R (town : Nat) l = q6 at hneg ⊢
    go_wp2_with fail
    go_ret
    exact ⟨rfl, hB5⟩
  · obtain ⟨hnd, hlen, hpos, hmin⟩ := ways_walk hNn hw
    have hmin := Lib.hid (hmin l)
    have Hlen := Lib.hid hlen
    have Hnd := Lib.hid hnd
    clear hw hnd hlen
    obtain ⟨x0, x1, x2, x3, x4, x5, x6, x7, x8, x9, x10⟩ := hX3.bas
    go_wp2_with fail
    clear x0 x1 x2 x3 x4 x5 x6 x7 x8 x9 x10
    go_at_call 16
    (with_reducible refine (KT.out _ _ _ (intsOf l') w3 hB3 hI3 (by have := Hlen.out; have := HN.out; unfold intsOf; rw [List.length_map]; omega) (by unfold intsOf; rw [List.length_map])).mono ?_)
    rintro e4 w4 ⟨rfl, hb4⟩
    have hX4 := hX3.below hb4 (by have := hX3.lt; omega)
    have hB4 := go3 hB3 hb4
    have hI4 := ints_up hI3 hb4
    have hmin := hmin.out
    generalize travS X.N X.l3 X.T.length (vsOf L) X.R (town : Nat) (intsOf l') = q4 at hpos hmin ⊢
    have hpos' : ¬ (q4 < 0) := by omega
    have hmin := Lib.hid hmin
    obtain ⟨x0, x1, x2, x3, x4, x5, x6, x7, x8, x9, x10⟩ := hX4.bas
    go_wp2_with fail
    clear x0 x1 x2 x3 x4 x5 x6 x7 x8 x9 x10
    go_at_call 17
    (with_reducible refine (repeated_no _ _ _ l' w4 hI4 (by have := Hlen.out; have := HN.out; omega) Hnd.out rfl).mono ?_)
    rintro e5 w5 ⟨rfl, hb5⟩
    have hX5 := hX4.below hb5 (by have := hX4.lt; omega)
    have hB5 := go3 hB4 hb5
    obtain ⟨x0, x1, x2, x3, x4, x5, x6, x7, x8, x9, x10⟩ := hX5.bas
    go_wp2_with fail
    clear x0 x1 x2 x3 x4 x5 x6 x7 x8 x9 x10
    go_at_call 16
    (with_reducible refine (KT.out _ _ _ l w5 hB5 (ints_up KH.out hB5) (by have := H9.out; omega) rfl).mono ?_)
    rintro e6 w6 ⟨rfl, hb6⟩
    have hB6 := go3 hB5 hb6
    have hmin := hmin.out
    generalize travS X.N X.l3 X.T.length (vsOf L) X.R (town : Nat) l = q6 at hmin ⊢
    by_cases h6 : q6 < 0
    · clear hmin
      go_wp2_with fail
      go_ret
      exact ⟨rfl, hB6⟩
    · have hle : q4 ≤ q6 := hmin (by omega)
      clear hmin
      go_wp2_with fail
      go_ret
      exact ⟨rfl, hB6⟩
theorem ways_law (X : Bs) (C : Option Addr) (c : Nat) (L : List Vl) (town : Int) (D : Option Addr) (d : Nat) (l : List Int) (w : World) (hX : BsAt w w.heap.size X) (hV : VlsAt w w.heap.size C L) (hD : IntsAt w w.heap.size D l) (hL : L.length ≤ 9223372036854775807) (hl : l.length ≤ 9223372036854775807) (hP : X.l3 ≤ 9223372036854775807) :
    Calls Try.prog 4 #[.agg #[.string X.nm, .slice X.a1 X.l1 X.c1, .int .i64 X.cl, .slice X.a3 X.l3 X.c3, .slice X.a4 X.l4 X.c4, .slice X.a5 X.T.length X.c5, .slice X.a6 X.l6 X.c6, .slice X.a7 X.R.length X.c7, .slice X.a8 X.S.length X.c8, .slice X.a9 X.l9 X.c9, .int .i64 X.er], .int .i64 town, .slice C L.length c, .slice D l.length d] w (TrueIs w) := by
  by_cases hf : fewB X L.length = true
  · by_cases h8 : 8 < l.length
    · exact ways_l2 X C c L town D d l w hX hV hD hL hl hP hf h8
    · by_cases h0 : town < 0
      · exact ways_l3 X C c L town D d l w hX hV hD hL hl hP hf h8 h0
      · obtain ⟨k, rfl⟩ := Int.eq_ofNat_of_zero_le (show 0 ≤ town by omega)
        by_cases h1 : X.T.length ≤ k
        · exact ways_l4 X C c L k D d l w hX hV hD hL hl hP hf h8 h1
        · exact ways_l5 X C c L k D d l w hX hV hD hL hl hP hf h8 (by omega)
  · exact ways_l1 X C c L town D d l w hX hV hD hL hl hP (by simpa using hf)
end Go.Proofs.Ytphebdmdbnpokaa
