/- The walk of RoadTells: true, whatever the basin. (Printed by gen_lt.py.) -/
import Derived.Deep.Cut
import Derived.Test.YtphebdmdbnpokaaLW
import Derived.Test.YtphebdmdbnpokaaT5
import Derived.Test.YtphebdmdbnpokaaT6
set_option linter.unusedSimpArgs false
set_option linter.unusedVariables false
namespace Go.Proofs.Ytphebdmdbnpokaa
open Go.RowKit RD FM
theorem ways_len {N P nT : Nat} {VS : Vs} {R : List Rd} {town : Int} {l : List Nat} {ok : Bool} (hN : nT ≤ N) (h : WayR N P nT VS R town l ok) : l.length ≤ N := by
  rcases h with ⟨_, rfl, _⟩ | ⟨rfl, h1, h2, h3⟩
  · exact Nat.zero_le _
  · obtain ⟨k, rfl⟩ := Int.eq_ofNat_of_zero_le h1
    exact (ways_walk hN (.inr ⟨rfl, h1, h2, h3⟩)).2.1
theorem ints_is (C D : Option Addr) (c d : Nat) (l : List Int) (n : Nat) (w : World) (hC : IntsAt w w.heap.size C l) (hD : IntsAt w w.heap.size D l) (hl : l.length ≤ 1000000) (hn : l.length = n) :
    Calls Try.prog 13 #[.slice C n c, .slice D n d] w (TrueIs w) := ints_eq C D c d n l w hC hD hl hn
set_option maxRecDepth 100000 in
set_option maxHeartbeats 16000000 in
theorem tells_l1 (X : Bs) (C : Option Addr) (c : Nat) (L : List Vl) (town r : Int) (D : Option Addr) (d : Nat) (l : List Int) (hours : Int) (w : World) (hX : BsAt w w.heap.size X) (hV : VlsAt w w.heap.size C L) (hD : IntsAt w w.heap.size D l) (hL : L.length ≤ 9223372036854775807) (hl : l.length ≤ 9223372036854775807) (hP : X.l3 ≤ 9223372036854775807) (hf : fewB X L.length = false) :
    Calls Try.prog 3 #[.agg #[.string X.nm, .slice X.a1 X.l1 X.c1, .int .i64 X.cl, .slice X.a3 X.l3 X.c3, .slice X.a4 X.l4 X.c4, .slice X.a5 X.T.length X.c5, .slice X.a6 X.l6 X.c6, .slice X.a7 X.R.length X.c7, .slice X.a8 X.S.length X.c8, .slice X.a9 X.l9 X.c9, .int .i64 X.er], .int .i64 town, .int .i64 r, .slice C L.length c, .slice D l.length d, .int .i64 hours] w (TrueIs w) := by
  have hB0 : Below w.heap.size w (w.alloc (.cells #[.string X.nm, .slice X.a1 X.l1 X.c1, .int .i64 X.cl, .slice X.a3 X.l3 X.c3, .slice X.a4 X.l4 X.c4, .slice X.a5 X.T.length X.c5, .slice X.a6 X.l6 X.c6, .slice X.a7 X.R.length X.c7, .slice X.a8 X.S.length X.c8, .slice X.a9 X.l9 X.c9, .int .i64 X.er] 31)) := (Below.refl _ _).alloc (Nat.le_refl _) _
  have hX0 : Box (w.alloc (.cells #[.string X.nm, .slice X.a1 X.l1 X.c1, .int .i64 X.cl, .slice X.a3 X.l3 X.c3, .slice X.a4 X.l4 X.c4, .slice X.a5 X.T.length X.c5, .slice X.a6 X.l6 X.c6, .slice X.a7 X.R.length X.c7, .slice X.a8 X.S.length X.c8, .slice X.a9 X.l9 X.c9, .int .i64 X.er] 31)) w.heap.size #[.string X.nm, .slice X.a1 X.l1 X.c1, .int .i64 X.cl, .slice X.a3 X.l3 X.c3, .slice X.a4 X.l4 X.c4, .slice X.a5 X.T.length X.c5, .slice X.a6 X.l6 X.c6, .slice X.a7 X.R.length X.c7, .slice X.a8 X.S.length X.c8, .slice X.a9 X.l9 X.c9, .int .i64 X.er] 31 := Box.new w _ _
  have KF : Hid (∀ wx, Calls Try.prog 8 #[.agg #[.string X.nm, .slice X.a1 X.l1 X.c1, .int .i64 X.cl, .slice X.a3 X.l3 X.c3, .slice X.a4 X.l4 X.c4, .slice X.a5 X.T.length X.c5, .slice X.a6 X.l6 X.c6, .slice X.a7 X.R.length X.c7, .slice X.a8 X.S.length X.c8, .slice X.a9 X.l9 X.c9, .int .i64 X.er], .slice C L.length c] wx (fun e w' => e = .returned (.bool false) ∧ Below wx.heap.size wx w')) := fun wx => (few_any X C L.length c wx hL).mono fun e w' ⟨he, hb⟩ => ⟨by rw [he, hf], hb⟩
  clear hX hV hD hf
  go_enter Try.func3, Try.ntmps3
  go_wp2_with fail
  generalize (w.alloc (.cells #[.string X.nm, .slice X.a1 X.l1 X.c1, .int .i64 X.cl, .slice X.a3 X.l3 X.c3, .slice X.a4 X.l4 X.c4, .slice X.a5 X.T.length X.c5, .slice X.a6 X.l6 X.c6, .slice X.a7 X.R.length X.c7, .slice X.a8 X.S.length X.c8, .slice X.a9 X.l9 X.c9, .int .i64 X.er] 31)) = w0 at hX0 hB0 ⊢
  go_at_call 7
  (with_reducible refine (small_any w0).mono ?_)
  rintro e1 w1 ⟨rfl, hb1⟩
  have hX1 := hX0.below hb1 (by have := hX0.lt; omega)
  have hB1 := go3 hB0 hb1
  obtain ⟨x0, x1, x2, x3, x4, x5, x6, x7, x8, x9, x10⟩ := hX1.bas
  go_wp2_with fail
  clear x0 x1 x2 x3 x4 x5 x6 x7 x8 x9 x10
  go_at_call 8
  (with_reducible refine (KF.out w1).mono ?_)
  rintro e2 w2 ⟨rfl, hb2⟩
  have hX2 := hX1.below hb2 (by have := hX1.lt; omega)
  have hB2 := go3 hB1 hb2
  obtain ⟨x0, x1, x2, x3, x4, x5, x6, x7, x8, x9, x10⟩ := hX2.bas
  go_wp2_with fail
  clear x0 x1 x2 x3 x4 x5 x6 x7 x8 x9 x10
  go_ret
  exact ⟨rfl, hB2⟩
set_option maxRecDepth 100000 in
set_option maxHeartbeats 16000000 in
theorem tells_l2 (X : Bs) (C : Option Addr) (c : Nat) (L : List Vl) (town r : Int) (D : Option Addr) (d : Nat) (l : List Int) (hours : Int) (w : World) (hX : BsAt w w.heap.size X) (hV : VlsAt w w.heap.size C L) (hD : IntsAt w w.heap.size D l) (hL : L.length ≤ 9223372036854775807) (hl : l.length ≤ 9223372036854775807) (hP : X.l3 ≤ 9223372036854775807) (hf : fewB X L.length = true) :
    Calls Try.prog 3 #[.agg #[.string X.nm, .slice X.a1 X.l1 X.c1, .int .i64 X.cl, .slice X.a3 X.l3 X.c3, .slice X.a4 X.l4 X.c4, .slice X.a5 X.T.length X.c5, .slice X.a6 X.l6 X.c6, .slice X.a7 X.R.length X.c7, .slice X.a8 X.S.length X.c8, .slice X.a9 X.l9 X.c9, .int .i64 X.er], .int .i64 town, .int .i64 r, .slice C L.length c, .slice D l.length d, .int .i64 hours] w (TrueIs w) := by
  have hB0 : Below w.heap.size w (w.alloc (.cells #[.string X.nm, .slice X.a1 X.l1 X.c1, .int .i64 X.cl, .slice X.a3 X.l3 X.c3, .slice X.a4 X.l4 X.c4, .slice X.a5 X.T.length X.c5, .slice X.a6 X.l6 X.c6, .slice X.a7 X.R.length X.c7, .slice X.a8 X.S.length X.c8, .slice X.a9 X.l9 X.c9, .int .i64 X.er] 31)) := (Below.refl _ _).alloc (Nat.le_refl _) _
  have hX0 : Box (w.alloc (.cells #[.string X.nm, .slice X.a1 X.l1 X.c1, .int .i64 X.cl, .slice X.a3 X.l3 X.c3, .slice X.a4 X.l4 X.c4, .slice X.a5 X.T.length X.c5, .slice X.a6 X.l6 X.c6, .slice X.a7 X.R.length X.c7, .slice X.a8 X.S.length X.c8, .slice X.a9 X.l9 X.c9, .int .i64 X.er] 31)) w.heap.size #[.string X.nm, .slice X.a1 X.l1 X.c1, .int .i64 X.cl, .slice X.a3 X.l3 X.c3, .slice X.a4 X.l4 X.c4, .slice X.a5 X.T.length X.c5, .slice X.a6 X.l6 X.c6, .slice X.a7 X.R.length X.c7, .slice X.a8 X.S.length X.c8, .slice X.a9 X.l9 X.c9, .int .i64 X.er] 31 := Box.new w _ _
  have KF : Hid (∀ wx, Calls Try.prog 8 #[.agg #[.string X.nm, .slice X.a1 X.l1 X.c1, .int .i64 X.cl, .slice X.a3 X.l3 X.c3, .slice X.a4 X.l4 X.c4, .slice X.a5 X.T.length X.c5, .slice X.a6 X.l6 X.c6, .slice X.a7 X.R.length X.c7, .slice X.a8 X.S.length X.c8, .slice X.a9 X.l9 X.c9, .int .i64 X.er], .slice C L.length c] wx (fun e w' => e = .returned (.bool true) ∧ Below wx.heap.size wx w')) := fun wx => (few_any X C L.length c wx hL).mono fun e w' ⟨he, hb⟩ => ⟨by rw [he, hf], hb⟩
  obtain ⟨f1, f2, f3, f4⟩ := few_is hf
  have hbl : BsLen X := ⟨by omega, by omega, by omega, hP⟩
  have hNn : X.T.length ≤ X.N := by unfold Bs.N; omega
  have hN10 : X.N ≤ 10 := by unfold Bs.N; omega
  have KW : Hid (∀ wx, Below w.heap.size w wx → Calls Try.prog 9 #[.agg #[.string X.nm, .slice X.a1 X.l1 X.c1, .int .i64 X.cl, .slice X.a3 X.l3 X.c3, .slice X.a4 X.l4 X.c4, .slice X.a5 X.T.length X.c5, .slice X.a6 X.l6 X.c6, .slice X.a7 X.R.length X.c7, .slice X.a8 X.S.length X.c8, .slice X.a9 X.l9 X.c9, .int .i64 X.er], .int .i64 town, .slice C L.length c] wx (WaysIs X L town wx)) := fun wx h => by
    by_cases h0 : town < 0
    · exact ways_no X C c L town wx (by omega) (.inl h0)
    · obtain ⟨k, rfl⟩ := Int.eq_ofNat_of_zero_le (show 0 ≤ town by omega)
      by_cases h1 : X.T.length ≤ k
      · exact ways_no X C c L k wx (by omega) (.inr (by omega))
      · exact ways_yes X C c L k wx (hX.up h) (hV.up h) (by omega) (by omega) (by omega) (by omega) hP (by omega)
  have KX : Hid (∀ wx, Below w.heap.size w wx → Calls Try.prog 10 #[.agg #[.string X.nm, .slice X.a1 X.l1 X.c1, .int .i64 X.cl, .slice X.a3 X.l3 X.c3, .slice X.a4 X.l4 X.c4, .slice X.a5 X.T.length X.c5, .slice X.a6 X.l6 X.c6, .slice X.a7 X.R.length X.c7, .slice X.a8 X.S.length X.c8, .slice X.a9 X.l9 X.c9, .int .i64 X.er], .int .i64 town, .slice C L.length c] wx (WaysIs X L town wx)) := fun wx h => by
    by_cases h0 : town < 0
    · exact rways_no X C c L town wx (by omega) (.inl h0)
    · obtain ⟨k, rfl⟩ := Int.eq_ofNat_of_zero_le (show 0 ≤ town by omega)
      by_cases h1 : X.T.length ≤ k
      · exact rways_no X C c L k wx (by omega) (.inr (by omega))
      · exact rways_yes X C c L k wx (hX.up h) (hV.up h) (by omega) (by omega) (by omega) (by omega) hP (by omega)
  have KR : Hid (∀ wx, Below w.heap.size w wx → Calls Try.prog 11 #[.agg #[.string X.nm, .slice X.a1 X.l1 X.c1, .int .i64 X.cl, .slice X.a3 X.l3 X.c3, .slice X.a4 X.l4 X.c4, .slice X.a5 X.T.length X.c5, .slice X.a6 X.l6 X.c6, .slice X.a7 X.R.length X.c7, .slice X.a8 X.S.length X.c8, .slice X.a9 X.l9 X.c9, .int .i64 X.er], .slice D l.length d, .int .i64 hours] wx (RoomIs X l hours wx)) := fun wx h => room_any X D d l hours wx (hX.up h) (ints_up hD h) hl (by omega) (by omega) (by omega) hP
  have KS : Hid (∀ wx, Below w.heap.size w wx → Calls Try.prog 12 #[.agg #[.string X.nm, .slice X.a1 X.l1 X.c1, .int .i64 X.cl, .slice X.a3 X.l3 X.c3, .slice X.a4 X.l4 X.c4, .slice X.a5 X.T.length X.c5, .slice X.a6 X.l6 X.c6, .slice X.a7 X.R.length X.c7, .slice X.a8 X.S.length X.c8, .slice X.a9 X.l9 X.c9, .int .i64 X.er], .slice D l.length d, .int .i64 hours] wx (RoomIs X l hours wx)) := fun wx h => rroom_any X D d l hours wx (hX.up h) (ints_up hD h) hl (by omega) (by omega) (by omega) hP
  have KO : Hid (∀ wx, Below w.heap.size w wx → Calls Try.prog 14 #[.agg #[.string X.nm, .slice X.a1 X.l1 X.c1, .int .i64 X.cl, .slice X.a3 X.l3 X.c3, .slice X.a4 X.l4 X.c4, .slice X.a5 X.T.length X.c5, .slice X.a6 X.l6 X.c6, .slice X.a7 X.R.length X.c7, .slice X.a8 X.S.length X.c8, .slice X.a9 X.l9 X.c9, .int .i64 X.er], .int .i64 r, .slice D l.length d] wx (OpenIs X r l wx)) := fun wx h => open_any X r D d l wx (hX.up h).r (ints_up hD h) hl hbl
  have KP : Hid (∀ wx, Below w.heap.size w wx → Calls Try.prog 15 #[.agg #[.string X.nm, .slice X.a1 X.l1 X.c1, .int .i64 X.cl, .slice X.a3 X.l3 X.c3, .slice X.a4 X.l4 X.c4, .slice X.a5 X.T.length X.c5, .slice X.a6 X.l6 X.c6, .slice X.a7 X.R.length X.c7, .slice X.a8 X.S.length X.c8, .slice X.a9 X.l9 X.c9, .int .i64 X.er], .int .i64 r, .slice D l.length d] wx (OpenIs X r l wx)) := fun wx h => ropen_any X r D d l wx (hX.up h).r (ints_up hD h) hl hbl
  have Hin : Hid (inN (X.N + 2) (roomNet X l hours)) := fun a ha => by
    have := net_mem (P := X.l3) (N := X.N) rfl (fun r h => opB_us h) (limH_bd hours).1 (limH_bd hours).2 ha
    omega
  unfold OpenIs at KO KP
  obtain ⟨p, hp⟩ : ∃ p, openB X.N X.l3 X.R r l = p := ⟨_, rfl⟩
  rw [hp] at KO KP
  have HN10 := Lib.hid hN10
  have HNn := Lib.hid hNn
  clear hX hV hD hf f1 f2 f3 f4 hbl hNn hN10 hp
  go_enter Try.func3, Try.ntmps3
  go_wp2_with fail
  generalize (w.alloc (.cells #[.string X.nm, .slice X.a1 X.l1 X.c1, .int .i64 X.cl, .slice X.a3 X.l3 X.c3, .slice X.a4 X.l4 X.c4, .slice X.a5 X.T.length X.c5, .slice X.a6 X.l6 X.c6, .slice X.a7 X.R.length X.c7, .slice X.a8 X.S.length X.c8, .slice X.a9 X.l9 X.c9, .int .i64 X.er] 31)) = w0 at hX0 hB0 ⊢
  go_at_call 7
  (with_reducible refine (small_any w0).mono ?_)
  rintro e1 w1 ⟨rfl, hb1⟩
  have hX1 := hX0.below hb1 (by have := hX0.lt; omega)
  have hB1 := go3 hB0 hb1
  obtain ⟨x0, x1, x2, x3, x4, x5, x6, x7, x8, x9, x10⟩ := hX1.bas
  go_wp2_with fail
  clear x0 x1 x2 x3 x4 x5 x6 x7 x8 x9 x10
  go_at_call 8
  (with_reducible refine (KF.out w1).mono ?_)
  rintro e2 w2 ⟨rfl, hb2⟩
  have hX2 := hX1.below hb2 (by have := hX1.lt; omega)
  have hB2 := go3 hB1 hb2
  obtain ⟨x0, x1, x2, x3, x4, x5, x6, x7, x8, x9, x10⟩ := hX2.bas
  go_wp2_with fail
  clear x0 x1 x2 x3 x4 x5 x6 x7 x8 x9 x10
  go_at_call 9
  (with_reducible refine (KW.out w2 hB2).mono ?_)
  rintro e3 w3 ⟨l1, ok1, E1, c1, hw1, rfl, hI1, hb3⟩
  have hX3 := hX2.below hb3 (by have := hX2.lt; omega)
  have hB3 := go3 hB2 hb3
  have Hw1 := Lib.hid hw1
  have HI1 := Lib.hid hI1
  clear hw1 hI1
  obtain ⟨x0, x1, x2, x3, x4, x5, x6, x7, x8, x9, x10⟩ := hX3.bas
  go_wp2_with fail
  clear x0 x1 x2 x3 x4 x5 x6 x7 x8 x9 x10
  go_at_call 10
  (with_reducible refine (KX.out w3 hB3).mono ?_)
  rintro e4 w4 ⟨l2, ok2, E2, c2, hw2, rfl, hI2, hb4⟩
  have hX4 := hX3.below hb4 (by have := hX3.lt; omega)
  have hB4 := go3 hB3 hb4
  obtain ⟨rfl, rfl⟩ := WayR.uniq Hw1.out hw2
  have hI1b := ints_up HI1.out hb4
  have hll : l1.length ≤ 10 := by have := ways_len HNn.out hw2; have := HN10.out; omega
  have hlm : (intsOf l1).length = l1.length := by unfold intsOf; rw [List.length_map]
  obtain ⟨m1, hm1⟩ : ∃ m, m = intsOf l1 := ⟨_, rfl⟩
  rw [← hm1] at hI1b hI2 hlm
  obtain ⟨n1, hn1⟩ : ∃ n, n = l1.length := ⟨_, rfl⟩
  rw [← hn1] at hlm hll ⊢
  have HI1b := Lib.hid hI1b
  have HI2 := Lib.hid hI2
  have Hlm := Lib.hid hlm
  clear Hw1 hw2 HI1 hI1b hI2 hm1 hn1 hlm
  obtain ⟨x0, x1, x2, x3, x4, x5, x6, x7, x8, x9, x10⟩ := hX4.bas
  go_wp2_with fail
  clear x0 x1 x2 x3 x4 x5 x6 x7 x8 x9 x10
  go_at_call 11
  (with_reducible refine (KR.out w4 hB4).mono ?_)
  rintro e5 w5 ⟨f, v, Q, G1, g1, rfl, hM1, _, _, hJ1, hb5⟩
  have hX5 := hX4.below hb5 (by have := hX4.lt; omega)
  have hB5 := go3 hB4 hb5
  have HM1 := Lib.hid hM1
  have HJ1 := Lib.hid hJ1
  have HI1c := Lib.hid (ints_up HI1b.out hb5)
  have HI2c := Lib.hid (ints_up HI2.out hb5)
  clear hM1 hJ1 HI1b HI2
  obtain ⟨x0, x1, x2, x3, x4, x5, x6, x7, x8, x9, x10⟩ := hX5.bas
  go_wp2_with fail
  clear x0 x1 x2 x3 x4 x5 x6 x7 x8 x9 x10
  go_at_call 12
  (with_reducible refine (KS.out w5 hB5).mono ?_)
  rintro e6 w6 ⟨f2, v2, Q2, G2, g2, rfl, hM2, _, _, hJ2, hb6⟩
  have hX6 := hX5.below hb6 (by have := hX5.lt; omega)
  have hB6 := go3 hB5 hb6
  obtain ⟨ev, eQ⟩ := MaxOf.same Hin.out (by omega) (by omega) hM2 HM1.out
  subst ev eQ
  have HJ1b := ints_up HJ1.out hb6
  have HI1d := ints_up HI1c.out hb6
  have HI2d := ints_up HI2c.out hb6
  have hl2 : (townsOf X.T.length (FL.sideL (X.N + 2) Q2)).length ≤ 100 := by
    have h1 := townsOf_len X.T.length (FL.sideL (X.N + 2) Q2)
    have h2 := FL.sideL_len (X.N + 2) Q2
    have := HN10.out; omega
  obtain ⟨m2, hm2⟩ : ∃ m, m = townsOf X.T.length (FL.sideL (X.N + 2) Q2) := ⟨_, rfl⟩
  rw [← hm2] at HJ1b hJ2 hl2 ⊢
  obtain ⟨n2, hn2⟩ : ∃ n, m2.length = n := ⟨_, rfl⟩
  rw [hn2] at hl2 ⊢
  have Hn2 := Lib.hid hn2
  have HJ1 := Lib.hid HJ1b
  have HJ2 := Lib.hid hJ2
  have HI1 := Lib.hid HI1d
  have HI2 := Lib.hid HI2d
  clear HM1 hM2 hJ2 HJ1b HI1d HI2d HI1c HI2c hm2 hn2
  clear hX0 hX1 hX2 hX3 hX4 hX5 hB1 hB2 hB3 hB4 hB5 hb1 hb2 hb3 hb4 hb5 hb6 hB0
  obtain ⟨W, hW⟩ : ∃ W, W = w6 := ⟨_, rfl⟩
  rw [← hW] at hX6 hB6 HJ1 HJ2 HI1 HI2 ⊢
  clear hW
  have hwz := hX6.lt
  have HI1d : IntsAt W.drew W.drew.heap.size E1 m1 := HI1.out
  have HI2d : IntsAt W.drew W.drew.heap.size E2 m1 := HI2.out
  have HJ1d : IntsAt W W.heap.size G1 m2 := HJ1.out
  have HJ2d : IntsAt W W.heap.size G2 m2 := HJ2.out
  obtain ⟨x0, x1, x2, x3, x4, x5, x6, x7, x8, x9, x10⟩ := hX6.bas
  go_wp2_with fail
  refine Plan.wp_region_tree (.rd 0 (.rd 1 (.rd 2 (.rd 3 (.wr 4 (.rd 5 (.rd 6 (.rd 7 (.rd 8 (.rd 9 (.rd 10 (.rd 11 (.rd 12 (.rd 13 (.rd 14 (.rd 15 (.rd 16 (.rd 17 (.rd 18 (.wr 19 (.rd 20 (.rd 21 (.rd 22 (.rd 23 (.rd 24 (.rd 26 (.rd 27 (.rd 28 (.wr 25 (.wr 29 (.rd 30 (.rd 31 (.rd 32 .done))))))))))))))))))))))))))))))))) (by kernel_rfl) (by kernel_rfl) ?_
  (repeat (first | (refine Plan.tree_read (v := ?_) rfl rfl ?_ ?_; rotate_left; (focus ((intro wS hSw; have hkS := (bcell hSw).1; go_simp); try with_reducible rfl)); simp only [Act.put, List.setIfInBounds_toArray, List.set_cons_zero, List.set_cons_succ]) | (refine Plan.tree_skip rfl rfl ?_; simp only [Act.put, List.setIfInBounds_toArray, List.set_cons_zero, List.set_cons_succ])))
  (refine Plan.tree_write rfl (fun K hK => ?_); try go_simp)
  go_at_call 13
  (with_reducible refine (ints_is E1 E2 _ _ m1 n1 W.drew HI1d HI2d (by have := Hlm.out; omega) Hlm.out).mono ?_)
  rintro e21 w21 ⟨rfl, hb21⟩
  have k21 : Below W.heap.size W w21 := (Below.refl W.heap.size W).drew.trans (hb21.mono (Below.refl W.heap.size W).drew.size)
  (refine hK.out _ _ (k21) ?_; clear hK K; try simp only [Act.put, List.setIfInBounds_toArray, List.set_cons_zero, List.set_cons_succ])
  (repeat (first | (refine Plan.tree_read (v := ?_) rfl rfl ?_ ?_; rotate_left; (focus ((intro wS hSw; have hkS := (bcell hSw).1; go_simp); try with_reducible rfl)); simp only [Act.put, List.setIfInBounds_toArray, List.set_cons_zero, List.set_cons_succ]) | (refine Plan.tree_skip rfl rfl ?_; simp only [Act.put, List.setIfInBounds_toArray, List.set_cons_zero, List.set_cons_succ])))
  (refine Plan.tree_write rfl (fun K hK => ?_); try go_simp)
  go_at_call 13
  (with_reducible refine (ints_is G1 G2 _ _ m2 n2 w21 (ints_up HJ1d k21) (ints_up HJ2d k21) (by have := Hn2.out; omega) Hn2.out).mono ?_)
  rintro e22 w22 ⟨rfl, hb22⟩
  have k22 : Below W.heap.size W w22 := k21.trans (hb22.mono k21.size)
  (refine hK.out _ _ (k22) ?_; clear hK K; try simp only [Act.put, List.setIfInBounds_toArray, List.set_cons_zero, List.set_cons_succ])
  (repeat (first | (refine Plan.tree_read (v := ?_) rfl rfl ?_ ?_; rotate_left; (focus ((intro wS hSw; have hkS := (bcell hSw).1; go_simp); try with_reducible rfl)); simp only [Act.put, List.setIfInBounds_toArray, List.set_cons_zero, List.set_cons_succ]) | (refine Plan.tree_skip rfl rfl ?_; simp only [Act.put, List.setIfInBounds_toArray, List.set_cons_zero, List.set_cons_succ])))
  (refine Plan.tree_write rfl (fun K hK => ?_); try go_simp)
  go_at_call 14
  (with_reducible refine (KO.out w22 (hB6.trans (k22.mono hB6.size))).mono ?_)
  rintro e23 w23 ⟨rfl, hb23⟩
  have k23 : Below W.heap.size W w23 := k22.trans (hb23.mono k22.size)
  (refine hK.out _ _ (k23) ?_; clear hK K; try simp only [Act.put, List.setIfInBounds_toArray, List.set_cons_zero, List.set_cons_succ])
  (repeat (first | (refine Plan.tree_read (v := ?_) rfl rfl ?_ ?_; rotate_left; (focus ((intro wS hSw; have hkS := (bcell hSw).1; go_simp); try with_reducible rfl)); simp only [Act.put, List.setIfInBounds_toArray, List.set_cons_zero, List.set_cons_succ]) | (refine Plan.tree_skip rfl rfl ?_; simp only [Act.put, List.setIfInBounds_toArray, List.set_cons_zero, List.set_cons_succ])))
  (refine Plan.tree_write rfl (fun K hK => ?_); try go_simp)
  go_at_call 15
  (with_reducible refine (KP.out w23 (hB6.trans (k23.mono hB6.size))).mono ?_)
  rintro e24 w24 ⟨rfl, hb24⟩
  have k24 : Below W.heap.size W w24 := k23.trans (hb24.mono k23.size)
  (refine hK.out _ _ (k24) ?_; clear hK K; try simp only [Act.put, List.setIfInBounds_toArray, List.set_cons_zero, List.set_cons_succ])
  (repeat (first | (refine Plan.tree_read (v := ?_) rfl rfl ?_ ?_; rotate_left; (focus ((intro wS hSw; have hkS := (bcell hSw).1; go_simp); try with_reducible rfl)); simp only [Act.put, List.setIfInBounds_toArray, List.set_cons_zero, List.set_cons_succ]) | (refine Plan.tree_skip rfl rfl ?_; simp only [Act.put, List.setIfInBounds_toArray, List.set_cons_zero, List.set_cons_succ])))
  refine Plan.tree_done ?_
  go_wp2_with fail
  go_ret
  exact ⟨rfl, hB6.trans (k24.mono hB6.size)⟩
theorem tells_law (X : Bs) (C : Option Addr) (c : Nat) (L : List Vl) (town r : Int) (D : Option Addr) (d : Nat) (l : List Int) (hours : Int) (w : World) (hX : BsAt w w.heap.size X) (hV : VlsAt w w.heap.size C L) (hD : IntsAt w w.heap.size D l) (hL : L.length ≤ 9223372036854775807) (hl : l.length ≤ 9223372036854775807) (hP : X.l3 ≤ 9223372036854775807) :
    Calls Try.prog 3 #[.agg #[.string X.nm, .slice X.a1 X.l1 X.c1, .int .i64 X.cl, .slice X.a3 X.l3 X.c3, .slice X.a4 X.l4 X.c4, .slice X.a5 X.T.length X.c5, .slice X.a6 X.l6 X.c6, .slice X.a7 X.R.length X.c7, .slice X.a8 X.S.length X.c8, .slice X.a9 X.l9 X.c9, .int .i64 X.er], .int .i64 town, .int .i64 r, .slice C L.length c, .slice D l.length d, .int .i64 hours] w (TrueIs w) := by
  by_cases hf : fewB X L.length = true
  · exact tells_l2 X C c L town r D d l hours w hX hV hD hL hl hP hf
  · exact tells_l1 X C c L town r D d l hours w hX hV hD hL hl hP (by simpa using hf)
end Go.Proofs.Ytphebdmdbnpokaa
