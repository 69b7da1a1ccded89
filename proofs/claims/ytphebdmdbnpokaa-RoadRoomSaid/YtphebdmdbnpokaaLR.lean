/- Joined of: LR. -/
import Derived.Deep.Cut
import Derived.Test.YtphebdmdbnpokaaG02
import Derived.Test.YtphebdmdbnpokaaLW
import Derived.Test.YtphebdmdbnpokaaN2
/- The walk of RoadRoom: true, whatever the basin. (Printed by gen_lr.py.) -/
set_option linter.unusedSimpArgs false
set_option linter.unusedVariables false
namespace Go.Proofs.Ytphebdmdbnpokaa
open Go.RowKit RD FM
attribute [local go_sem] alloc_drewN setCell_drewN shape_drewN
theorem people_snoc {T : List Tn} {k : Nat} {t : Tn} (h : T[k]? = some t) : people (T.take (k + 1)) = people (T.take k) + lim t.people := by
  rw [take_snoc_at h]; simp [people]
theorem rooms_snoc {T : List Sh} {k : Nat} {t : Sh} (h : T[k]? = some t) : rooms (T.take (k + 1)) = rooms (T.take k) + lim t.room := by
  rw [take_snoc_at h]; simp [rooms]
theorem people_bd : ∀ (T : List Tn), 0 ≤ people T ∧ people T ≤ T.length * 1073741824
  | [] => by simp [people]
  | t :: T => by
    have ih := people_bd T
    have := lim_bd t.people
    have e : people (t :: T) = lim t.people + people T := by simp [people]
    rw [e, List.length_cons]; omega
theorem rooms_bd : ∀ (T : List Sh), 0 ≤ rooms T ∧ rooms T ≤ T.length * 1073741824
  | [] => by simp [rooms]
  | t :: T => by
    have ih := rooms_bd T
    have := lim_bd t.room
    have e : rooms (t :: T) = lim t.room + rooms T := by simp [rooms]
    rw [e, List.length_cons]; omega
theorem limH_mono {a b : Int} (h : a ≤ b) : limH a ≤ limH b := by unfold limH; omega
theorem ints_of_row {w : World} {base c : Nat} {o : Option Nat} {l : List Int} (h : w.ownsRow base 3 1 (.slice (ad o) l.length c) l.length (l.map (Value.int .i64))) : IntsAt w w.heap.size (ad o) l := by
  intro h0
  obtain ⟨g, hg, _, hgl, hcell⟩ := RevRow.get (l := l) h h0
  exact ⟨g, 0, by rw [hg]; rfl, hgl, fun j hj => by rw [Nat.zero_add]; exact (hcell j hj).1⟩
theorem bas58 {w : World} {b : Nat} {X : Bs} {a5 a8 : Option Addr} {t : TypeId} (h : Box w b #[.string X.nm, .slice X.a1 X.l1 X.c1, .int .i64 X.cl, .slice X.a3 X.l3 X.c3, .slice X.a4 X.l4 X.c4, .slice a5 X.T.length X.c5, .slice X.a6 X.l6 X.c6, .slice X.a7 X.R.length X.c7, .slice a8 X.S.length X.c8, .slice X.a9 X.l9 X.c9, .int .i64 X.er] t) : w.cell? ⟨b, 0, none⟩ = some (.string X.nm) ∧ w.cell? ⟨b, 1, none⟩ = some (.slice X.a1 X.l1 X.c1) ∧ w.cell? ⟨b, 2, none⟩ = some (.int .i64 X.cl) ∧ w.cell? ⟨b, 3, none⟩ = some (.slice X.a3 X.l3 X.c3) ∧ w.cell? ⟨b, 4, none⟩ = some (.slice X.a4 X.l4 X.c4) ∧ w.cell? ⟨b, 5, none⟩ = some (.slice a5 X.T.length X.c5) ∧
    w.cell? ⟨b, 6, none⟩ = some (.slice X.a6 X.l6 X.c6) ∧ w.cell? ⟨b, 7, none⟩ = some (.slice X.a7 X.R.length X.c7) ∧ w.cell? ⟨b, 8, none⟩ = some (.slice a8 X.S.length X.c8) ∧ w.cell? ⟨b, 9, none⟩ = some (.slice X.a9 X.l9 X.c9) ∧ w.cell? ⟨b, 10, none⟩ = some (.int .i64 X.er) := ⟨h.cell rfl, h.cell rfl, h.cell rfl, h.cell rfl, h.cell rfl, h.cell rfl, h.cell rfl, h.cell rfl, h.cell rfl, h.cell rfl, h.cell rfl⟩
set_option maxRecDepth 100000 in
set_option maxHeartbeats 16000000 in
theorem rroom_l1 (X : Bs) (C : Option Addr) (c : Nat) (V : List Int) (hours more : Int) (w : World) (hX : BsAt w w.heap.size X) (hV : IntsAt w w.heap.size C V) (hVl : V.length ≤ 9223372036854775807) (hP : X.l3 ≤ 9223372036854775807) (hf : fewB X 0 = false) :
    Calls Try.prog 6 #[.agg #[.string X.nm, .slice X.a1 X.l1 X.c1, .int .i64 X.cl, .slice X.a3 X.l3 X.c3, .slice X.a4 X.l4 X.c4, .slice X.a5 X.T.length X.c5, .slice X.a6 X.l6 X.c6, .slice X.a7 X.R.length X.c7, .slice X.a8 X.S.length X.c8, .slice X.a9 X.l9 X.c9, .int .i64 X.er], .slice C V.length c, .int .i64 hours, .int .i64 more] w (TrueIs w) := by
  have hB0 : Below w.heap.size w (w.alloc (.cells #[.string X.nm, .slice X.a1 X.l1 X.c1, .int .i64 X.cl, .slice X.a3 X.l3 X.c3, .slice X.a4 X.l4 X.c4, .slice X.a5 X.T.length X.c5, .slice X.a6 X.l6 X.c6, .slice X.a7 X.R.length X.c7, .slice X.a8 X.S.length X.c8, .slice X.a9 X.l9 X.c9, .int .i64 X.er] 31)) := (Below.refl _ _).alloc (Nat.le_refl _) _
  have hX0 : Box (w.alloc (.cells #[.string X.nm, .slice X.a1 X.l1 X.c1, .int .i64 X.cl, .slice X.a3 X.l3 X.c3, .slice X.a4 X.l4 X.c4, .slice X.a5 X.T.length X.c5, .slice X.a6 X.l6 X.c6, .slice X.a7 X.R.length X.c7, .slice X.a8 X.S.length X.c8, .slice X.a9 X.l9 X.c9, .int .i64 X.er] 31)) w.heap.size #[.string X.nm, .slice X.a1 X.l1 X.c1, .int .i64 X.cl, .slice X.a3 X.l3 X.c3, .slice X.a4 X.l4 X.c4, .slice X.a5 X.T.length X.c5, .slice X.a6 X.l6 X.c6, .slice X.a7 X.R.length X.c7, .slice X.a8 X.S.length X.c8, .slice X.a9 X.l9 X.c9, .int .i64 X.er] 31 := Box.new w _ _
  have KF : Hid (∀ wx, Calls Try.prog 8 #[.agg #[.string X.nm, .slice X.a1 X.l1 X.c1, .int .i64 X.cl, .slice X.a3 X.l3 X.c3, .slice X.a4 X.l4 X.c4, .slice X.a5 X.T.length X.c5, .slice X.a6 X.l6 X.c6, .slice X.a7 X.R.length X.c7, .slice X.a8 X.S.length X.c8, .slice X.a9 X.l9 X.c9, .int .i64 X.er], .slice none 0 0] wx (fun e w' => e = .returned (.bool false) ∧ Below wx.heap.size wx w')) := fun wx => (few_any X none 0 0 wx (by decide)).mono fun e w' ⟨he, hb⟩ => ⟨by rw [he, hf], hb⟩
  clear hX hV hf
  go_enter Try.func6, Try.ntmps6
  go_wp2_with fail
  generalize (w.alloc (.cells #[.string X.nm, .slice X.a1 X.l1 X.c1, .int .i64 X.cl, .slice X.a3 X.l3 X.c3, .slice X.a4 X.l4 X.c4, .slice X.a5 X.T.length X.c5, .slice X.a6 X.l6 X.c6, .slice X.a7 X.R.length X.c7, .slice X.a8 X.S.length X.c8, .slice X.a9 X.l9 X.c9, .int .i64 X.er] 31)) = w0 at hX0 hB0 ⊢
  go_at_call 7
  (with_reducible refine (small_any w0).mono ?_)
  rintro e1 w1 ⟨rfl, hb1⟩
  have hX1 := hX0.below hb1 (by have := hX0.lt; omega)
  have hB1 := go3 hB0 hb1
  obtain ⟨x0, x1, x2, x3, x4, x5, x6, x7, x8, x9, x10⟩ := hX1.bas
  go_wp2_with fail
  clear x0 x1 x2 x3 x4 x5 x6 x7 x8 x9 x10
  go_at_call 8
  (with_reducible refine (KF.out w1).mono ?_)
  rintro e2 w2 ⟨rfl, hb2⟩
  have hX2 := hX1.below hb2 (by have := hX1.lt; omega)
  have hB2 := go3 hB1 hb2
  obtain ⟨x0, x1, x2, x3, x4, x5, x6, x7, x8, x9, x10⟩ := hX2.bas
  go_wp2_with fail
  clear x0 x1 x2 x3 x4 x5 x6 x7 x8 x9 x10
  go_ret
  exact ⟨rfl, hB2⟩
set_option maxRecDepth 100000 in
set_option maxHeartbeats 16000000 in
theorem rroom_l2 (X : Bs) (C : Option Addr) (c : Nat) (V : List Int) (hours more : Int) (w : World) (hX : BsAt w w.heap.size X) (hV : IntsAt w w.heap.size C V) (hVl : V.length ≤ 9223372036854775807) (hP : X.l3 ≤ 9223372036854775807) (hf : fewB X 0 = true) (hlt : more < hours) :
    Calls Try.prog 6 #[.agg #[.string X.nm, .slice X.a1 X.l1 X.c1, .int .i64 X.cl, .slice X.a3 X.l3 X.c3, .slice X.a4 X.l4 X.c4, .slice X.a5 X.T.length X.c5, .slice X.a6 X.l6 X.c6, .slice X.a7 X.R.length X.c7, .slice X.a8 X.S.length X.c8, .slice X.a9 X.l9 X.c9, .int .i64 X.er], .slice C V.length c, .int .i64 hours, .int .i64 more] w (TrueIs w) := by
  have hB0 : Below w.heap.size w (w.alloc (.cells #[.string X.nm, .slice X.a1 X.l1 X.c1, .int .i64 X.cl, .slice X.a3 X.l3 X.c3, .slice X.a4 X.l4 X.c4, .slice X.a5 X.T.length X.c5, .slice X.a6 X.l6 X.c6, .slice X.a7 X.R.length X.c7, .slice X.a8 X.S.length X.c8, .slice X.a9 X.l9 X.c9, .int .i64 X.er] 31)) := (Below.refl _ _).alloc (Nat.le_refl _) _
  have hX0 : Box (w.alloc (.cells #[.string X.nm, .slice X.a1 X.l1 X.c1, .int .i64 X.cl, .slice X.a3 X.l3 X.c3, .slice X.a4 X.l4 X.c4, .slice X.a5 X.T.length X.c5, .slice X.a6 X.l6 X.c6, .slice X.a7 X.R.length X.c7, .slice X.a8 X.S.length X.c8, .slice X.a9 X.l9 X.c9, .int .i64 X.er] 31)) w.heap.size #[.string X.nm, .slice X.a1 X.l1 X.c1, .int .i64 X.cl, .slice X.a3 X.l3 X.c3, .slice X.a4 X.l4 X.c4, .slice X.a5 X.T.length X.c5, .slice X.a6 X.l6 X.c6, .slice X.a7 X.R.length X.c7, .slice X.a8 X.S.length X.c8, .slice X.a9 X.l9 X.c9, .int .i64 X.er] 31 := Box.new w _ _
  have KF : Hid (∀ wx, Calls Try.prog 8 #[.agg #[.string X.nm, .slice X.a1 X.l1 X.c1, .int .i64 X.cl, .slice X.a3 X.l3 X.c3, .slice X.a4 X.l4 X.c4, .slice X.a5 X.T.length X.c5, .slice X.a6 X.l6 X.c6, .slice X.a7 X.R.length X.c7, .slice X.a8 X.S.length X.c8, .slice X.a9 X.l9 X.c9, .int .i64 X.er], .slice none 0 0] wx (fun e w' => e = .returned (.bool true) ∧ Below wx.heap.size wx w')) := fun wx => (few_any X none 0 0 wx (by decide)).mono fun e w' ⟨he, hb⟩ => ⟨by rw [he, hf], hb⟩
  clear hX hV hf
  go_enter Try.func6, Try.ntmps6
  go_wp2_with fail
  generalize (w.alloc (.cells #[.string X.nm, .slice X.a1 X.l1 X.c1, .int .i64 X.cl, .slice X.a3 X.l3 X.c3, .slice X.a4 X.l4 X.c4, .slice X.a5 X.T.length X.c5, .slice X.a6 X.l6 X.c6, .slice X.a7 X.R.length X.c7, .slice X.a8 X.S.length X.c8, .slice X.a9 X.l9 X.c9, .int .i64 X.er] 31)) = w0 at hX0 hB0 ⊢
  go_at_call 7
  (with_reducible refine (small_any w0).mono ?_)
  rintro e1 w1 ⟨rfl, hb1⟩
  have hX1 := hX0.below hb1 (by have := hX0.lt; omega)
  have hB1 := go3 hB0 hb1
  obtain ⟨x0, x1, x2, x3, x4, x5, x6, x7, x8, x9, x10⟩ := hX1.bas
  go_wp2_with fail
  clear x0 x1 x2 x3 x4 x5 x6 x7 x8 x9 x10
  go_at_call 8
  (with_reducible refine (KF.out w1).mono ?_)
  rintro e2 w2 ⟨rfl, hb2⟩
  have hX2 := hX1.below hb2 (by have := hX1.lt; omega)
  have hB2 := go3 hB1 hb2
  obtain ⟨x0, x1, x2, x3, x4, x5, x6, x7, x8, x9, x10⟩ := hX2.bas
  go_wp2_with fail
  clear x0 x1 x2 x3 x4 x5 x6 x7 x8 x9 x10
  go_ret
  exact ⟨rfl, hB2⟩
set_option maxRecDepth 100000 in
set_option maxHeartbeats 16000000 in
theorem rroom_l3 (X : Bs) (C : Option Addr) (c : Nat) (V : List Int) (hours more : Int) (w : World) (hX : BsAt w w.heap.size X) (hV : IntsAt w w.heap.size C V) (hVl : V.length ≤ 9223372036854775807) (hP : X.l3 ≤ 9223372036854775807) (hf : fewB X 0 = true) (hle : ¬ more < hours) :
    Calls Try.prog 6 #[.agg #[.string X.nm, .slice X.a1 X.l1 X.c1, .int .i64 X.cl, .slice X.a3 X.l3 X.c3, .slice X.a4 X.l4 X.c4, .slice X.a5 X.T.length X.c5, .slice X.a6 X.l6 X.c6, .slice X.a7 X.R.length X.c7, .slice X.a8 X.S.length X.c8, .slice X.a9 X.l9 X.c9, .int .i64 X.er], .slice C V.length c, .int .i64 hours, .int .i64 more] w (TrueIs w) := by
  obtain ⟨i1, gi, gz0, gz1, gz2⟩ := info_parts infoInt
  obtain ⟨f1, f2, f3, f4⟩ := few_is hf
  have KF : Hid (∀ wx, Calls Try.prog 8 #[.agg #[.string X.nm, .slice X.a1 X.l1 X.c1, .int .i64 X.cl, .slice X.a3 X.l3 X.c3, .slice X.a4 X.l4 X.c4, .slice X.a5 X.T.length X.c5, .slice X.a6 X.l6 X.c6, .slice X.a7 X.R.length X.c7, .slice X.a8 X.S.length X.c8, .slice X.a9 X.l9 X.c9, .int .i64 X.er], .slice none 0 0] wx (fun e w' => e = .returned (.bool true) ∧ Below wx.heap.size wx w')) := fun wx => (few_any X none 0 0 wx (by decide)).mono fun e w' ⟨he, hb⟩ => ⟨by rw [he, hf], hb⟩
  obtain ⟨N, hN⟩ : ∃ N, N = X.N := ⟨_, rfl⟩
  have hNs : N = X.T.length + X.S.length := hN
  have hN1 : (X.T.length : Int) + (X.S.length : Int) = (N : Int) := by omega
  have hNb : N ≤ 10 := by omega
  obtain ⟨B, hB⟩ : ∃ B, B = roomNet X V hours := ⟨_, rfl⟩
  have hin : inN (N + 2) B := fun a ha => by
    rw [hB] at ha
    have := net_mem (rfl : X.N = X.T.length + X.S.length) (fun r h => opB_us h) (limH_bd hours).1 (limH_bd hours).2 ha
    rw [hN]; omega
  have KR : Hid (∀ wx, Below w.heap.size w wx → Calls Try.prog 11 #[.agg #[.string X.nm, .slice X.a1 X.l1 X.c1, .int .i64 X.cl, .slice X.a3 X.l3 X.c3, .slice X.a4 X.l4 X.c4, .slice X.a5 X.T.length X.c5, .slice X.a6 X.l6 X.c6, .slice X.a7 X.R.length X.c7, .slice X.a8 X.S.length X.c8, .slice X.a9 X.l9 X.c9, .int .i64 X.er], .slice C V.length c, .int .i64 hours] wx (RoomIs X V hours wx)) := fun wx h => room_any X C c V hours wx (hX.up h) (ints_up hV h) hVl (by omega) (by omega) (by omega) hP
  have KR2 : Hid (∀ wx, Below w.heap.size w wx → Calls Try.prog 11 #[.agg #[.string X.nm, .slice X.a1 X.l1 X.c1, .int .i64 X.cl, .slice X.a3 X.l3 X.c3, .slice X.a4 X.l4 X.c4, .slice X.a5 X.T.length X.c5, .slice X.a6 X.l6 X.c6, .slice X.a7 X.R.length X.c7, .slice X.a8 X.S.length X.c8, .slice X.a9 X.l9 X.c9, .int .i64 X.er], .slice C V.length c, .int .i64 more] wx (RoomIs X V more wx)) := fun wx h => room_any X C c V more wx (hX.up h) (ints_up hV h) hVl (by omega) (by omega) (by omega) hP
  have KN : Hid (∀ wx, Below w.heap.size w wx → Calls Try.prog 18 #[.agg #[.string X.nm, .slice X.a1 X.l1 X.c1, .int .i64 X.cl, .slice X.a3 X.l3 X.c3, .slice X.a4 X.l4 X.c4, .slice X.a5 X.T.length X.c5, .slice X.a6 X.l6 X.c6, .slice X.a7 X.R.length X.c7, .slice X.a8 X.S.length X.c8, .slice X.a9 X.l9 X.c9, .int .i64 X.er], .slice C V.length c, .int .i64 hours] wx (fun e w' => ∃ D cc, e = .returned (.slice D B.length cc) ∧ FL.ArcsAt w' w'.heap.size D B ∧ Below wx.heap.size wx w')) := fun wx h => by rw [hB]; exact network_any X C c V hours wx (hX.up h) (ints_up hV h) hVl (by omega) (by omega) (by omega) hP
  have KM : Hid (∀ D cc wx, FL.ArcsAt wx wx.heap.size D B → Calls Try.prog 19 #[.int .i64 ((N : Int) + 2), .slice D B.length cc, .int .i64 (N : Int), .int .i64 ((N : Int) + 1)] wx (FL.MaxYes wx (N + 2) B (N : Int) ((N : Int) + 1))) := fun D cc wx hC => by
    have := FL.max_yes (N + 2) N (N + 1) D cc B wx hC (by rw [hB, hN]; exact net_valid (by omega) (by omega) (by omega))
    rw [show ((N + 2 : Nat) : Int) = (N : Int) + 2 by omega, show ((N + 1 : Nat) : Int) = (N : Int) + 1 by omega] at this
    exact this
  have hmono : ∀ f v Q f' v' Q', MaxOf (X.N + 2) (roomNet X V hours) X.N ((X.N : Int) + 1) f v Q → MaxOf (X.N + 2) (roomNet X V more) X.N ((X.N : Int) + 1) f' v' Q' → v ≤ v' := fun _ _ _ _ _ _ m m' => net_mono (rfl : X.N = X.T.length + X.S.length) (fun r h => h) (fun r h => opB_us h) (limH_bd hours).1 (limH_mono (by omega)) (limH_bd more).2 m m'
  have hbds : ∀ f v Q, MaxOf (X.N + 2) (roomNet X V hours) X.N ((X.N : Int) + 1) f v Q → v ≤ people X.T ∧ v ≤ rooms X.S := fun _ _ _ m => net_bounds (rfl : X.N = X.T.length + X.S.length) (fun r h => opB_us h) (limH_bd hours).1 (limH_bd hours).2 m
  rw [← hB, ← hN] at hmono hbds
  unfold RoomIs at KR KR2
  rw [← hB, ← hN] at KR
  rw [← hN] at KR2
  have hXt := hX.t
  have hXs := hX.s
  obtain ⟨a5, ha5⟩ : ∃ a, X.a5 = a := ⟨_, rfl⟩
  obtain ⟨a8, ha8⟩ : ∃ a, X.a8 = a := ⟨_, rfl⟩
  rw [ha5] at hXt
  rw [ha8] at hXs
  rw [ha5, ha8] at KF KR KR2 KN
  rw [ha5, ha8]
  have HXt := Lib.hid hXt
  have HXs := Lib.hid hXs
  have Hmono := Lib.hid hmono
  have Hbds := Lib.hid hbds
  have Hin := Lib.hid hin
  clear hX hV hf hVl hP f4 hN hNs hB hin hmono hbds hXt hXs ha5 ha8
  have hB0 : Below w.heap.size w (w.alloc (.cells #[.string X.nm, .slice X.a1 X.l1 X.c1, .int .i64 X.cl, .slice X.a3 X.l3 X.c3, .slice X.a4 X.l4 X.c4, .slice a5 X.T.length X.c5, .slice X.a6 X.l6 X.c6, .slice X.a7 X.R.length X.c7, .slice a8 X.S.length X.c8, .slice X.a9 X.l9 X.c9, .int .i64 X.er] 31)) := (Below.refl _ _).alloc (Nat.le_refl _) _
  have hX0 : Box (w.alloc (.cells #[.string X.nm, .slice X.a1 X.l1 X.c1, .int .i64 X.cl, .slice X.a3 X.l3 X.c3, .slice X.a4 X.l4 X.c4, .slice a5 X.T.length X.c5, .slice X.a6 X.l6 X.c6, .slice X.a7 X.R.length X.c7, .slice a8 X.S.length X.c8, .slice X.a9 X.l9 X.c9, .int .i64 X.er] 31)) w.heap.size #[.string X.nm, .slice X.a1 X.l1 X.c1, .int .i64 X.cl, .slice X.a3 X.l3 X.c3, .slice X.a4 X.l4 X.c4, .slice a5 X.T.length X.c5, .slice X.a6 X.l6 X.c6, .slice X.a7 X.R.length X.c7, .slice a8 X.S.length X.c8, .slice X.a9 X.l9 X.c9, .int .i64 X.er] 31 := Box.new w _ _
  go_enter Try.func6, Try.ntmps6
  go_wp2_with fail
  generalize (w.alloc (.cells #[.string X.nm, .slice X.a1 X.l1 X.c1, .int .i64 X.cl, .slice X.a3 X.l3 X.c3, .slice X.a4 X.l4 X.c4, .slice a5 X.T.length X.c5, .slice X.a6 X.l6 X.c6, .slice X.a7 X.R.length X.c7, .slice a8 X.S.length X.c8, .slice X.a9 X.l9 X.c9, .int .i64 X.er] 31)) = w0 at hX0 hB0 ⊢
  go_at_call 7
  (with_reducible refine (small_any w0).mono ?_)
  rintro e1 w1 ⟨rfl, hb1⟩
  have hX1 := hX0.below hb1 (by have := hX0.lt; omega)
  have hB1 := go3 hB0 hb1
  obtain ⟨x0, x1, x2, x3, x4, x5, x6, x7, x8, x9, x10⟩ := bas58 hX1
  go_wp2_with fail
  clear x0 x1 x2 x3 x4 x5 x6 x7 x8 x9 x10
  go_at_call 8
  (with_reducible refine (KF.out w1).mono ?_)
  rintro e2 w2 ⟨rfl, hb2⟩
  have hX2 := hX1.below hb2 (by have := hX1.lt; omega)
  have hB2 := go3 hB1 hb2
  obtain ⟨x0, x1, x2, x3, x4, x5, x6, x7, x8, x9, x10⟩ := bas58 hX2
  go_wp2_with fail
  clear x0 x1 x2 x3 x4 x5 x6 x7 x8 x9 x10
  clear KF
  go_at_call 11
  (with_reducible refine (KR.out w2 hB2).mono ?_)
  rintro e3 w3 ⟨f5, v3, Q3, C3, c3, rfl, hm3, g3, g4, hI3, hb3⟩
  have hX3 := hX2.below hb3 (by have := hX2.lt; omega)
  have hB3 := go3 hB2 hb3
  have hb3v := Hbds.out _ _ _ hm3
  obtain ⟨l3, hl3⟩ : ∃ l, l = townsOf X.T.length (FL.sideL (N + 2) Q3) := ⟨_, rfl⟩
  rw [← hl3] at hI3 ⊢
  have HM3 := Lib.hid hm3
  have HI3 := Lib.hid hI3
  have Hl3 := Lib.hid hl3
  clear hm3 hI3 hl3
  obtain ⟨x0, x1, x2, x3, x4, x5, x6, x7, x8, x9, x10⟩ := bas58 hX3
  go_wp2_with fail
  clear x0 x1 x2 x3 x4 x5 x6 x7 x8 x9 x10
  go_at_call 11
  (with_reducible refine (KR2.out w3 hB3).mono ?_)
  rintro e4 w4 ⟨f6, v4, Q4, C4, c4, rfl, hm4, g5, g6, _, hb4⟩
  have hX4 := hX3.below hb4 (by have := hX3.lt; omega)
  have hB4 := go3 hB3 hb4
  have hv34 := Hmono.out _ _ _ _ _ _ HM3.out hm4
  have HI4 := Lib.hid (ints_up HI3.out hb4)
  obtain ⟨n4, hn4⟩ : ∃ n, n = (townsOf X.T.length (FL.sideL (N + 2) Q4)).length := ⟨_, rfl⟩
  rw [← hn4]
  clear hm4 hn4 HI3 Hmono Hbds KR KR2
  obtain ⟨x0, x1, x2, x3, x4, x5, x6, x7, x8, x9, x10⟩ := bas58 hX4
  go_wp2_with fail
  clear x0 x1 x2 x3 x4 x5 x6 x7 x8 x9 x10
  go_loopw [14, 15] (fun pv kv wr => ∃ k, k ≤ X.T.length ∧ kv = .int .i64 (k : Nat) ∧ pv = .int .i64 (people (X.T.take k)) ∧ Box wr w.heap.size #[.string X.nm, .slice X.a1 X.l1 X.c1, .int .i64 X.cl, .slice X.a3 X.l3 X.c3, .slice X.a4 X.l4 X.c4, .slice a5 X.T.length X.c5, .slice X.a6 X.l6 X.c6, .slice X.a7 X.R.length X.c7, .slice a8 X.S.length X.c8, .slice X.a9 X.l9 X.c9, .int .i64 X.er] 31 ∧ Below w4.heap.size w4 wr) (fun _ kv _ => X.T.length - (intOf kv).toNat)
  case atStart => exact ⟨0, Nat.zero_le _, rfl, rfl, hX4, Below.refl _ _⟩
  case round =>
    clear hX0 hX1 hX2 hX3 hX4 hB0 hB1 hB2 hB3 hb1 hb2 hb3 hb4
    obtain ⟨k, hk, rfl, rfl, hBx, hBr⟩ := hrel
    have hwz := hBx.lt
    have hBw : Below w.heap.size w wr := go3 hB4 hBr
    have x5 : wr.cell? ⟨w.heap.size, 5, none⟩ = some (.slice a5 X.T.length X.c5) := hBx.cell rfl
    by_cases hlt : k < X.T.length
    · obtain ⟨t, ht⟩ : ∃ t, X.T[k]? = some t := ⟨_, List.getElem?_eq_getElem hlt⟩
      obtain ⟨b, off, ec, hb, _, _, _, _, c4, _, _⟩ := town_at (HXt.out.below hBw) ht
      subst ec
      have hsn := people_snoc ht
      have hbd := people_bd (X.T.take k)
      have hln : (X.T.take k).length ≤ 6 := by rw [List.length_take]; omega
      obtain ⟨s, hs⟩ : ∃ s, people (X.T.take k) = s := ⟨_, rfl⟩
      rw [hs] at hsn hbd ⊢
      have hs0 : 0 ≤ s ∧ s ≤ 6442450944 := by omega
      obtain ⟨m, hm⟩ : ∃ m, max t.people 0 = m := ⟨_, rfl⟩
      obtain ⟨q, hq⟩ : ∃ q, min m 1073741824 = q := ⟨_, rfl⟩
      have h1 : (if t.people < 0 then 0 else t.people) = m := by split <;> omega
      have h2 : (if (1073741824 : Int) < m then 1073741824 else m) = q := by split <;> omega
      have hr : lim t.people = q := by unfold lim; rw [hm, hq]
      have hq0 : 0 ≤ q ∧ q ≤ 1073741824 := by omega
      rw [hr] at hsn
      have Hsn := Lib.hid hsn
      have HBx := Lib.hid hBx
      obtain ⟨hs1, hs2⟩ := hs0
      obtain ⟨hq1, hq2⟩ := hq0
      clear ht hsn hbd hln hs hm hq hr hBx
      go_wp2_with fail
      go_roundw
      case rel => exact ⟨k + 1, by omega, by go_num, by rw [Hsn.out], HBx.out, hBr⟩
      case measure => simp [intOf]; omega
    · obtain rfl : X.T.length = k := by omega
      have hBx0 := Lib.hid hBx
      have HB4 := Lib.hid hB4
      have HI5 := Lib.hid (ints_up HI4.out hBr)
      rw [List.take_length]
      have hpb := people_bd X.T
      obtain ⟨pp, hpp⟩ : ∃ p, people X.T = p := ⟨_, rfl⟩
      rw [hpp] at hb3v hpb ⊢
      obtain ⟨w5, hw5⟩ : ∃ x, x = wr := ⟨_, rfl⟩
      rw [← hw5] at hBx0 HI5 hBw x5 hwz ⊢
      clear hBx hlt hk hpp hBr hB4 HB4 HI4 hw5
      go_wp2_with fail
      clear x5
      go_loopw [16, 17] (fun pv kv wr => ∃ k, k ≤ X.S.length ∧ kv = .int .i64 (k : Nat) ∧ pv = .int .i64 (rooms (X.S.take k)) ∧ Box wr w.heap.size #[.string X.nm, .slice X.a1 X.l1 X.c1, .int .i64 X.cl, .slice X.a3 X.l3 X.c3, .slice X.a4 X.l4 X.c4, .slice a5 X.T.length X.c5, .slice X.a6 X.l6 X.c6, .slice X.a7 X.R.length X.c7, .slice a8 X.S.length X.c8, .slice X.a9 X.l9 X.c9, .int .i64 X.er] 31 ∧ Below w5.heap.size w5 wr) (fun _ kv _ => X.S.length - (intOf kv).toNat)
      case atStart => exact ⟨0, Nat.zero_le _, rfl, rfl, hBx0.out, Below.refl _ _⟩
      case round =>
        clear hBx0 hwz
        obtain ⟨k, hk, rfl, rfl, hBx, hBr⟩ := hrel
        have hwz := hBx.lt
        have hB5 := Lib.hid hBw
        replace hBw : Below w.heap.size w wr := go3 hBw hBr
        have x8 : wr.cell? ⟨w.heap.size, 8, none⟩ = some (.slice a8 X.S.length X.c8) := hBx.cell rfl
        by_cases hlt : k < X.S.length
        · obtain ⟨t, ht⟩ : ∃ t, X.S[k]? = some t := ⟨_, List.getElem?_eq_getElem hlt⟩
          obtain ⟨b, off, ec, hb, _, c4⟩ := sh_at (HXs.out.below hBw) ht
          subst ec
          have hsn := rooms_snoc ht
          have hbd := rooms_bd (X.S.take k)
          have hln : (X.S.take k).length ≤ 4 := by rw [List.length_take]; omega
          obtain ⟨s, hs⟩ : ∃ s, rooms (X.S.take k) = s := ⟨_, rfl⟩
          rw [hs] at hsn hbd ⊢
          have hs0 : 0 ≤ s ∧ s ≤ 6442450944 := by omega
          obtain ⟨m, hm⟩ : ∃ m, max t.room 0 = m := ⟨_, rfl⟩
          obtain ⟨q, hq⟩ : ∃ q, min m 1073741824 = q := ⟨_, rfl⟩
          have h1 : (if t.room < 0 then 0 else t.room) = m := by split <;> omega
          have h2 : (if (1073741824 : Int) < m then 1073741824 else m) = q := by split <;> omega
          have hr : lim t.room = q := by unfold lim; rw [hm, hq]
          have hq0 : 0 ≤ q ∧ q ≤ 1073741824 := by omega
          rw [hr] at hsn
          have Hsn := Lib.hid hsn
          have HBx := Lib.hid hBx
          obtain ⟨hs1, hs2⟩ := hs0
          obtain ⟨hq1, hq2⟩ := hq0
          clear ht hsn hbd hln hs hm hq hr hBx
          go_wp2_with fail
          go_roundw
          case rel => exact ⟨k + 1, by omega, by go_num, by rw [Hsn.out], HBx.out, hBr⟩
          case measure => simp [intOf]; omega
        · obtain rfl : X.S.length = k := by omega
          have HI6 := Lib.hid (ints_up HI5.out hBr)
          rw [List.take_length]
          obtain ⟨rr, hrr⟩ : ∃ p, rooms X.S = p := ⟨_, rfl⟩
          rw [hrr] at hb3v ⊢
          obtain ⟨hv1, hv2⟩ := hb3v
          obtain ⟨w5, hw5⟩ : ∃ x, x = wr := ⟨_, rfl⟩
          rw [← hw5] at hBx HI6 hBw x8 hwz ⊢
          have HBx := Lib.hid hBx
          clear hlt hk hrr hBr hB5 HI5 hw5 x8
          obtain ⟨x0, x1, x2, x3, x4, x5, x6, x7, x8, x9, x10⟩ := bas58 hBx
          clear hBx
          go_wp2_with fail
          go_at_call 18
          (with_reducible refine (KN.out w5 hBw).mono ?_)
          rintro e7 w7 ⟨D7, d7, rfl, hA7, hb7⟩
          have hB7 := go3 hBw hb7
          have hX7 := HBx.out.below hb7 hwz
          have HI7 := Lib.hid (ints_up HI6.out hb7)
          have hwz7 := hX7.lt
          have y5 : w7.cell? ⟨w.heap.size, 5, none⟩ = some (.slice a5 X.T.length X.c5) := hX7.cell rfl
          have HA7 := Lib.hid hA7
          clear x0 x1 x2 x3 x4 x5 x6 x7 x8 x9 x10 HBx HI6 hwz hBw hb7 hA7 hX7
          go_wp2_with fail
          go_at_call 19
          (with_reducible refine (KM.out D7 d7 w7 HA7.out).mono ?_)
          rintro e8 w6 ⟨f8, v8, Q8, vs, rfl, hm8, _, _, ⟨ao, ca, rfl, hi⟩, hb8⟩
          obtain ⟨ev, eQ⟩ := MaxOf.same Hin.out (by omega) (by omega) hm8 HM3.out
          subst ev eQ
          have z5 := (hb8.cell (p := ⟨w.heap.size, 5, none⟩) hwz7).trans y5
          have hB8 := go3 hB7 hb8
          have HI8 := Lib.hid (ints_up HI7.out hb8)
          have hwz8 : w.heap.size < w6.heap.size := by have := hb8.size; omega
          clear hm8 HM3 HI7 y5 hwz7 hB7 hb8 HA7 Hin KM KN
          obtain ⟨l, hl⟩ : ∃ l, l = FL.sideL (N + 2) Q8 := ⟨_, rfl⟩
          have hll : l.length ≤ N + 2 := by rw [hl]; exact FL.sideL_len _ _
          rw [← hl] at hi Hl3 ⊢
          have hi := Lib.hid hi
          clear hl
          go_wp2_with fail
          go_loopw [23, 24] (fun tv kv wr => ∃ k, k ≤ l.length ∧ kv = .int .i64 (k : Nat) ∧ wr.ownsRow w6.heap.size 3 1 tv (townsOf X.T.length (l.take k)).length ((townsOf X.T.length (l.take k)).map (Value.int .i64)) ∧ Below w6.heap.size w6 wr) (fun _ kv _ => l.length - (intOf kv).toNat)
          case atStart => exact ⟨0, Nat.zero_le _, rfl, World.ownsRow_nil _ _ _ _, Below.refl _ _⟩
          case round =>
            obtain ⟨k, hk, rfl, hrow, hBr⟩ := hrel
            have hzr := hBr.size
            have y5 : wr.cell? ⟨w.heap.size, 5, none⟩ = some (.slice a5 X.T.length X.c5) := (hBr.cell (p := ⟨w.heap.size, 5, none⟩) hwz8).trans z5
            have hwr : w.heap.size < wr.heap.size := by omega
            by_cases hlt : k < l.length
            · obtain ⟨n, hn⟩ : ∃ n, l[k]? = some n := ⟨_, List.getElem?_eq_getElem hlt⟩
              obtain ⟨b, off, ec, hb, c0⟩ := ints_at (ints_below hi.out hBr) hn
              subst ec
              have hsn := townsOf_snoc X.T.length (l.take k) n
              rw [← take_snoc_at hn] at hsn
              have htl := townsOf_len X.T.length (l.take k)
              rw [List.length_take] at htl
              obtain ⟨A2, hA2⟩ : ∃ A2, A2 = townsOf X.T.length (l.take k) := ⟨_, rfl⟩
              rw [← hA2] at hrow hsn htl
              have hAb2 : A2.length ≤ 102 := by omega
              have Hsn := Lib.hid hsn
              have Hrow := Lib.hid hrow
              have hbw : b < wr.heap.size := by omega
              clear hn hsn hrow hA2 htl z5
              by_cases hnT : n < (X.T.length : Int)
              · go_wp2_with fail
                refine Plan.wp_region_below 7 [(0, true), (1, true), (2, true), (3, true), (4, true), (5, true), (6, true), (7, false)] (by kernel_rfl) (by kernel_rfl) ?_
                (repeat (first | (refine Plan.plan_read (v := ?_) rfl rfl ?_ ?_; rotate_left; (focus ((intro wS hSw; have hkS := (bcell hSw).1; try (have hkT := fun (b o : Nat) (h : b < w.heap.size) => hkS b o (by first | omega | (simp; omega) | (simp; done))); go_simp); try with_reducible rfl)); simp only [Act.put, List.setIfInBounds_toArray, List.set_cons_zero, List.set_cons_succ]) | (refine Plan.plan_skip rfl rfl ?_; simp only [Act.put, List.setIfInBounds_toArray, List.set_cons_zero, List.set_cons_succ])))
                refine Plan.plan_last rfl (fun K hK => ?_)
                go_simp
                refine hK.out _ _ ?_
                clear hK K
                try simp only [Act.put, List.setIfInBounds_toArray, List.set_cons_zero, List.set_cons_succ]
                have Hrow := Lib.hid Hrow.out
                go_wp2_with (first | (at_builtin; refine wpList_append_any _ (by rfl) _ _ 29 (by rfl) w6.heap.size 3 i1 _ 1 8 Try.underlying29 gi gz0 gz1 gz2 rfl (by decide) _ A2.length _ (by rfl) (Hrow.out.drew.alloc _) (_ + 1) (some ⟨wr.heap.size, 0, none⟩) 1 1 [.int .i64 n] (by rfl) ⟨rfl, fun _ => ⟨_, rfl, Nat.lt_succ_self _, cells_at (by rfl) _ _⟩⟩ (fun x hx => by obtain rfl := List.mem_singleton.1 hx; rfl) (by unfold maxLen; omega) (by omega) (by simp; omega) ?_; intro v' w9 hO9 hG9 hob9; replace hO9 := Lib.hid hO9; replace hG9 := Lib.hid hG9; clear hob9) | fail)
                have hG := Plan.grown_go (Plan.grown_alloc (Plan.grown_drew _ _) _) hG9.out
                go_roundw
                case rel => exact ⟨k + 1, by omega, by go_num, by
                  rw [Hsn.out, if_pos hnT, List.length_append, List.length_singleton, List.map_append]; exact hO9.out, hBr.grown hG hzr (fun g e => (Hrow.out.lt g e).1)⟩
                case measure => simp [intOf]; omega
              · go_wp2_with fail
                refine Plan.wp_region_below 7 [(0, true), (1, true), (2, true), (3, true), (4, true), (5, true), (6, true), (7, false)] (by kernel_rfl) (by kernel_rfl) ?_
                (repeat (first | (refine Plan.plan_read (v := ?_) rfl rfl ?_ ?_; rotate_left; (focus ((intro wS hSw; have hkS := (bcell hSw).1; try (have hkT := fun (b o : Nat) (h : b < w.heap.size) => hkS b o (by first | omega | (simp; omega) | (simp; done))); go_simp); try with_reducible rfl)); simp only [Act.put, List.setIfInBounds_toArray, List.set_cons_zero, List.set_cons_succ]) | (refine Plan.plan_skip rfl rfl ?_; simp only [Act.put, List.setIfInBounds_toArray, List.set_cons_zero, List.set_cons_succ])))
                refine Plan.plan_last rfl (fun K hK => ?_)
                go_simp
                refine hK.out _ _ ?_
                clear hK K
                try simp only [Act.put, List.setIfInBounds_toArray, List.set_cons_zero, List.set_cons_succ]
                go_wp2_with fail
                go_roundw
                case rel => exact ⟨k + 1, by omega, by go_num, by rw [Hsn.out, if_neg (by omega)]; exact Hrow.out.drew, hBr.drew⟩
                case measure => simp [intOf]; omega
            · obtain rfl : l.length = k := by omega
              rw [List.take_length, ← Hl3.out] at hrow
              have hl3b : l3.length ≤ 100 := by rw [Hl3.out]; have := townsOf_len X.T.length l; omega
              obtain ⟨o, cw, hwv, _⟩ := ad_of_owns hrow
              subst hwv
              have hIn := ints_of_row hrow
              have KI := Lib.hid (ints_eq C3 (ad o) c3 cw l3.length l3 wr (ints_up HI8.out hBr) hIn (by omega) rfl)
              have hBf := go3 hB8 hBr
              obtain ⟨ad', had'⟩ : ∃ x, x = ad o := ⟨_, rfl⟩
              rw [← had'] at KI ⊢
              clear hrow hIn hlt hk y5 z5 HI8 hi had'
              go_wp2_with fail
              go_at_call 13
              (with_reducible refine (KI.out).mono ?_)
              rintro e9 w9 ⟨rfl, hb9⟩
              have hB9 := go3 hBf hb9
              go_wp2_with fail
              go_ret
              exact ⟨rfl, hB9⟩
theorem rroom_law (X : Bs) (C : Option Addr) (c : Nat) (V : List Int) (hours more : Int) (w : World) (hX : BsAt w w.heap.size X) (hV : IntsAt w w.heap.size C V) (hVl : V.length ≤ 9223372036854775807) (hP : X.l3 ≤ 9223372036854775807) :
    Calls Try.prog 6 #[.agg #[.string X.nm, .slice X.a1 X.l1 X.c1, .int .i64 X.cl, .slice X.a3 X.l3 X.c3, .slice X.a4 X.l4 X.c4, .slice X.a5 X.T.length X.c5, .slice X.a6 X.l6 X.c6, .slice X.a7 X.R.length X.c7, .slice X.a8 X.S.length X.c8, .slice X.a9 X.l9 X.c9, .int .i64 X.er], .slice C V.length c, .int .i64 hours, .int .i64 more] w (TrueIs w) := by
  by_cases hf : fewB X 0 = true
  · by_cases h1 : more < hours
    · exact rroom_l2 X C c V hours more w hX hV hVl hP hf h1
    · exact rroom_l3 X C c V hours more w hX hV hVl hP hf h1
  · exact rroom_l1 X C c V hours more w hX hV hVl hP (by simpa using hf)
end Go.Proofs.Ytphebdmdbnpokaa

