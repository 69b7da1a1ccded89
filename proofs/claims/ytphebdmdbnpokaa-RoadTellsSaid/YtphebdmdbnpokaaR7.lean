/- The walk of Room. -/
import Derived.Test.YtphebdmdbnpokaaR4
import Derived.Test.YtphebdmdbnpokaaFX1
set_option linter.unusedSimpArgs false
set_option linter.unusedVariables false
namespace Go.Proofs.Ytphebdmdbnpokaa
open Go.RowKit RD FM
attribute [local go_sem] alloc_drewN setCell_drewN shape_drewN
def arcC (a : Arc) : List Value := [.int .i64 a.1, .int .i64 a.2.1, .int .i64 a.2.2]
def arcCells (A : List Arc) : List Value := A.flatMap arcC
theorem arcCells_app (A B : List Arc) : arcCells (A ++ B) = arcCells A ++ arcCells B := by simp [arcCells]
theorem arcCells_get : ∀ (A : List Arc) (j : Nat), j < A.length * 3 → (arcCells A)[j]? = some (FL.arcF A j)
  | [], j, h => by simp at h
  | a :: A, j, h => by
    match j with
    | 0 => rfl
    | 1 => rfl
    | 2 => rfl
    | j + 3 =>
      have ih := arcCells_get A j (by simp at h; omega)
      show (arcCells A)[j]? = _
      rw [ih]
      have e1 : (j + 3) % 3 = j % 3 := by omega
      have e2 : (j + 3) / 3 = j / 3 + 1 := by omega
      simp [FL.arcF, e1, e2]
theorem arcs_of_owns {w : World} {base : Nat} {v : Value} {A : List Arc} (h : w.ownsRow base 66 3 v A.length (arcCells A)) : ∃ C cc, v = .slice C A.length cc ∧ FL.ArcsAt w w.heap.size C A := by
  obtain ⟨_, ⟨rfl, h0⟩ | ⟨g, cap, cur, rfl, h2, h3, h4, h5, h6, h7⟩⟩ := h
  · exact ⟨none, 0, by rw [h0], fun hp => by omega⟩
  · refine ⟨_, cap, rfl, fun hp => ⟨g, 0, rfl, ?_, fun j hj => ?_⟩⟩
    · rcases Nat.lt_or_ge g w.heap.size with q | q
      · exact q
      · rw [Array.getElem?_eq_none q] at h3; cases h3
    · rw [Nat.zero_add, cell_of_row w g j cur 66 (0, 0) h3]
      have e := arcCells_get A j (by omega)
      rw [← h7, List.getElem?_take_of_lt (by omega)] at e
      simpa using e
theorem infoCap : (Try.prog.info? 66).map (fun i => (i.zero, i.size, i.bytes)) = some (some (.agg #[.int .i64 0, .int .i64 0, .int .i64 0]), 3, 24) := by kernel_rfl
/-- A road that counts for the network: usable, and open for volumes. -/
def opB (N P : Nat) (V : List Int) (r : Rd) : Bool := usableB N P r && passB r V
theorem opB_us {N P : Nat} {V : List Int} {r : Rd} (h : opB N P V r = true) : usableB N P r = true := by unfold opB at h; rw [Bool.and_eq_true] at h; exact h.1
/-- The towns among the nodes of a side. -/
def townsOf (nT : Nat) (l : List Int) : List Int := l.filter fun n => decide (n < (nT : Int))
theorem townsOf_snoc (nT : Nat) (l : List Int) (n : Int) : townsOf nT (l ++ [n]) = if n < (nT : Int) then townsOf nT l ++ [n] else townsOf nT l := by
  unfold townsOf
  rw [List.filter_append]
  by_cases h : n < (nT : Int)
  · rw [if_pos h]; simp [h]
  · rw [if_neg h]; simp [h]
theorem townsOf_len (nT : Nat) (l : List Int) : (townsOf nT l).length ≤ l.length := List.length_filter_le _ _
def roomNet (X : Bs) (V : List Int) (hours : Int) : List Arc := net X.N X.T X.R X.S (opB X.N X.l3 V) (limH hours)
def RoomIs (X : Bs) (V : List Int) (hours : Int) (w : World) (e : Ending) (w' : World) : Prop :=
  ∃ f v Q C c, e = .returned (.tuple #[.int .i64 v, .slice C (townsOf X.T.length (FL.sideL (X.N + 2) Q)).length c]) ∧ MaxOf (X.N + 2) (roomNet X V hours) X.N ((X.N : Int) + 1) f v Q ∧ 0 ≤ v ∧ v ≤ 4611686018427387904 ∧ IntsAt w' w'.heap.size C (townsOf X.T.length (FL.sideL (X.N + 2) Q)) ∧ Below w.heap.size w w'
theorem net_valid {X : Bs} {V : List Int} {hours : Int} (hT : X.T.length ≤ 50) (hS : X.S.length ≤ 50) (hR : X.R.length ≤ 100) : FL.Valid ((X.N + 2 : Nat) : Int) (roomNet X V hours) (X.N : Int) ((X.N + 1 : Nat) : Int) := by
  have hN : X.N = X.T.length + X.S.length := rfl
  have hl := net_len (N := X.N) (T := X.T) (R := X.R) (S := X.S) (op := opB X.N X.l3 V) (h := limH hours)
  refine ⟨by omega, by omega, by unfold roomNet; omega, fun k a ha => ?_, by omega, by omega, by omega, by omega, by omega⟩
  have := net_mem (P := X.l3) hN (fun r h => opB_us h) (limH_bd hours).1 (limH_bd hours).2 (List.mem_of_getElem? ha)
  unfold FL.good
  omega
theorem row_box {w w9 : World} {B e size n : Nat} {v : Value} {xs : List Value} {cs : Array Value} {t : TypeId} (hr : w.ownsRow (B + 1) e size v n xs) (hG : w.grownBy w9 v.ownBlock) (hx : Box w B cs t) : Box w9 B cs t :=
  hx.keep (hG.block B hx.lt (fun q => by have := (hr.lt B q.symm).1; omega))
theorem row_bel {w0 w w9 : World} {B e size n : Nat} {v : Value} {xs : List Value} (hr : w.ownsRow (B + 1) e size v n xs) (hG : w.grownBy w9 v.ownBlock) (hb : Below B w0 w) (hB : B ≤ w.heap.size) : Below B w0 w9 :=
  hb.grown hG hB (fun g q => by have := (hr.lt g q).1; omega)
theorem grown_refl (w : World) (row : Option Nat) : w.grownBy w row := ⟨rfl, rfl, rfl, Nat.le_refl _, fun _ _ _ => rfl⟩
set_option maxRecDepth 100000 in
set_option maxHeartbeats 16000000 in
theorem room_any (X : Bs) (C : Option Addr) (c : Nat) (V : List Int) (hours : Int) (w : World) (hX : BsAt w w.heap.size X) (hV : IntsAt w w.heap.size C V) (hVl : V.length ≤ 9223372036854775807) (hT : X.T.length ≤ 50) (hSl : X.S.length ≤ 50) (hR : X.R.length ≤ 100) (hP : X.l3 ≤ 9223372036854775807) :
    Calls Try.prog 11 #[.agg #[.string X.nm, .slice X.a1 X.l1 X.c1, .int .i64 X.cl, .slice X.a3 X.l3 X.c3, .slice X.a4 X.l4 X.c4, .slice X.a5 X.T.length X.c5, .slice X.a6 X.l6 X.c6, .slice X.a7 X.R.length X.c7, .slice X.a8 X.S.length X.c8, .slice X.a9 X.l9 X.c9, .int .i64 X.er], .slice C V.length c, .int .i64 hours] w (RoomIs X V hours w) := by
  obtain ⟨i1, gi, gz0, gz1, gz2⟩ := info_parts infoInt
  obtain ⟨i2, ci, cz0, cz1, cz2⟩ := info_parts infoCap
  obtain ⟨N, hN⟩ : ∃ N, N = X.N := ⟨_, rfl⟩
  have hNs : N = X.T.length + X.S.length := hN
  have hN1 : (X.T.length : Int) + (X.S.length : Int) = (N : Int) := by omega
  have hNb : N ≤ 100 := by omega
  obtain ⟨m, hm⟩ : ∃ m, max hours 0 = m := ⟨_, rfl⟩
  obtain ⟨h, hh⟩ : ∃ h, min m 24 = h := ⟨_, rfl⟩
  have e1 : (if hours < 0 then 0 else hours) = m := by split <;> omega
  have e2 : (if (24 : Int) < m then 24 else m) = h := by split <;> omega
  have hlh : limH hours = h := by unfold limH; rw [hm, hh]
  have hhb := limH_bd hours
  rw [hlh] at hhb
  obtain ⟨hh0, hh1⟩ := hhb
  have hbl : BsLen X := ⟨by omega, by omega, by omega, hP⟩
  have K1 := Lib.hid (fun (k : Nat) (hk : k < X.R.length) (wx : World) (h : Below w.heap.size w wx) => open_yes X k C c V wx ((hX.r.below h).more h.size) (ints_more (ints_below hV h) h.size) hVl hbl hk)
  unfold OpenIs at K1
  have K2 := Lib.hid (fun (n : Int) (wx : World) => limited_any n wx)
  have K3 := Lib.hid (fun (C : Option Addr) (cc : Nat) (wx : World) (hC : FL.ArcsAt wx wx.heap.size C (roomNet X V hours)) => FL.max_yes (X.N + 2) X.N (X.N + 1) C cc (roomNet X V hours) wx hC (net_valid hT hSl hR))
  obtain ⟨a5, ha5⟩ : ∃ a, X.a5 = a := ⟨_, rfl⟩
  obtain ⟨a7, ha7⟩ : ∃ a, X.a7 = a := ⟨_, rfl⟩
  obtain ⟨a8, ha8⟩ : ∃ a, X.a8 = a := ⟨_, rfl⟩
  have hXt := hX.t
  have hXr := hX.r
  have hXs := hX.s
  rw [ha5] at hXt
  rw [ha7] at hXr
  rw [ha8] at hXs
  rw [ha5, ha7, ha8] at K1
  rw [ha5, ha7, ha8]
  have HXt := Lib.hid hXt
  have HXr := Lib.hid hXr
  have HXs := Lib.hid hXs
  have HNN := Lib.hid hN
  have HNs := Lib.hid hNs
  have Hlh := Lib.hid hlh
  rw [← hN] at K3
  clear hX hV hN hNs hP hbl hXt hXr hXs ha5 ha7 ha8 hm hh hlh
  have hX0 : Box (w.alloc (.cells #[.string X.nm, .slice X.a1 X.l1 X.c1, .int .i64 X.cl, .slice X.a3 X.l3 X.c3, .slice X.a4 X.l4 X.c4, .slice a5 X.T.length X.c5, .slice X.a6 X.l6 X.c6, .slice a7 X.R.length X.c7, .slice a8 X.S.length X.c8, .slice X.a9 X.l9 X.c9, .int .i64 X.er] 31)) w.heap.size #[.string X.nm, .slice X.a1 X.l1 X.c1, .int .i64 X.cl, .slice X.a3 X.l3 X.c3, .slice X.a4 X.l4 X.c4, .slice a5 X.T.length X.c5, .slice X.a6 X.l6 X.c6, .slice a7 X.R.length X.c7, .slice a8 X.S.length X.c8, .slice X.a9 X.l9 X.c9, .int .i64 X.er] 31 := Box.new w _ _
  have hB0 : Below w.heap.size w (w.alloc (.cells #[.string X.nm, .slice X.a1 X.l1 X.c1, .int .i64 X.cl, .slice X.a3 X.l3 X.c3, .slice X.a4 X.l4 X.c4, .slice a5 X.T.length X.c5, .slice X.a6 X.l6 X.c6, .slice a7 X.R.length X.c7, .slice a8 X.S.length X.c8, .slice X.a9 X.l9 X.c9, .int .i64 X.er] 31)) := (Below.refl _ _).alloc (Nat.le_refl _) _
  go_enter Try.func11, Try.ntmps11
  go_wp2_with fail
  go_loopw [11, 48] (fun cv kv wr => ∃ k, k ≤ X.T.length ∧ kv = .int .i64 (k : Nat) ∧ wr.ownsRow (w.heap.size + 1) 66 3 cv k (arcCells (townA N 0 (X.T.take k))) ∧ Box wr w.heap.size #[.string X.nm, .slice X.a1 X.l1 X.c1, .int .i64 X.cl, .slice X.a3 X.l3 X.c3, .slice X.a4 X.l4 X.c4, .slice a5 X.T.length X.c5, .slice X.a6 X.l6 X.c6, .slice a7 X.R.length X.c7, .slice a8 X.S.length X.c8, .slice X.a9 X.l9 X.c9, .int .i64 X.er] 31 ∧ Below w.heap.size w wr) (fun _ kv _ => X.T.length - (intOf kv).toNat)
  case atStart => exact ⟨0, Nat.zero_le _, rfl, World.ownsRow_nil _ _ _ _, hX0, hB0⟩
  case round =>
    clear hX0 hB0
    obtain ⟨k, hk, rfl, hrow, hBx, hBw⟩ := hrel
    have hwz := hBx.lt
    by_cases hlt : k < X.T.length
    · obtain ⟨t, ht⟩ : ∃ t, X.T[k]? = some t := ⟨_, List.getElem?_eq_getElem hlt⟩
      obtain ⟨b, off, ec, hb, c0, c1, c2, c3, c4, c5, c6⟩ := town_at (HXt.out.below hBw) ht
      subst ec
      have hbw : b < wr.heap.size := by omega
      have Hsn := Lib.hid (townA_snoc N 0 X.T k t ht)
      have Hrow := Lib.hid hrow
      have HBx := Lib.hid hBx
      clear ht hrow hBx
      go_wp2_with (first | (go_at_call 27; (with_reducible refine (K2.out _ _).mono ?_); rintro e1 w1 ⟨rfl, rfl⟩) | (at_builtin; refine wpList_append_any _ (by rfl) _ _ 50 (by rfl) (w.heap.size + 1) 66 i2 _ 3 24 Try.underlying50 ci cz0 cz1 cz2 rfl (by decide) _ k _ (by rfl) ((Hrow.out.alloc _).alloc _) (_ + 1) (some ⟨wr.heap.size + 1, 0, none⟩) 1 1 [.int .i64 (N : Int), .int .i64 (k : Int), .int .i64 (lim t.people)] (by rfl) ⟨rfl, fun _ => ⟨_, rfl, Nat.lt_succ_self _, cells_at (by simp) _ _⟩⟩ (fun x hx => by simp at hx; rcases hx with rfl | rfl | rfl <;> rfl) (by unfold maxLen; omega) (by omega) (by simp; omega) ?_; intro v' w9 hO9 hG9 hob9; replace hO9 := Lib.hid hO9; replace hG9 := Lib.hid hG9; clear hob9) | fail)
      have hG := Plan.grown_go (Plan.grown_alloc (Plan.grown_alloc (grown_refl _ _) _) _) hG9.out
      go_roundw
      case rel => exact ⟨k + 1, by omega, by go_num, by
        rw [Hsn.out, arcCells_app, Nat.zero_add]; exact hO9.out, row_box Hrow.out hG HBx.out, row_bel Hrow.out hG hBw (by omega)⟩
      case measure => simp [intOf]; omega
    · obtain rfl : X.T.length = k := by omega
      rw [List.take_length] at hrow
      have hrow2 : wr.ownsRow (w.heap.size + 1) 66 3 u11 (X.T.length + (roadA (opB N X.l3 V) h (X.R.take 0)).length) (arcCells (townA N 0 X.T ++ roadA (opB N X.l3 V) h (X.R.take 0))) := by
        have : townA N 0 X.T ++ roadA (opB N X.l3 V) h (X.R.take 0) = townA N 0 X.T := by simp [roadA]
        rw [this]; exact hrow
      obtain ⟨w2, hw2⟩ : ∃ x, x = wr := ⟨_, rfl⟩
      rw [← hw2] at hrow2 hBx hBw hwz ⊢
      have x5 : w2.cell? ⟨w.heap.size, 5, none⟩ = some (.slice a5 X.T.length X.c5) := hBx.cell rfl
      have x7 : w2.cell? ⟨w.heap.size, 7, none⟩ = some (.slice a7 X.R.length X.c7) := hBx.cell rfl
      have x8 : w2.cell? ⟨w.heap.size, 8, none⟩ = some (.slice a8 X.S.length X.c8) := hBx.cell rfl
      replace hBx := Lib.hid hBx
      replace hrow2 := Lib.hid hrow2
      clear hrow hlt hk hw2
      go_wp2_with fail
      clear x5 x7 x8
      go_loopw [11, 66] (fun cv kv wr => ∃ k, k ≤ X.R.length ∧ kv = .int .i64 (k : Nat) ∧ wr.ownsRow (w.heap.size + 1) 66 3 cv (X.T.length + (roadA (opB N X.l3 V) h (X.R.take k)).length) (arcCells (townA N 0 X.T ++ roadA (opB N X.l3 V) h (X.R.take k))) ∧ Box wr w.heap.size #[.string X.nm, .slice X.a1 X.l1 X.c1, .int .i64 X.cl, .slice X.a3 X.l3 X.c3, .slice X.a4 X.l4 X.c4, .slice a5 X.T.length X.c5, .slice X.a6 X.l6 X.c6, .slice a7 X.R.length X.c7, .slice a8 X.S.length X.c8, .slice X.a9 X.l9 X.c9, .int .i64 X.er] 31 ∧ Below w.heap.size w wr) (fun _ kv _ => X.R.length - (intOf kv).toNat)
      case atStart => exact ⟨0, Nat.zero_le _, rfl, hrow2.out, hBx.out, hBw⟩
      case round =>
        clear hrow2 hBx hBw hwz
        obtain ⟨k, hk, rfl, hrow, hBx, hBw⟩ := hrel
        have hwz := hBx.lt
        by_cases hlt : k < X.R.length
        · obtain ⟨r, hr⟩ : ∃ r, X.R[k]? = some r := ⟨_, List.getElem?_eq_getElem hlt⟩
          obtain ⟨b, off, ec, hb, c0, c1, c2, c3, c4, c5, c6⟩ := road_at (HXr.out.below hBw) hr
          subst ec
          have hbw : b < wr.heap.size := by omega
          have x0 : wr.cell? ⟨w.heap.size, 0, none⟩ = some (.string X.nm) := hBx.cell rfl
          have x1 : wr.cell? ⟨w.heap.size, 1, none⟩ = some (.slice X.a1 X.l1 X.c1) := hBx.cell rfl
          have x2 : wr.cell? ⟨w.heap.size, 2, none⟩ = some (.int .i64 X.cl) := hBx.cell rfl
          have x3 : wr.cell? ⟨w.heap.size, 3, none⟩ = some (.slice X.a3 X.l3 X.c3) := hBx.cell rfl
          have x4 : wr.cell? ⟨w.heap.size, 4, none⟩ = some (.slice X.a4 X.l4 X.c4) := hBx.cell rfl
          have x5 : wr.cell? ⟨w.heap.size, 5, none⟩ = some (.slice a5 X.T.length X.c5) := hBx.cell rfl
          have x6 : wr.cell? ⟨w.heap.size, 6, none⟩ = some (.slice X.a6 X.l6 X.c6) := hBx.cell rfl
          have x7 : wr.cell? ⟨w.heap.size, 7, none⟩ = some (.slice (some ⟨b, off, none⟩) X.R.length X.c7) := hBx.cell rfl
          have x8 : wr.cell? ⟨w.heap.size, 8, none⟩ = some (.slice a8 X.S.length X.c8) := hBx.cell rfl
          have x9 : wr.cell? ⟨w.heap.size, 9, none⟩ = some (.slice X.a9 X.l9 X.c9) := hBx.cell rfl
          have x10 : wr.cell? ⟨w.heap.size, 10, none⟩ = some (.int .i64 X.er) := hBx.cell rfl
          obtain ⟨p, hp⟩ : ∃ p, openB X.N X.l3 X.R k V = p := ⟨_, rfl⟩
          have hop : opB N X.l3 V r = p := by rw [← hp, openB_at hr, HNN.out]; rfl
          have K1r := Lib.hid (K1.out k hlt)
          rw [hp] at K1r
          have hsn : roadA (opB N X.l3 V) h (X.R.take (k + 1)) = if p = true then roadA (opB N X.l3 V) h (X.R.take k) ++ [(r.frm, r.to_, lim r.flow * h)] else roadA (opB N X.l3 V) h (X.R.take k) := by
            rw [take_snoc_at hr, roadA_snoc, hop]
          have Hsn := Lib.hid hsn
          have hln := roadA_len (opB N X.l3 V) h (X.R.take k)
          have hln2 : (X.R.take k).length ≤ 100 := by rw [List.length_take]; omega
          obtain ⟨A, hA⟩ : ∃ A, A = roadA (opB N X.l3 V) h (X.R.take k) := ⟨_, rfl⟩
          rw [← hA] at hrow hln Hsn
          have hAb : A.length ≤ 100 := by omega
          have Hrow := Lib.hid hrow
          have HBx := Lib.hid hBx
          have hcr := cap_road (f := r.flow) hh0 hh1
          have hlb := lim_bd r.flow
          clear hr hp hop hsn hA hrow hBx hln hln2
          cases p
          · go_wp2_with (first | (go_at_call 14; (with_reducible refine (K1r.out _ (hBw.alloc (by omega) _)).mono ?_); rintro e1 w4 ⟨rfl, hb4⟩; replace hb4 := Lib.hid hb4) | fail)
            have hb5 : Below wr.heap.size wr w4 := ((Below.refl wr.heap.size wr).alloc (Nat.le_refl _) (.cells (roadC r).toArray 56)).trans (hb4.out.mono (by simp))
            go_roundw
            case rel => exact ⟨k + 1, by omega, by go_num, by rw [Hsn.out, if_neg (by simp)]; exact row_below Hrow.out hb5, HBx.out.below hb5 hwz, hBw.trans (hb5.mono (by omega))⟩
            case measure => simp [intOf]; omega
          · go_wp2_with (first | (go_at_call 14; (with_reducible refine (K1r.out _ (hBw.alloc (by omega) _)).mono ?_); rintro e1 w4 ⟨rfl, hb4⟩; replace hb4 := Lib.hid hb4) | fail)
            have hb5 : Below wr.heap.size wr w4 := ((Below.refl wr.heap.size wr).alloc (Nat.le_refl _) (.cells (roadC r).toArray 56)).trans (hb4.out.mono (by simp))
            have hr4 := (Box.new wr (roadC r).toArray 56).below hb4.out (by simp)
            obtain ⟨r0, r1, r2, r3, r4, r5, r6⟩ := hr4.road
            have hrz := hr4.lt
            have hrow4 := row_below Hrow.out hb5
            obtain ⟨o, cw, hwv, _⟩ := ad_of_owns hrow4
            subst hwv
            have ho := fun g (e : o = some g) => hrow4.lt g (by rw [ad_block]; exact e)
            have n1 : some wr.heap.size ≠ o := fun e => by have := (Hrow.out.lt wr.heap.size (by rw [ad_block]; exact e.symm)).2; omega
            have hq1 : IntKind.i64.wrap (lim r.flow * h) = lim r.flow * h := by rw [IntKind.wrap_i64]; omega
            have Hrow4 := Lib.hid hrow4
            have Ho := Lib.hid ho
            clear x0 x1 x2 x3 x4 x5 x6 x7 x8 x9 x10 c0 c1 c2 c3 c4 c5 c6 hrow4 ho hr4 K1r
            refine Plan.wp_region_plan (fun wx => w4.grownBy wx o) 13 [(0, true), (1, true), (2, true), (3, true), (4, true), (5, true), (6, true), (8, true), (7, false), (9, true), (10, true), (11, false), (12, false), (13, false)] (by kernel_rfl) (by kernel_rfl) (Plan.grown_drew _ _) ?_
            (repeat (first | (refine Plan.plan_read (v := ?_) rfl rfl ?_ ?_; rotate_left; (focus ((intro wS hSw; have hkS := Plan.grown_cells hSw; go_simp); try with_reducible rfl)); simp only [Act.put, List.setIfInBounds_toArray, List.set_cons_zero, List.set_cons_succ]) | (refine Plan.plan_skip rfl rfl ?_; simp only [Act.put, List.setIfInBounds_toArray, List.set_cons_zero, List.set_cons_succ])))
            refine Plan.plan_write rfl (fun K hK => ?_)
            go_simp
            go_at_call 27
            (with_reducible refine (K2.out _ _).mono ?_)
            rintro e5 w5 ⟨rfl, rfl⟩
            go_simp
            refine hK.out _ _ (Plan.grown_drew _ _) ?_
            clear hK K
            try simp only [Act.put, List.setIfInBounds_toArray, List.set_cons_zero, List.set_cons_succ]
            (repeat (first | (refine Plan.plan_read (v := ?_) rfl rfl ?_ ?_; rotate_left; (focus ((intro wS hSw; have hkS := Plan.grown_cells hSw; go_simp); try with_reducible rfl)); simp only [Act.put, List.setIfInBounds_toArray, List.set_cons_zero, List.set_cons_succ]) | (refine Plan.plan_skip rfl rfl ?_; simp only [Act.put, List.setIfInBounds_toArray, List.set_cons_zero, List.set_cons_succ])))
            (refine Plan.plan_write rfl (fun K hK => ?_); try go_simp)
            refine hK.out _ _ (Plan.grown_alloc (Plan.grown_drew _ _) _) ?_
            clear hK K
            try simp only [Act.put, List.setIfInBounds_toArray, List.set_cons_zero, List.set_cons_succ]
            refine Plan.plan_write rfl (fun K hK => ?_)
            refine step_append_any _ (by rfl) _ _ 50 (by rfl) (w.heap.size + 1) 66 i2 _ 3 24 Try.underlying50 ci cz0 cz1 cz2 rfl (by omega) _ (X.T.length + A.length) _ (by rfl) ((Hrow4.out.alloc _).drew) (_ + 1) (some ⟨w4.heap.size, 0, none⟩) 1 1 [.int .i64 r.frm, .int .i64 r.to_, .int .i64 (lim r.flow * h)] (by rfl) ⟨rfl, fun _ => ⟨_, rfl, Nat.lt_succ_self _, cells_at (by rfl) _ _⟩⟩ (fun x hx => ?_) (by unfold maxLen; omega) (by omega) (by simp; omega) ?_
            · simp at hx
              rcases hx with rfl | rfl | rfl <;> rfl
            intro v' w6 hO6 hG6 hob6
            rw [ad_block] at hG6
            have hG := Plan.grown_go (Plan.grown_alloc (Plan.grown_drew _ _) _) hG6
            refine hK.out _ _ hG ?_
            clear hK K hob6
            try simp only [Act.put, List.setIfInBounds_toArray, List.set_cons_zero, List.set_cons_succ]
            replace hO6 := Lib.hid hO6
            replace hG := Lib.hid hG
            clear hG6
            (repeat (first | (refine Plan.plan_read (v := ?_) rfl rfl ?_ ?_; rotate_left; (focus ((intro wS hSw; have hkS := Plan.grown_cells hSw; go_simp); try with_reducible rfl)); simp only [Act.put, List.setIfInBounds_toArray, List.set_cons_zero, List.set_cons_succ]) | (refine Plan.plan_skip rfl rfl ?_; simp only [Act.put, List.setIfInBounds_toArray, List.set_cons_zero, List.set_cons_succ])))
            (refine Plan.plan_last rfl (fun K hK => ?_); go_simp; refine hK.out _ _ ?_; clear hK K; try simp only [Act.put, List.setIfInBounds_toArray, List.set_cons_zero, List.set_cons_succ])
            go_wp2_with fail
            go_roundw
            case rel => exact ⟨k + 1, by omega, by go_num, by
              rw [Hsn.out, if_pos (by first | rfl | trivial), List.length_append, List.length_singleton, ← List.append_assoc, arcCells_app]
              exact hO6.out, row_box Hrow4.out (by rw [ad_block]; exact hG.out) (HBx.out.below hb5 hwz), row_bel Hrow4.out (by rw [ad_block]; exact hG.out) (hBw.trans (hb5.mono (by omega))) (by omega)⟩
            case measure => simp [intOf]; omega
        · obtain rfl : X.R.length = k := by omega
          rw [List.take_length] at hrow
          obtain ⟨A, hA⟩ : ∃ A, A = townA N 0 X.T ++ roadA (opB N X.l3 V) h X.R := ⟨_, rfl⟩
          have hAl : A.length = X.T.length + (roadA (opB N X.l3 V) h X.R).length := by rw [hA, List.length_append, townA_len]
          have hAb : A.length ≤ 150 := by have := roadA_len (opB N X.l3 V) h X.R; omega
          rw [← hA, ← hAl] at hrow
          have hrow2 : wr.ownsRow (w.heap.size + 1) 66 3 u11 (A.length + 0) (arcCells (A ++ shA N X.T.length (X.S.take 0))) := by
            have : A ++ shA N X.T.length (X.S.take 0) = A := by simp [shA]
            rw [this]; exact hrow
          obtain ⟨w2, hw2⟩ : ∃ x, x = wr := ⟨_, rfl⟩
          rw [← hw2] at hrow2 hBx hBw hwz ⊢
          have x8 : w2.cell? ⟨w.heap.size, 8, none⟩ = some (.slice a8 X.S.length X.c8) := hBx.cell rfl
          replace hBx := Lib.hid hBx
          replace hrow2 := Lib.hid hrow2
          have HA := Lib.hid hA
          clear hrow hlt hk hw2 hA hAl
          go_wp2_with fail
          clear x8
          go_loopw [11, 92] (fun cv kv wr => ∃ k, k ≤ X.S.length ∧ kv = .int .i64 (k : Nat) ∧ wr.ownsRow (w.heap.size + 1) 66 3 cv (A.length + k) (arcCells (A ++ shA N X.T.length (X.S.take k))) ∧ Box wr w.heap.size #[.string X.nm, .slice X.a1 X.l1 X.c1, .int .i64 X.cl, .slice X.a3 X.l3 X.c3, .slice X.a4 X.l4 X.c4, .slice a5 X.T.length X.c5, .slice X.a6 X.l6 X.c6, .slice a7 X.R.length X.c7, .slice a8 X.S.length X.c8, .slice X.a9 X.l9 X.c9, .int .i64 X.er] 31 ∧ Below w.heap.size w wr) (fun _ kv _ => X.S.length - (intOf kv).toNat)
          case atStart => exact ⟨0, Nat.zero_le _, rfl, hrow2.out, hBx.out, hBw⟩
          case round =>
            clear hrow2 hBx hBw hwz
            obtain ⟨k, hk, rfl, hrow, hBx, hBw⟩ := hrel
            have hwz := hBx.lt
            by_cases hlt : k < X.S.length
            · obtain ⟨t, ht⟩ : ∃ t, X.S[k]? = some t := ⟨_, List.getElem?_eq_getElem hlt⟩
              obtain ⟨b, off, ec, hb, c0, c1⟩ := sh_at (HXs.out.below hBw) ht
              subst ec
              have hbw : b < wr.heap.size := by omega
              have x5 : wr.cell? ⟨w.heap.size, 5, none⟩ = some (.slice a5 X.T.length X.c5) := hBx.cell rfl
              obtain ⟨o, cw, hwv, _⟩ := ad_of_owns hrow
              subst hwv
              have ho := fun g (e : o = some g) => hrow.lt g (by rw [ad_block]; exact e)
              have n1 : some wr.heap.size ≠ o := fun e => by have := (ho wr.heap.size e.symm).2; omega
              have n2 : some w.heap.size ≠ o := fun e => by have := (ho w.heap.size e.symm).1; omega
              have Hsn := Lib.hid (shA_snoc N X.T.length X.S k t ht)
              have hlb := lim_bd t.room
              have hq1 : IntKind.i64.wrap ((X.T.length : Int) + (k : Int)) = (X.T.length : Int) + (k : Int) := by rw [IntKind.wrap_i64]; omega
              have Hrow := Lib.hid hrow
              have HBx := Lib.hid hBx
              clear ht hrow hBx ho
              go_wp2_with fail
              obtain ⟨w4, hw4⟩ : ∃ x, x = wr.alloc (.cells #[.string t.nm, .int .i64 t.room] 49) := ⟨_, rfl⟩
              rw [← hw4]
              have b4 : Below wr.heap.size wr w4 := by rw [hw4]; exact (Below.refl _ _).alloc (Nat.le_refl _) _
              have s1 : w4.cell? ⟨wr.heap.size, 1, none⟩ = some (.int .i64 t.room) := by rw [hw4]; go_simp
              have y5 : w4.cell? ⟨w.heap.size, 5, none⟩ = some (.slice a5 X.T.length X.c5) := (b4.cell (p := ⟨w.heap.size, 5, none⟩) hwz).trans x5
              have hrz : wr.heap.size < w4.heap.size := by rw [hw4]; simp
              have hwz4 : w.heap.size < w4.heap.size := by omega
              have hrow4 := Lib.hid (row_below Hrow.out b4)
              have hBx4 := Lib.hid (HBx.out.below b4 hwz)
              clear hw4 x5 c0 c1
              refine Plan.wp_region_plan (fun wx => w4.grownBy wx o) 13 [(0, true), (1, true), (2, true), (3, true), (4, true), (5, true), (6, true), (7, true), (8, true), (9, false), (10, true), (11, false), (12, false), (13, false)] (by kernel_rfl) (by kernel_rfl) (Plan.grown_drew _ _) ?_
              (repeat (first | (refine Plan.plan_read (v := ?_) rfl rfl ?_ ?_; rotate_left; (focus ((intro wS hSw; have hkS := Plan.grown_cells hSw; go_simp); try with_reducible rfl)); simp only [Act.put, List.setIfInBounds_toArray, List.set_cons_zero, List.set_cons_succ]) | (refine Plan.plan_skip rfl rfl ?_; simp only [Act.put, List.setIfInBounds_toArray, List.set_cons_zero, List.set_cons_succ])))
              refine Plan.plan_write rfl (fun K hK => ?_)
              go_simp
              go_at_call 27
              (with_reducible refine (K2.out _ _).mono ?_)
              rintro e5 w5 ⟨rfl, rfl⟩
              go_simp
              refine hK.out _ _ (Plan.grown_drew _ _) ?_
              clear hK K
              try simp only [Act.put, List.setIfInBounds_toArray, List.set_cons_zero, List.set_cons_succ]
              (repeat (first | (refine Plan.plan_read (v := ?_) rfl rfl ?_ ?_; rotate_left; (focus ((intro wS hSw; have hkS := Plan.grown_cells hSw; go_simp); try with_reducible rfl)); simp only [Act.put, List.setIfInBounds_toArray, List.set_cons_zero, List.set_cons_succ]) | (refine Plan.plan_skip rfl rfl ?_; simp only [Act.put, List.setIfInBounds_toArray, List.set_cons_zero, List.set_cons_succ])))
              (refine Plan.plan_write rfl (fun K hK => ?_); try go_simp)
              refine hK.out _ _ (Plan.grown_alloc (Plan.grown_drew _ _) _) ?_
              clear hK K
              try simp only [Act.put, List.setIfInBounds_toArray, List.set_cons_zero, List.set_cons_succ]
              refine Plan.plan_write rfl (fun K hK => ?_)
              refine step_append_any _ (by rfl) _ _ 50 (by rfl) (w.heap.size + 1) 66 i2 _ 3 24 Try.underlying50 ci cz0 cz1 cz2 rfl (by omega) _ (A.length + k) _ (by rfl) ((hrow4.out.alloc _).drew) (_ + 1) (some ⟨w4.heap.size, 0, none⟩) 1 1 [.int .i64 ((X.T.length : Int) + (k : Int)), .int .i64 ((N : Int) + 1), .int .i64 (lim t.room)] (by rfl) ⟨rfl, fun _ => ⟨_, rfl, Nat.lt_succ_self _, cells_at (by rfl) _ _⟩⟩ (fun x hx => ?_) (by unfold maxLen; omega) (by omega) (by simp; omega) ?_
              · simp at hx
                rcases hx with rfl | rfl | rfl <;> rfl
              intro v' w6 hO6 hG6 hob6
              rw [ad_block] at hG6
              have hG := Plan.grown_go (Plan.grown_alloc (Plan.grown_drew _ _) _) hG6
              refine hK.out _ _ hG ?_
              clear hK K hob6
              try simp only [Act.put, List.setIfInBounds_toArray, List.set_cons_zero, List.set_cons_succ]
              replace hO6 := Lib.hid hO6
              replace hG := Lib.hid hG
              clear hG6
              (repeat (first | (refine Plan.plan_read (v := ?_) rfl rfl ?_ ?_; rotate_left; (focus ((intro wS hSw; have hkS := Plan.grown_cells hSw; go_simp); try with_reducible rfl)); simp only [Act.put, List.setIfInBounds_toArray, List.set_cons_zero, List.set_cons_succ]) | (refine Plan.plan_skip rfl rfl ?_; simp only [Act.put, List.setIfInBounds_toArray, List.set_cons_zero, List.set_cons_succ])))
              (refine Plan.plan_last rfl (fun K hK => ?_); go_simp; refine hK.out _ _ ?_; clear hK K; try simp only [Act.put, List.setIfInBounds_toArray, List.set_cons_zero, List.set_cons_succ])
              go_wp2_with fail
              go_roundw
              case rel => exact ⟨k + 1, by omega, by go_num, by
                rw [Hsn.out, ← List.append_assoc, arcCells_app]
                exact hO6.out, row_box hrow4.out (by rw [ad_block]; exact hG.out) hBx4.out, row_bel hrow4.out (by rw [ad_block]; exact hG.out) (hBw.trans (b4.mono (by omega))) (by omega)⟩
              case measure => simp [intOf]; omega
            · obtain rfl : X.S.length = k := by omega
              rw [List.take_length] at hrow
              obtain ⟨B, hB⟩ : ∃ B, B = roomNet X V hours := ⟨_, rfl⟩
              have hBe : A ++ shA N X.T.length X.S = B := by
                rw [hB, HA.out]
                unfold roomNet net
                rw [Hlh.out, ← HNN.out, List.append_assoc]
              have hBl : A.length + X.S.length = B.length := by rw [← hBe, List.length_append, shA_len]
              rw [hBe, hBl] at hrow
              have hBb : B.length ≤ 200 := by omega
              obtain ⟨Cc, cc, hcv, hCa⟩ := arcs_of_owns hrow
              subst hcv
              have KM : Hid (Calls Try.prog 19 #[.int .i64 ((N : Int) + 2), .slice Cc B.length cc, .int .i64 (N : Int), .int .i64 ((N : Int) + 1)] wr (FL.MaxYes wr (N + 2) B (N : Int) ((N : Int) + 1))) := Lib.hid (by
                rw [← hB] at K3
                have := K3.out Cc cc wr hCa
                rw [show ((N + 2 : Nat) : Int) = (N : Int) + 2 by omega, show ((N + 1 : Nat) : Int) = (N : Int) + 1 by omega] at this
                exact this)
              unfold FL.MaxYes at KM
              have HB := Lib.hid hB
              have x5 : wr.cell? ⟨w.heap.size, 5, none⟩ = some (.slice a5 X.T.length X.c5) := hBx.cell rfl
              clear hrow hB hBe hBl hCa K3 hBx hlt hk
              go_wp2_with (first | (go_at_call 19; (with_reducible refine KM.out.mono ?_); rintro e1 w5 ⟨f, v, Q, vs, rfl, hmax, g0, g1, ⟨ao, ca, rfl, hi⟩, hb5⟩; replace hmax := Lib.hid hmax; replace hi := Lib.hid hi; have y5 := (hb5.cell (p := ⟨w.heap.size, 5, none⟩) hwz).trans x5; replace hb5 := Lib.hid hb5) | fail)
              obtain ⟨l, hl⟩ : ∃ l, l = FL.sideL (N + 2) Q := ⟨_, rfl⟩
              have hll : l.length ≤ N + 2 := by rw [hl]; exact FL.sideL_len _ _
              rw [← hl] at hi ⊢
              have hz5 := hb5.out.size
              have Hl := Lib.hid hl
              have hBw5 : Below w.heap.size w w5 := hBw.trans (hb5.out.mono (by omega))
              clear hl x5
              go_loopw [21, 125] (fun tv kv wr => ∃ k, k ≤ l.length ∧ kv = .int .i64 (k : Nat) ∧ wr.ownsRow w5.heap.size 3 1 tv (townsOf X.T.length (l.take k)).length ((townsOf X.T.length (l.take k)).map (Value.int .i64)) ∧ Below w5.heap.size w5 wr) (fun _ kv _ => l.length - (intOf kv).toNat)
              case atStart => exact ⟨0, Nat.zero_le _, rfl, World.ownsRow_nil _ _ _ _, Below.refl _ _⟩
              case round =>
                obtain ⟨k, hk, rfl, hrow, hBr⟩ := hrel
                have hzr := hBr.size
                have z5 : wr.cell? ⟨w.heap.size, 5, none⟩ = some (.slice a5 X.T.length X.c5) := (hBr.cell (p := ⟨w.heap.size, 5, none⟩) (by show w.heap.size < w5.heap.size; omega)).trans y5
                by_cases hlt : k < l.length
                · obtain ⟨n, hn⟩ : ∃ n, l[k]? = some n := ⟨_, List.getElem?_eq_getElem hlt⟩
                  obtain ⟨b, off, ec, hb, c0⟩ := ints_at (ints_below hi.out hBr) hn
                  subst ec
                  have hsn := townsOf_snoc X.T.length (l.take k) n
                  rw [← take_snoc_at hn] at hsn
                  have htl := townsOf_len X.T.length (l.take k)
                  rw [List.length_take] at htl
                  obtain ⟨A2, hA2⟩ : ∃ A2, A2 = townsOf X.T.length (l.take k) := ⟨_, rfl⟩
                  rw [← hA2] at hrow hsn htl
                  have hAb2 : A2.length ≤ 102 := by omega
                  have Hsn := Lib.hid hsn
                  have Hrow := Lib.hid hrow
                  have hbw : b < wr.heap.size := by omega
                  clear hn hsn hrow hA2 htl
                  by_cases hnT : n < (X.T.length : Int)
                  · go_wp2_with (first | (at_builtin; refine wpList_append_any _ (by rfl) _ _ 29 (by rfl) w5.heap.size 3 i1 _ 1 8 Try.underlying29 gi gz0 gz1 gz2 rfl (by decide) _ A2.length _ (by rfl) (Hrow.out.alloc _) (_ + 1) (some ⟨wr.heap.size, 0, none⟩) 1 1 [.int .i64 n] (by rfl) ⟨rfl, fun _ => ⟨_, rfl, Nat.lt_succ_self _, cells_at (by rfl) _ _⟩⟩ (fun x hx => by obtain rfl := List.mem_singleton.1 hx; rfl) (by unfold maxLen; omega) (by omega) (by simp; omega) ?_; intro v' w9 hO9 hG9 hob9; replace hO9 := Lib.hid hO9; replace hG9 := Lib.hid hG9; clear hob9) | fail)
                    have hG := Plan.grown_go (Plan.grown_alloc (grown_refl _ _) _) hG9.out
                    go_roundw
                    case rel => exact ⟨k + 1, by omega, by go_num, by
                      rw [Hsn.out, if_pos hnT, List.length_append, List.length_singleton, List.map_append]; exact hO9.out, hBr.grown hG hzr (fun g e => (Hrow.out.lt g e).1)⟩
                    case measure => simp [intOf]; omega
                  · go_wp2_with fail
                    go_roundw
                    case rel => exact ⟨k + 1, by omega, by go_num, by rw [Hsn.out, if_neg hnT]; exact Hrow.out, hBr⟩
                    case measure => simp [intOf]; omega
                · obtain rfl : l.length = k := by omega
                  rw [List.take_length] at hrow
                  have Hrow := Lib.hid hrow
                  clear hrow
                  obtain ⟨o, cw, hwv, _⟩ := ad_of_owns Hrow.out
                  subst hwv
                  go_wp2_with fail
                  go_ret2
                  have hll2 : FL.sideL (X.N + 2) Q = l := by rw [Hl.out, HNN.out]
                  refine ⟨f, v, Q, ad o, cw, by rw [hll2]; rfl, ?_, g0, g1, ?_, hBw5.trans (hBr.mono (by omega))⟩
                  · have := hmax.out
                    rw [HB.out] at this
                    rw [← HNN.out]; exact this
                  · rw [hll2]
                    intro h0
                    obtain ⟨g, hg, _, hgl, hcell⟩ := RevRow.get (l := townsOf X.T.length l) Hrow.out h0
                    exact ⟨g, 0, by rw [hg]; rfl, hgl, fun j hj => by rw [Nat.zero_add]; exact (hcell j hj).1⟩
end Go.Proofs.Ytphebdmdbnpokaa
