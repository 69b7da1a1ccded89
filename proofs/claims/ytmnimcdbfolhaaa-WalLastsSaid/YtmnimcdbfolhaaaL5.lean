/- WalLasts answers true for every input. -/
import Derived.Test.YtmnimcdbfolhaaaX5
set_option linter.unusedSimpArgs false
set_option linter.unusedVariables false
namespace Go.Proofs.Ytmnimcdbfolhaaa
open Go.RowKit DK
attribute [local go_sem] alloc_drewN setCell_drewN shape_drewN
def HopeC.obj (h : HopeC) : Obj := .cells #[.slice h.AA h.all.length h.ac, .slice h.HA h.hs.length h.hc, .slice h.FA h.fr.length h.fc, .bool h.tried] 64 (0, 0)
/-- What holds ahead of each act: the log, the safe rows, and what is hoped for in block E. -/
structure LastW (w0 : World) (b lb E i : Nat) (P : Nat → Prop) (s : St) (R sf : List Bts) (SA : Option Addr) (sc : Nat) (hp : HopeC) (wr : World) : Prop where
  old : ∀ k, k < w0.heap.size → P k
  mine : P E
  base : w0.heap.size ≤ E
  wal : Wal w0 b lb 2 P i wr s R
  cells : wr.heap[E]? = some hp.obj
  sS : StrsP (fun k => P k ∧ k ≠ E) wr SA sf
  sA : StrsP (fun k => P k ∧ k ≠ E) wr hp.AA hp.all
  sH : StrsP (fun k => P k ∧ k ≠ E) wr hp.HA hp.hs
  sF : StrsP (fun k => P k ∧ k ≠ E) wr hp.FA hp.fr
  lR : R.length ≤ 12 * i
  lS : sf.length ≤ 12 * i
  lA : hp.all.length ≤ 12 * i
  lH : hp.hs.length ≤ 12 * i
  lF : hp.fr.length ≤ 12 * i
  aft : AftP s R sf hp.all hp.hs
def LastI (w0 : World) (b lb E m : Nat) (u9 u11 : Value) (wr : World) : Prop :=
  ∃ (i : Nat) (P : Nat → Prop) (s : St) (R sf : List Bts) (SA : Option Addr) (sc : Nat) (hp : HopeC), i ≤ m ∧ u11 = .int .i64 i ∧ u9 = .slice SA sf.length sc ∧ LastW w0 b lb E i P s R sf SA sc hp wr
theorem LastW.more {w0 w : World} {b lb E i : Nat} {P : Nat → Prop} {s : St} {R sf : List Bts} {SA : Option Addr} {sc : Nat} {hp : HopeC} (h : LastW w0 b lb E i P s R sf SA sc hp w) : LastW w0 b lb E (i + 1) P s R sf SA sc hp w :=
  ⟨h.old, h.mine, h.base, h.wal.more (Nat.le_succ _), h.cells, h.sS, h.sA, h.sH, h.sF, by have := h.lR; omega, by have := h.lS; omega, by have := h.lA; omega, by have := h.lH; omega, by have := h.lF; omega, h.aft⟩
/-- Block E is written anew. -/
theorem hope_put {w0 w : World} {b lb n E t : Nat} {P : Nat → Prop} {s : St} {R : List Bts} {a1 b1 c1 d1 : Value} (hW : Wal w0 b lb 2 P n w s R) (hE : P E) (hb : w0.heap.size ≤ E) (hX : w.heap[E]? = some (.cells #[a1, b1, c1, d1] t (0, 0))) (x y z u : Value) :
    Wal w0 b lb 2 P n ((((w.setCell ⟨E, 0, none⟩ x).setCell ⟨E, 1, none⟩ y).setCell ⟨E, 2, none⟩ z).setCell ⟨E, 3, none⟩ u) s R ∧ ((((w.setCell ⟨E, 0, none⟩ x).setCell ⟨E, 1, none⟩ y).setCell ⟨E, 2, none⟩ z).setCell ⟨E, 3, none⟩ u).heap[E]? = some (.cells #[x, y, z, u] t (0, 0)) ∧
      ∀ {A : Option Addr} {l : List Bts}, StrsP (fun k => P k ∧ k ≠ E) w A l → StrsP (fun k => P k ∧ k ≠ E) ((((w.setCell ⟨E, 0, none⟩ x).setCell ⟨E, 1, none⟩ y).setCell ⟨E, 2, none⟩ z).setCell ⟨E, 3, none⟩ u) A l :=
  ⟨(((hW.set_ 0 x hE hb).set_ 1 y hE hb).set_ 2 z hE hb).set_ 3 u hE hb, set4_3 (set4_2 (set4_1 (set4_0 hX x) y) z) u, fun h => (((h.set_ (fun k q => q.2) 0 x).set_ (fun k q => q.2) 1 y).set_ (fun k q => q.2) 2 z).set_ (fun k q => q.2) 3 u⟩
set_option maxRecDepth 100000 in
set_option maxHeartbeats 8000000 in
theorem lasts_any (C : Option Addr) (c : Nat) (l : List WA) (A : Option Addr) (ck : Nat) (keep : List Int) (w : World) (hl : l.length ≤ 9223372036854775807)
    (hS : Hid (∀ a ∈ l, a.s.length ≤ 140737488355328 ∧ a.L.length ≤ 140737488355328 ∧ a.K.length ≤ 140737488355328 ∧ ∀ x ∈ a.L, x.length ≤ 140737488355328)) (hN : Hid (∀ a ∈ l, a.n ≤ 9223372036854775807)) (hC : ActsAt w w.heap.size C l) (hP : PartsAt w w.heap.size l)
    (hA : IntsAt w w.heap.size A keep) (hk : keep.length ≤ 9223372036854775807) :
    Calls Try.prog 8 #[.slice C l.length c, .slice A keep.length ck] w (BoolIs true w) := by
  replace hP := Lib.hid hP
  go_enter Try.func8, Try.ntmps8
  go_wp2_with fail
  go_at_call 9
  refine (small_any w).mono ?_
  rintro e w1 ⟨rfl, hb1⟩
  go_wp2_with fail
  go_at_call 15
  refine (HasP.new (fun k => k < w.heap.size) w1 hb1 (fun k h => Nat.lt_of_lt_of_le h hb1.size)).mono ?_
  rintro e1 w2 ⟨b, rfl, H2, -, -⟩
  unfold dp
  have KF := Lib.hid (few_any C c l w2 ((hC.below H2.below).more H2.below.size) (fun a ha => ⟨CellsAt.more ((hP.out a ha).1.below H2.below) H2.below.size, ((hP.out a ha).2.below H2.below).more H2.below.size⟩) hl hS)
  unfold FewIs at KF
  by_cases g : 8 < keep.length
  · have q1 : decide ((8 : Int) < (keep.length : Int)) = true := decide_eq_true (by omega)
    go_wp2_with (first | (go_at_call 27; refine KF.out.mono ?_; rintro e3 _ ⟨fb, rfl, hfew, rfl⟩; cases fb) | fail)
    all_goals (go_ret; exact ⟨rfl, H2.below⟩)
  have q1 : decide ((8 : Int) < (keep.length : Int)) = false := decide_eq_false (by omega)
  go_wp2_with (first | (go_at_call 27; refine KF.out.mono ?_; rintro e3 _ ⟨fb, rfl, hfew, rfl⟩; cases fb) | fail)
  · go_ret
    exact ⟨rfl, H2.below⟩
  obtain ⟨hm, hF⟩ := hfew (by simp)
  replace hF := Lib.hid hF
  clear KF hfew q1
  have h0 : rowsOf ([] : Bts) = [] := rowsOf_eq (rows_recs (l := []) (fun _ h => by cases h))
  have KO := Lib.hid (open_yes H2 2 (by omega) (open_up Up.zero (f := 2) (by omega)) (R := []) h0)
  unfold dp at KO
  go_at_call 17
  refine KO.out.mono ?_
  rintro e1 w3 ⟨lb, rfl, H3, -, -⟩
  clear KO
  have g1 : G (opnS St.zero 2) := G.zero.opn (by omega)
  have r1 : Recs (opnS St.zero 2) 2 [] [] := by
    have := opnS_recs St.zero 2
    rw [show rowsOf (St.zero.data 2) = [] from h0] at this
    exact this
  have hU0 : Up2 (opnS St.zero 2) [] [] := ⟨g1.ok, g1.cov, g1.up.down, r1⟩
  generalize opnS St.zero 2 = s0 at hU0 H3
  clear g1 r1 h0
  unfold lp
  obtain ⟨E, hE⟩ : ∃ E, w3.heap.size = E := ⟨_, rfl⟩
  go_upto_region 12 with fail
  obtain ⟨w4, hw4⟩ : ∃ W, W = w3.alloc (.cells #[.slice none 0 0, .slice none 0 0, .slice none 0 0, .bool false] 64) := ⟨_, rfl⟩
  rw [← hw4]
  have hb4 : Below w3.heap.size w3 w4 := by rw [hw4]; exact below_new _ _
  have hz4 : w4.heap.size = E + 1 := by rw [hw4]; simp [hE]
  have hX4 : w4.heap[E]? = some (HopeC.obj ⟨none, 0, [], none, 0, [], none, 0, [], false⟩) := by rw [hw4, ← hE]; exact World.alloc_heap_new _ _
  clear hw4
  obtain ⟨P0, hP0⟩ : ∃ P : Nat → Prop, P = fun k => k < w.heap.size ∨ (w3.heap.size ≤ k ∧ k < w4.heap.size) := ⟨_, rfl⟩
  have H4 := H3.with_ hb4
  rw [← hP0] at H4
  have I0 : Hid (LastW w b lb E 0 P0 s0 [] [] none 0 ⟨none, 0, [], none, 0, [], none, 0, [], false⟩ w4) :=
    ⟨fun k q => by rw [hP0]; exact .inl q, by rw [hP0]; exact .inr ⟨by omega, by omega⟩, by have := H3.below.size; omega, H4, hX4, StrsP.nil _ _ _, StrsP.nil _ _ _, StrsP.nil _ _ _, StrsP.nil _ _ _, Nat.zero_le _, Nat.zero_le _, Nat.zero_le _, Nat.zero_le _, Nat.zero_le _, .inl ⟨hU0.down, [], [], [], hU0, rfl, rfl⟩⟩
  clear hP0 H4 hX4 hz4 hb4 hE H3 H2 hU0 hb1
  have hC' := Lib.hid hC
  clear hC
  obtain ⟨m, hml⟩ : ∃ m, l.length = m := ⟨_, rfl⟩
  have hm2 : m ≤ 30 := by omega
  rw [hml]
  replace hml := Lib.hid hml
  go_wp2_with fail
  go_loopw [9, 11] (fun u9 u11 wr => Hid (LastI w b lb E m u9 u11 wr)) (fun _ u11 _ => m - (intOf u11).toNat)
  case atStart => exact ⟨0, P0, s0, [], [], none, 0, _, Nat.zero_le _, rfl, rfl, I0.out⟩
  case round =>
    obtain ⟨i, P, s, R, sf, SA, sc, hp, him, rfl, rfl, hI⟩ := hrel.out
    clear hrel I0
    replace hI := Lib.hid hI
    have hW := Lib.hid hI.out.wal
    obtain ⟨hAA, hac, hall, hHA, hhc, hhs, hFA, hfc, hfr, hT⟩ := hp
    have hX := hI.out.cells
    unfold HopeC.obj at hX
    dsimp only at hX
    obtain ⟨x0, x1, x2, x3, xf⟩ := c4of hX
    have xf0 := xf 0
    have xf1 := xf 1
    have xf2 := xf 2
    have xf3 := xf 3
    replace hX := Lib.hid hX
    have lA := hI.out.lA
    have lH := hI.out.lH
    have lF := hI.out.lF
    have lS := hI.out.lS
    have lR := hI.out.lR
    dsimp only at lA lH lF
    have hEl : E < wr.heap.size := hW.out.has.lt E hI.out.mine
    by_cases hlt : i < m
    · have e2 : (i : Int) < (m : Int) := by omega
      obtain ⟨a, ha⟩ : ∃ a, l[i]? = some a := ⟨_, List.getElem?_eq_getElem (by have := hml.out; omega)⟩
      obtain ⟨ab, ao, rfl, hab, hAA0⟩ := (hC'.out.below hW.out.below).at_ ha
      obtain ⟨y0, y1, y2, y3, y4⟩ := hAA0
      have e7 := low_three a.d
      obtain ⟨D, hD⟩ : ∃ D, a.d % 8 = D := ⟨_, rfl⟩
      rw [hD] at e7
      cases hd : s.down
      · have KD := Lib.hid (hW.out.has.down hd)
        unfold dp at KD
        by_cases h4 : D = 4
        · subst h4
          go_wp2_with (first | (go_at_call 35; refine KD.out.mono ?_; rintro e _ ⟨rfl, rfl⟩) | fail)
          go_round
          case rel => exact ⟨i + 1, P, s, R, sf, SA, sc, _, by omega, by go_num, rfl, hI.out.more⟩
          case measure => simp [intOf]; omega
        · have h5 : (D == 4) = false := by simpa using h4
          have h6 : (D != 4) = true := by simp [bne, h5]
          obtain ⟨R0, X, t, hU, hR, hsf⟩ : ∃ R0 X t, Hid (Up2 s R0 X) ∧ Hid (R = R0 ++ X) ∧ Hid (R0 = sf ++ t) := by
            rcases hI.out.aft with q | q
            · obtain ⟨-, R0, X, t, q1, q2, q3⟩ := q
              exact ⟨R0, X, t, q1, q2, q3⟩
            · exact absurd q.1 (by rw [hd]; simp)
          have hin := List.mem_of_getElem? ha
          obtain ⟨f1, f2, f3, f4⟩ := hF.out a hin
          have KT := Lib.hid (after_any (B := 12 * i) (E := E) a SA sc hW.out hU hR ⟨t, hsf.out⟩ hI.out.sS hI.out.base hEl (by omega) (by omega) (by omega) (by omega) hI.out.old (hP.out a hin).1 (hP.out a hin).2 f4 f1 f2 f3 (hN.out a hin) (by rw [hD]; exact h4))
          unfold dp lp AfterIs at KT
          go_wp2_with (first | (go_at_call 35; refine KD.out.mono ?_; rintro e _ ⟨rfl, rfl⟩) | (go_at_call 37; refine KT.out.mono ?_; rintro e w5 ⟨P', s', R', sf', SA', sc', hq, iP, rfl, hW5, k5, sS5, sA5, sH5, sF5, m1, m2, m3, m4, m5, hq5⟩; have hX5 := k5.cells4 hX.out hI.out.mine; obtain ⟨p0, p1, p2, p3, pf⟩ := c4of hX5; have pf0 := pf 0; have pf1 := pf 1; have pf2 := pf 2; have pf3 := pf 3; replace hW5 := Lib.hid hW5; unfold HopeC.val) | fail)
          obtain ⟨hW6, hX6, put⟩ := hope_put hW5.out (iP E hI.out.mine) hI.out.base hX5 (.slice hq.AA hq.all.length hq.ac) (.slice hq.HA hq.hs.length hq.hc) (.slice hq.FA hq.fr.length hq.fc) (.bool hq.tried)
          go_round
          case rel => exact ⟨i + 1, P', s', R', sf', SA', sc', hq, by omega, by go_num, rfl, ⟨fun k q => iP k (hI.out.old k q), iP E hI.out.mine, hI.out.base, hW6, hX6, put sS5, put sA5, put sH5, put sF5, by omega, by omega, by omega, by omega, by omega, hq5⟩⟩
          case measure => simp [intOf]; omega
      · have KD := Lib.hid (hW.out.has.down hd)
        unfold dp at KD
        have hpp : pfx hall (rowsOf (s.data 2)) = true ∧ pfx (rowsOf (s.data 2)) hhs = true := by
          rcases hI.out.aft with q | q
          · exact absurd q.1 (by rw [hd]; simp)
          · exact ⟨q.2.2.2.1, q.2.2.2.2⟩
        have KX := Lib.hid (found_any ⟨hAA, hac, hall, hHA, hhc, hhs, hFA, hfc, hfr, hT⟩ hW.out.has (by omega) (hI.out.sA.sub fun k _ q => q.1) (hI.out.sH.sub fun k _ q => q.1) (hI.out.sF.sub fun k _ q => q.1) (by dsimp only; omega) (by dsimp only; omega) (by dsimp only; omega) hpp.1 hpp.2)
        unfold dp HopeC.val at KX
        dsimp only at KX
        clear hpp
        go_wp2_with (first | (go_at_call 35; refine KD.out.mono ?_; rintro e _ ⟨rfl, rfl⟩) | (go_at_call 38; refine KX.out.mono ?_; rintro e w8 ⟨rfl, hb8⟩) | fail)
        go_ret
        exact ⟨rfl, hb8⟩
    · have e2 : ¬ (i : Int) < (m : Int) := by omega
      cases hd : s.down
      · have KD := Lib.hid (hW.out.has.down hd)
        unfold dp at KD
        have KA := Lib.hid (all_any hW.out (by omega))
        unfold StrsNew lp at KA
        obtain ⟨R0, X, t, hU, hR, hsf⟩ : ∃ R0 X t, Hid (Up2 s R0 X) ∧ Hid (R = R0 ++ X) ∧ Hid (R0 = sf ++ t) := by
          rcases hI.out.aft with q | q
          · obtain ⟨-, R0, X, t, q1, q2, q3⟩ := q
            exact ⟨R0, X, t, q1, q2, q3⟩
          · exact absurd q.1 (by rw [hd]; simp)
        obtain ⟨NR, hNR⟩ : ∃ n, R.length = n := ⟨_, rfl⟩
        rw [hNR] at KA
        go_upto_region 18 with (first | (go_at_call 35; refine KD.out.mono ?_; rintro e _ ⟨rfl, rfl⟩) | fail)
        go_upto_region 19 with (first | (go_at_call 25; refine KA.out.mono ?_; rintro e w5 ⟨hb5, o5, c5, rfl, hO5⟩; have hX5 := (hb5.block E hEl).trans hX.out; obtain ⟨p0, p1, p2, p3, pf⟩ := c4of hX5; have pf0 := pf 0; have pf1 := pf 1; have pf2 := pf 2; have pf3 := pf 3) | fail)
        obtain ⟨P2, hP2⟩ : ∃ Q : Nat → Prop, Q = fun k => P k ∨ (wr.heap.size ≤ k ∧ k < w5.heap.size) := ⟨_, rfl⟩
        have hW5 := hW.out.with_ hb5
        rw [← hP2] at hW5
        have iP : ∀ k, P k → P2 k := fun k q => by rw [hP2]; exact .inl q
        have t5 : StrsP (fun k => P2 k ∧ k ≠ E) w5 (ad o5) R := strs_new hO5 hNR fun k q1 q2 => ⟨by rw [hP2]; exact .inr ⟨q1, q2⟩, by omega⟩
        have s5 : StrsP (fun k => P2 k ∧ k ≠ E) w5 SA sf := (hI.out.sS.below hb5).sub fun k _ q => ⟨iP k q.1, q.2⟩
        obtain ⟨hW6, hX6, put⟩ := hope_put hW5 (iP E hI.out.mine) hI.out.base hX5 (.slice (ad o5) NR c5) (.slice SA sf.length sc) (.slice none 0 0) (.bool false)
        have t6 := put t5
        have s6 := put s5
        clear put p0 p1 p2 p3 pf pf0 pf1 pf2 pf3 x0 x1 x2 x3 xf xf0 xf1 xf2 xf3
        generalize (((w5.setCell ⟨E, 0, none⟩ (.slice (ad o5) NR c5)).setCell ⟨E, 1, none⟩ (.slice SA sf.length sc)).setCell ⟨E, 2, none⟩ (.slice none 0 0)).setCell ⟨E, 3, none⟩ (.bool false) = w6 at hW6 hX6 t6 s6 ⊢
        have KC := Lib.hid (wcrash_any (c := ck) hW6 (Apart.oldP hW6.has hA) hk (by omega) rfl)
        unfold dp at KC
        replace hW6 := Lib.hid hW6
        go_upto_region 20 with (first | (go_at_call 23; refine KC.out.mono ?_; rintro e w7 ⟨rfl, hW7, k7⟩) | fail)
        have hX7 := k7.cells4 hX6 (iP E hI.out.mine)
        have t7 := t6.keep (k7.sub fun k q => q.1)
        have s7 := s6.keep (k7.sub fun k q => q.1)
        obtain ⟨z0, z1, z2, z3, zf⟩ := c4of hX7
        obtain ⟨j, hj⟩ : ∃ j, rowsOf ((DK.crash s keep).data 2) = R0 ++ X.take j := by
          rcases hU.out.crashed keep with q | q
          · exact absurd rfl q.1
          · exact q.2.2.2.2
        have hpp : pfx R (rowsOf ((DK.crash s keep).data 2)) = true ∧ pfx (rowsOf ((DK.crash s keep).data 2)) sf = true := by
          rw [hR.out, pfx_iff, pfx_iff, hj]
          exact ⟨⟨X.drop j, by rw [List.append_assoc, List.take_append_drop]⟩, ⟨t ++ X.take j, by rw [hsf.out, List.append_assoc]⟩⟩
        have KX := Lib.hid (found_any ⟨ad o5, c5, R, SA, sc, sf, none, 0, [], false⟩ hW7.has (by omega) (t7.sub fun k _ q => q.1) (s7.sub fun k _ q => q.1) (StrsP.nil _ _ _) (by dsimp only; omega) (by dsimp only; omega) (by simp) hpp.1 hpp.2)
        unfold dp HopeC.val at KX
        dsimp only at KX
        rw [hNR] at KX
        clear hpp hj
        go_wp2_with (first | (go_at_call 38; refine KX.out.mono ?_; rintro e w8 ⟨rfl, hb8⟩) | fail)
        go_ret
        exact ⟨rfl, hb8⟩
      · have KD := Lib.hid (hW.out.has.down hd)
        unfold dp at KD
        have hpp : pfx hall (rowsOf (s.data 2)) = true ∧ pfx (rowsOf (s.data 2)) hhs = true := by
          rcases hI.out.aft with q | q
          · exact absurd q.1 (by rw [hd]; simp)
          · exact ⟨q.2.2.2.1, q.2.2.2.2⟩
        have KX := Lib.hid (found_any ⟨hAA, hac, hall, hHA, hhc, hhs, hFA, hfc, hfr, hT⟩ hW.out.has (by omega) (hI.out.sA.sub fun k _ q => q.1) (hI.out.sH.sub fun k _ q => q.1) (hI.out.sF.sub fun k _ q => q.1) (by dsimp only; omega) (by dsimp only; omega) (by dsimp only; omega) hpp.1 hpp.2)
        unfold dp HopeC.val at KX
        dsimp only at KX
        clear hpp
        go_wp2_with (first | (go_at_call 35; refine KD.out.mono ?_; rintro e _ ⟨rfl, rfl⟩) | (go_at_call 38; refine KX.out.mono ?_; rintro e w8 ⟨rfl, hb8⟩) | fail)
        go_ret
        exact ⟨rfl, hb8⟩
end Go.Proofs.Ytmnimcdbfolhaaa
