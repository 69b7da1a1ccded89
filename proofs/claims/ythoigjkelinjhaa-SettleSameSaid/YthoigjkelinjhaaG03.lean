/- Joined of: LP L1. -/
import Derived.Test.YthoigjkelinjhaaR0
/- Plain facts for the laws of settle: a day's shares, and what a correction books. -/
set_option linter.unusedSimpArgs false
set_option linter.unusedVariables false
namespace Go.Proofs.Ythoigjkelinjhaa
open Go.RowKit CM

theorem posSum_le {sup : Nat → Int} {M : Int} (h0 : 0 ≤ M) (h : ∀ p, sup p ≤ M) : ∀ n : Nat, posSum sup n ≤ (n : Int) * M
  | 0 => by simp [posSum]
  | n + 1 => by
    have ih := posSum_le h0 h n
    have h1 := h n
    have e : posSum sup (n + 1) = posSum sup n + max 0 (sup n) := rfl
    rw [e, show ((n + 1 : Nat) : Int) * M = (n : Int) * M + M by rw [Int.natCast_succ, Int.add_mul]; omega]
    omega
theorem sup_le {S : List Int} (hm : Mod4 S) (p : Nat) : supF S p ≤ 1099511627776 := by
  unfold supF
  rw [List.getD_eq_getElem?_getD]
  cases h : S[p]? with
  | none => simp
  | some x => exact (hm x (List.mem_of_getElem? h)).2
theorem mod4_modest {pl : Pl} {R : List Rt} {S : List Int} (hm : Mod4 S) (hS : S.length ≤ 10) (hr : R.length ≤ 8) : CM.Modest pl R (supF S) S.length := by
  refine ⟨?_, by omega⟩
  have h1 := posSum_le (by omega) (sup_le hm) (min pl.length S.length)
  have h2 : ((min pl.length S.length : Nat) : Int) ≤ 10 := by omega
  have h3 : ((min pl.length S.length : Nat) : Int) * 1099511627776 ≤ 10 * 1099511627776 := Int.mul_le_mul_of_nonneg_right h2 (by omega)
  omega
/-- The day's grants, each with its right's triple. -/
def dayT (pl : Pl) (R : List Rt) (S : List Int) : List (SP.T3 × Int) := (List.range R.length).map fun i => (((rtN R i).id, (rtN R i).owner, (rtN R i).place), litN pl R S i)
theorem map_rtN {α : Type} (f : Rt → α) (R : List Rt) : R.map f = (List.range R.length).map fun i => f (rtN R i) := by
  apply List.ext_getElem?
  intro i
  by_cases h : i < R.length
  · have e : R[i]? = some (rtN R i) := by unfold rtN; rw [List.getD_eq_getElem?_getD, List.getElem?_eq_getElem h]; rfl
    rw [List.getElem?_map, e, List.getElem?_map, List.getElem?_range h]; rfl
  · rw [List.getElem?_eq_none (by simp; omega), List.getElem?_eq_none (by simp; omega)]
section
variable {pl : Pl} {R : List Rt} {S : List Int}
theorem dayT_trs : trs R = (dayT pl R S).map (·.1) := by
  unfold trs dayT
  rw [map_rtN, List.map_map]; rfl
theorem dayT_day : dayLs pl R S = (dayT pl R S).map fun x => (x.1.1, x.2) := by
  unfold dayT
  rw [List.map_map]; rfl
theorem dayT_ids : (dayT pl R S).map (fun x => x.1.1) = R.map (·.id) := by
  unfold dayT
  rw [map_rtN, List.map_map]; rfl
/-- The shares of the day's grants. -/
def dayX (pl : Pl) (R : List Rt) (S : List Int) : List (SP.T3 × Int) := (dayT pl R S).filter (fun x => decide (0 < x.2))
theorem shares_day (hn : (R.map (·.id)).Nodup) : shL R (dayLs pl R S) = dayX pl R S := by
  unfold shL
  rw [dayT_trs (pl := pl) (S := S), dayT_day, SP.shares_of wrap64 _ (by rw [dayT_ids]; exact hn)]
  rfl
theorem dayX_ids (hn : (R.map (·.id)).Nodup) : ((dayX pl R S).map (fun x => x.1.1)).Nodup := by
  have h : ((dayT pl R S).map (fun x => x.1.1)).Nodup := by rw [dayT_ids]; exact hn
  exact h.sublist (List.filter_sublist.map _)
theorem dayX_keys (hn : (R.map (·.id)).Nodup) : ((dayX pl R S).map (·.1)).Nodup := SP.nodup_of_map (fun t : SP.T3 => t.1) _ (by rw [List.map_map]; exact dayX_ids hn)
theorem litN_bd (hM : CM.Modest pl R (supF S) S.length) (i : Nat) : 0 ≤ litN pl R S i ∧ litN pl R S i ≤ 1125899906842624 := hM.day i
theorem dayX_bd (hM : CM.Modest pl R (supF S) S.length) : ∀ x ∈ dayX pl R S, 0 < x.2 ∧ x.2 ≤ 1125899906842624 := fun x hx => by
  obtain ⟨h1, h2⟩ := List.mem_filter.1 hx
  obtain ⟨i, _, rfl⟩ := List.mem_map.1 h1
  exact ⟨by simpa using h2, (litN_bd hM i).2⟩
theorem day_in64 (hM : CM.Modest pl R (supF S) S.length) : ∀ x ∈ dayLs pl R S, In64 x.2 := fun x hx => by
  rw [dayT_day] at hx
  obtain ⟨y, hy, rfl⟩ := List.mem_map.1 hx
  obtain ⟨i, _, rfl⟩ := List.mem_map.1 hy
  have := litN_bd hM i
  unfold In64
  dsimp only
  omega
end
section
variable {m : List (SP.T3 × Int)}
theorem getX_of : ∀ (m : List (SP.T3 × Int)), (m.map (·.1)).Nodup → ∀ x ∈ m, getX m x.1 = some x.2
  | [], _, x, h => by cases h
  | y :: l, hn, x, h => by
    rw [List.map_cons, List.nodup_cons] at hn
    unfold getX
    rw [List.find?_cons]
    by_cases e : x.1 = y.1
    · rcases List.mem_cons.1 h with rfl | h1
      · simp
      · exact absurd (e ▸ List.mem_map.2 ⟨x, h1, rfl⟩) hn.1
    · rw [decide_eq_false e]
      rcases List.mem_cons.1 h with rfl | h1
      · exact absurd rfl e
      · exact getX_of l hn.2 x h1
theorem getX_out {t : SP.T3} (h : t ∉ m.map (·.1)) : getX m t = none := by
  unfold getX
  have : m.find? (fun p => decide (t = p.1)) = none := by
    rw [List.find?_eq_none]
    intro x hx
    have : t ≠ x.1 := fun e => h (e ▸ List.mem_map.2 ⟨x, hx, rfl⟩)
    simpa using this
  rw [this]; rfl
theorem look_key (hn : (m.map (·.1)).Nodup) {t : SP.T3} (ht : t ∈ m.map (·.1)) : ∃ x ∈ m, x.1 = t ∧ lookX m t = x.2 ∧ gone m t = false := by
  obtain ⟨x, hx, rfl⟩ := List.mem_map.1 ht
  refine ⟨x, hx, rfl, ?_, ?_⟩
  · unfold lookX; rw [getX_of m hn x hx]; rfl
  · unfold gone; rw [getX_of m hn x hx]; rfl
theorem wrap64_of {z : Int} (h : -9223372036854775808 ≤ z ∧ z ≤ 9223372036854775807) : wrap64 z = z := IntWalk.wrap64_in z h
/-- The same again: nothing is booked. -/
theorem correct_same (d kn : Int) (hn : (m.map (·.1)).Nodup) : correctL d kn m m = [] := by
  have h1 : afterL d kn m m = [] := by
    unfold afterL
    rw [List.flatMap_eq_nil_iff]
    intro t _
    rw [Int.sub_self, wrap64_of (by omega)]
    rfl
  have h2 : backL d kn m m = [] := by
    unfold backL
    have : (m.map (·.1)).filter (gone m) = [] := by
      rw [List.filter_eq_nil_iff]
      intro t ht
      obtain ⟨_, _, _, _, h⟩ := look_key hn ht
      rw [h]; simp
    rw [this]; rfl
  unfold correctL
  rw [h1, h2]; rfl
/-- An entry that takes another one back. -/
def Undo (x y : LD.Et) : Prop := x.litres = wrap64 (-y.litres) ∧ x.owner = y.owner ∧ x.place = y.place ∧ x.ref = y.ref
def UndoL (A B : List LD.Et) : Prop := A.length = B.length ∧ ∀ (i : Nat) (x y : LD.Et), A[i]? = some x → B[i]? = some y → Undo x y
theorem UndoL.nil : UndoL [] [] := ⟨rfl, fun i x y h => by simp at h⟩
theorem UndoL.append {A B C D : List LD.Et} (h : UndoL A B) (g : UndoL C D) : UndoL (A ++ C) (B ++ D) := by
  refine ⟨by rw [List.length_append, List.length_append, h.1, g.1], fun i x y hx hy => ?_⟩
  by_cases hi : i < A.length
  · rw [List.getElem?_append_left hi] at hx
    rw [List.getElem?_append_left (by have := h.1; omega)] at hy
    exact h.2 i x y hx hy
  · rw [List.getElem?_append_right (by omega)] at hx
    rw [List.getElem?_append_right (by have := h.1; omega), ← h.1] at hy
    exact g.2 _ x y hx hy
theorem undo_flat {f g : SP.T3 → List LD.Et} : ∀ T : List SP.T3, (∀ t ∈ T, UndoL (f t) (g t)) → UndoL (T.flatMap f) (T.flatMap g)
  | [], _ => UndoL.nil
  | t :: T, h => by
    rw [List.flatMap_cons, List.flatMap_cons]
    exact (h t (by simp)).append (undo_flat T (fun u hu => h u (by simp [hu])))
theorem undo_pair (d kn : Int) (t : SP.T3) {n : Int} (hn : 0 < n ∧ n ≤ 1125899906842624) : UndoL (addL d kn 1 t (wrap64 (-n))) (addL d kn 0 t n) := by
  have e1 : wrap64 (-n) = -n := wrap64_of (by omega)
  have e2 : wrap64 (-(-n)) = n := by rw [Int.neg_neg]; exact wrap64_of (by omega)
  rw [e1]
  unfold addL
  rw [if_neg (by omega), if_neg (by omega), e1, e2]
  refine ⟨rfl, fun i x y hx hy => ?_⟩
  match i with
  | 0 =>
    simp at hx hy
    subst hx hy
    exact ⟨e1.symm, rfl, rfl, rfl⟩
  | 1 =>
    simp at hx hy
    subst hx hy
    exact ⟨e2.symm, rfl, rfl, rfl⟩
  | i + 2 => simp at hx
/-- No shares any more: all is taken back. -/
theorem correct_none (d kn : Int) (hn : (m.map (·.1)).Nodup) (hb : ∀ x ∈ m, 0 < x.2 ∧ x.2 ≤ 1125899906842624) : UndoL (correctL d kn m []) (grantsL d kn m) := by
  have h1 : correctL d kn m [] = (m.map (·.1)).flatMap fun t => addL d kn 1 t (wrap64 (-lookX m t)) := by
    unfold correctL afterL backL
    have : (m.map (·.1)).filter (gone []) = m.map (·.1) := List.filter_eq_self.2 (fun t _ => rfl)
    rw [this]; rfl
  rw [h1]
  unfold grantsL
  refine undo_flat _ (fun t ht => ?_)
  obtain ⟨x, hx, _, h, _⟩ := look_key hn ht
  rw [h]
  exact undo_pair d kn t (hb x hx)
end
end Go.Proofs.Ythoigjkelinjhaa

/- SettleSame: for every input the law answers true. (Printed by gen_l1.py.) -/
namespace Go.Proofs.Ythoigjkelinjhaa
open Go.RowKit CM
attribute [local go_sem] alloc_drewN setCell_drewN shape_drewN
theorem et_at {w : World} {B : Nat} {C : Option Addr} {A : List LD.Et} (h : RowAt etC 7 w B C A) {k : Nat} {x : LD.Et} (hk : A[k]? = some x) : ∃ b off, C = some ⟨b, off, none⟩ ∧ b < B ∧ w.cell? ⟨b, off + k * 7 + 2, none⟩ = some (.int .i64 x.owner) ∧ w.cell? ⟨b, off + k * 7 + 3, none⟩ = some (.int .i64 x.place) ∧ w.cell? ⟨b, off + k * 7 + 4, none⟩ = some (.int .i64 x.litres) ∧ w.cell? ⟨b, off + k * 7 + 6, none⟩ = some (.int .i64 x.ref) := by
  have hlt := (List.getElem?_eq_some_iff.1 hk).1
  obtain ⟨b, off, e, hb, hc⟩ := h (by omega)
  exact ⟨b, off, e, hb, hc k x hk 2 _ rfl, hc k x hk 3 _ rfl, hc k x hk 4 _ rfl, hc k x hk 6 _ rfl⟩
set_option maxRecDepth 100000 in
set_option maxHeartbeats 8000000 in
theorem settleSame_any (X : Bas) (pl : Pl) (R : List Rt) (S : List Int) (day kn : Int) (C : Option Addr) (cr : Nat) (E : Option Addr) (cs : Nat) (w : World) (hX : RT.BasOk w w.heap.size X pl) (hnm : X.nm.size ≤ 9223372036854775807) (hP : PlacesAt w w.heap.size X.P pl) (hR : RightsAt w w.heap.size C R) (hE : IntsAt w w.heap.size E S)
    (hl : pl.length ≤ 9223372036854775807) (hr : R.length ≤ 9223372036854775807) (hs : S.length ≤ 9223372036854775807) (hS : ∀ x ∈ S, In64 x) :
    Calls Try.prog 3 #[.agg #[.string X.nm, .slice X.a1 X.l1 X.c1, .int .i64 X.cl, .slice X.P pl.length X.cP, .slice X.a4 X.l4 X.c4, .slice X.a5 X.l5 X.c5, .slice X.a6 X.l6 X.c6, .slice X.a7 X.l7 X.c7, .slice X.a8 X.l8 X.c8, .slice X.a9 X.l9 X.c9, .int .i64 X.er], .slice C R.length cr, .slice E S.length cs, .int .i64 day, .int .i64 kn] w (BoolIs true w) := by
  have hl1 := hX.own.1
  have K0 := Lib.hid (fun wx => small4_any wx)
  have KF : Hid (∀ wx, Below w.heap.size w wx → Calls Try.prog 8 #[.agg #[.string X.nm, .slice X.a1 X.l1 X.c1, .int .i64 X.cl, .slice X.P pl.length X.cP, .slice X.a4 X.l4 X.c4, .slice X.a5 X.l5 X.c5, .slice X.a6 X.l6 X.c6, .slice X.a7 X.l7 X.c7, .slice X.a8 X.l8 X.c8, .slice X.a9 X.l9 X.c9, .int .i64 X.er], .slice C R.length cr, .slice none 0 0, .slice none 0 0, .slice E S.length cs] wx (IfB (Few4 X pl R.length 0 0 S.length) wx)) := fun wx h => few4_any right_ok X pl C _ cr none 0 0 none 0 0 E _ cs wx (hX.up h) hnm
  have KP : Hid (∀ wx, Below w.heap.size w wx → Calls Try.prog 9 #[.agg #[.string X.nm, .slice X.a1 X.l1 X.c1, .int .i64 X.cl, .slice X.P pl.length X.cP, .slice X.a4 X.l4 X.c4, .slice X.a5 X.l5 X.c5, .slice X.a6 X.l6 X.c6, .slice X.a7 X.l7 X.c7, .slice X.a8 X.l8 X.c8, .slice X.a9 X.l9 X.c9, .int .i64 X.er], .slice C R.length cr] wx (IfB (Plain4 X pl R) wx)) := fun wx h => plain4_any X pl R C cr wx (hR.below h) h.size hr hl hl1
  have KM : Hid (∀ wx, Below w.heap.size w wx → Calls Try.prog 10 #[.slice E S.length cs] wx (IfB (Mod4 S) wx)) := fun wx h => modest4_any S E cs wx (hE.below h) h.size hs
  have HL1 := Lib.hid hl1
  clear hX hnm hl1
  by_cases hall : Few4 X pl R.length 0 0 S.length ∧ Plain4 X pl R ∧ Mod4 S
  case neg =>
    have HA := Lib.hid hall
    clear hall hP hR hE hS
    go_enter Try.func3, Try.ntmps3
    go_wp2_with (first | (go_at_call 7; ((with_reducible refine (K0.out _).mono ?_); rintro e1 w1 ⟨rfl, hb1⟩; have hB1 : Below w.heap.size w w1 := (below_new w _).trans (hb1.mono (by simp)); have hX1 : BoxB w1 w.heap.size X pl := (BoxB.new w X pl).below hb1 (by simp); have hz1 : w.heap.size < w1.heap.size := Nat.lt_of_lt_of_le (by simp) hb1.size; obtain ⟨x0, x1, x2, x3, x4, x5, x6, x7, x8, x9, x10⟩ := hX1.cells)) | (go_at_call 8; ((with_reducible refine (KF.out _ hB1).mono ?_); rintro e2 w2 ⟨b2, rfl, hp2, hb2⟩; have hB2 := hB1.trans (hb2.mono hB1.size); have hX2 := hX1.below hb2 hz1; have hz2 : w.heap.size < w2.heap.size := Nat.lt_of_lt_of_le hz1 hb2.size; clear x0 x1 x2 x3 x4 x5 x6 x7 x8 x9 x10; obtain ⟨x0, x1, x2, x3, x4, x5, x6, x7, x8, x9, x10⟩ := hX2.cells; cases b2; (try go_simp); go_wp2_with fail; go_ret; exact ⟨rfl, hB2⟩)) | (go_at_call 9; ((with_reducible refine (KP.out _ hB2).mono ?_); rintro e3 w3 ⟨b3, rfl, hp3, hb3⟩; have hB3 := hB2.trans (hb3.mono hB2.size); have hX3 := hX2.below hb3 hz2; have hz3 : w.heap.size < w3.heap.size := Nat.lt_of_lt_of_le hz2 hb3.size; clear x0 x1 x2 x3 x4 x5 x6 x7 x8 x9 x10; obtain ⟨x0, x1, x2, x3, x4, x5, x6, x7, x8, x9, x10⟩ := hX3.cells; cases b3; (try go_simp); go_wp2_with fail; go_ret; exact ⟨rfl, hB3⟩)) | (go_at_call 10; ((with_reducible refine (KM.out _ hB3).mono ?_); rintro e4 w4 ⟨b4, rfl, hp4, hb4⟩; have hB4 := hB3.trans (hb4.mono hB3.size); have hX4 := hX3.below hb4 hz3; have hz4 : w.heap.size < w4.heap.size := Nat.lt_of_lt_of_le hz3 hb4.size; clear x0 x1 x2 x3 x4 x5 x6 x7 x8 x9 x10; obtain ⟨x0, x1, x2, x3, x4, x5, x6, x7, x8, x9, x10⟩ := hX4.cells; cases b4; (try go_simp); go_wp2_with fail; go_ret; exact ⟨rfl, hB4⟩; exact absurd ⟨hp2 (by trivial), hp3 (by trivial), hp4 (by trivial)⟩ HA.out)) | fail)
  obtain ⟨hF, hPl, hM4⟩ := hall
  obtain ⟨⟨f1, f2, f3, f4, f5⟩, f6, _, _, f9⟩ := hF
  have hM := mod4_modest (pl := pl) hM4 f9 f6
  have hn := hPl.2
  have hdl := dayLs_len (pl := pl) (R := R) (S := S)
  have hsh := shares_day (pl := pl) (S := S) hn
  have h64 := day_in64 (pl := pl) hM
  obtain ⟨m, hm⟩ : ∃ m, dayX pl R S = m := ⟨_, rfl⟩
  have hk := dayX_keys (pl := pl) (S := S) hn
  have hbd := dayX_bd hM
  rw [hm] at hsh hk hbd
  have KD : Hid (∀ wx, Below w.heap.size w wx → Calls Try.prog 11 #[.agg #[.string X.nm, .slice X.a1 X.l1 X.c1, .int .i64 X.cl, .slice X.P pl.length X.cP, .slice X.a4 X.l4 X.c4, .slice X.a5 X.l5 X.c5, .slice X.a6 X.l6 X.c6, .slice X.a7 X.l7 X.c7, .slice X.a8 X.l8 X.c8, .slice X.a9 X.l9 X.c9, .int .i64 X.er], .slice C R.length cr, .slice E S.length cs] wx (fun e w' => ∃ D cd, e = .returned (.tuple #[.slice D R.length cd, .slice (some ⟨wx.heap.size + 1 + 1, 0, none⟩) pl.length pl.length]) ∧ PairsAt w' w'.heap.size D (dayLs pl R S) ∧ Below wx.heap.size wx w')) := fun wx h => (day_any X pl R S C cr E cs wx (hP.below h) (hR.below h) (hE.below h) h.size (by omega) (by omega) hs hS).mono fun e w' hd => day_pairs4 hd
  have hund := correct_none day kn hk hbd
  obtain ⟨EB, hEB⟩ : ∃ Q, correctL day kn m [] = Q := ⟨_, rfl⟩
  obtain ⟨EF, hEF⟩ : ∃ Q, grantsL day kn m = Q := ⟨_, rfl⟩
  rw [hEB, hEF] at hund
  obtain ⟨N, hN⟩ : ∃ N, EF.length = N := ⟨_, rfl⟩
  have hNB : EB.length = N := hund.1.trans hN
  have hNl : N ≤ 100 := by
    have h1 := flat_len (fun t => addL_len day kn 0 t (lookX m t)) (m.map (·.1))
    rw [show (m.map (·.1)).flatMap (fun t => addL day kn 0 t (lookX m t)) = EF from hEF, hN, List.length_map] at h1
    have h2 : m.length ≤ R.length := by
      rw [← hm]
      have := List.length_filter_le (fun x : SP.T3 × Int => decide (0 < x.2)) (dayT pl R S)
      have h3 : (dayT pl R S).length = R.length := by simp [dayT]
      unfold dayX
      omega
    omega
  have KC1 : Hid (∀ (G : Option Addr) (cg : Nat) (wx : World), Below w.heap.size w wx → PairsAt wx wx.heap.size G (dayLs pl R S) → Calls Try.prog 12 #[.agg #[.string X.nm, .slice X.a1 X.l1 X.c1, .int .i64 X.cl, .slice X.P pl.length X.cP, .slice X.a4 X.l4 X.c4, .slice X.a5 X.l5 X.c5, .slice X.a6 X.l6 X.c6, .slice X.a7 X.l7 X.c7, .slice X.a8 X.l8 X.c8, .slice X.a9 X.l9 X.c9, .int .i64 X.er], .slice C R.length cr, .slice C R.length cr, .slice G R.length cg, .slice E S.length cs, .int .i64 day, .int .i64 kn] wx (fun e w' => ∃ D' cd C' cc, e = .returned (.tuple #[.slice D' R.length cd, .slice C' 0 cc]) ∧ PairsAt w' w'.heap.size D' (dayLs pl R S) ∧ Below wx.heap.size wx w')) := fun G cg wx h hG => by
    have q := correct_any X pl R R (dayLs pl R S) S day kn C cr C cr G cg E cs wx ((hP.below h).more h.size) ((hR.below h).more h.size) ((hR.below h).more h.size) hG ((hE.below h).more h.size) (Nat.le_refl _) (by omega) (by omega) (by omega) (by omega) hs hS h64 h64
    rw [hsh, correct_same day kn hk, hdl] at q
    exact q.mono fun e w' ⟨D', cd, C', cc, he, h1, _, h3⟩ => ⟨D', cd, C', cc, he, h1, h3⟩
  have KC2 : Hid (∀ (G : Option Addr) (cg : Nat) (wx : World), Below w.heap.size w wx → PairsAt wx wx.heap.size G (dayLs pl R S) → Calls Try.prog 12 #[.agg #[.string X.nm, .slice X.a1 X.l1 X.c1, .int .i64 X.cl, .slice X.P pl.length X.cP, .slice X.a4 X.l4 X.c4, .slice X.a5 X.l5 X.c5, .slice X.a6 X.l6 X.c6, .slice X.a7 X.l7 X.c7, .slice X.a8 X.l8 X.c8, .slice X.a9 X.l9 X.c9, .int .i64 X.er], .slice C R.length cr, .slice none 0 0, .slice G R.length cg, .slice E S.length cs, .int .i64 day, .int .i64 kn] wx (fun e w' => ∃ D' cd C' cc, e = .returned (.tuple #[.slice D' 0 cd, .slice C' N cc]) ∧ RowAt etC 7 w' w'.heap.size C' EB ∧ Below wx.heap.size wx w')) := fun G cg wx h hG => by
    have q := correct_any X pl R [] (dayLs pl R S) S day kn C cr none 0 G cg E cs wx ((hP.below h).more h.size) ((hR.below h).more h.size) (fun h => absurd h (by simp)) hG ((hE.below h).more h.size) (Nat.le_refl _) (by omega) (by omega) (by simp) (by omega) hs hS h64 (fun x hx => by cases hx)
    rw [hsh, show shL [] (dayLs pl [] S) = [] from rfl, hEB, hdl] at q
    exact q.mono fun e w' ⟨D', cd, C', cc, he, _, h1, h3⟩ => ⟨D', cd, C', cc, by rw [he, hNB]; rfl, h1, h3⟩
  have KG : Hid (∀ (G : Option Addr) (cg : Nat) (wx : World), Below w.heap.size w wx → PairsAt wx wx.heap.size G (dayLs pl R S) → Calls Try.prog 13 #[.int .i64 day, .int .i64 kn, .slice C R.length cr, .slice G R.length cg] wx (fun e w' => ∃ C' cc, e = .returned (.slice C' N cc) ∧ RowAt etC 7 w' w'.heap.size C' EF ∧ Below wx.heap.size wx w')) := fun G cg wx h hG => by
    have q := grants_any day kn R (dayLs pl R S) C cr G cg wx ((hR.below h).more h.size) hG (Nat.le_refl _) (by omega) (by omega) h64
    rw [hsh, hEF, hdl] at q
    exact q.mono fun e w' ⟨C', cc, he, h1, h3⟩ => ⟨C', cc, by rw [he, hN], h1, h3⟩
  have KS : Hid (∀ (G : Option Addr) (cg : Nat) (H : Option Addr) (ch : Nat) (wx : World), PairsAt wx wx.heap.size G (dayLs pl R S) → PairsAt wx wx.heap.size H (dayLs pl R S) → Calls Try.prog 14 #[.slice G R.length cg, .slice H R.length ch] wx (fun e w' => e = .returned (.bool true) ∧ ∃ n, w' = wx.drewN n)) := fun G cg H ch wx hG hH => by
    have q := sameG_any (dayLs pl R S) (dayLs pl R S) G H cg ch wx hG hH (by omega) (by omega)
    rw [hdl] at q
    exact q.mono fun e w' ⟨he, hw⟩ => ⟨by rw [he]; unfold SameL; simp, hw⟩
  have HU := Lib.hid hund
  have HN := Lib.hid (And.intro hN hNB)
  obtain ⟨GG, hGG⟩ : ∃ Q, dayLs pl R S = Q := ⟨_, rfl⟩
  rw [hGG] at KD KC1 KC2 KG KS
  have HRl : R.length ≤ 8 := f6
  clear hP hR hE hS hM hM4 hPl hn hdl hsh h64 hk hbd hEB hEF hund hN hNB hGG hm f1 f2 f3 f4 f5 f6 f9
  go_enter Try.func3, Try.ntmps3
  go_upto_region 4 with (first | (go_at_call 7; ((with_reducible refine (K0.out _).mono ?_); rintro e1 w1 ⟨rfl, hb1⟩; have hB1 : Below w.heap.size w w1 := (below_new w _).trans (hb1.mono (by simp)); have hX1 : BoxB w1 w.heap.size X pl := (BoxB.new w X pl).below hb1 (by simp); have hz1 : w.heap.size < w1.heap.size := Nat.lt_of_lt_of_le (by simp) hb1.size; obtain ⟨x0, x1, x2, x3, x4, x5, x6, x7, x8, x9, x10⟩ := hX1.cells)) | (go_at_call 8; ((with_reducible refine (KF.out _ hB1).mono ?_); rintro e2 w2 ⟨b2, rfl, hp2, hb2⟩; have hB2 := hB1.trans (hb2.mono hB1.size); have hX2 := hX1.below hb2 hz1; have hz2 : w.heap.size < w2.heap.size := Nat.lt_of_lt_of_le hz1 hb2.size; clear x0 x1 x2 x3 x4 x5 x6 x7 x8 x9 x10; obtain ⟨x0, x1, x2, x3, x4, x5, x6, x7, x8, x9, x10⟩ := hX2.cells; cases b2; (try go_simp); go_wp2_with fail; go_ret; exact ⟨rfl, hB2⟩)) | (go_at_call 9; ((with_reducible refine (KP.out _ hB2).mono ?_); rintro e3 w3 ⟨b3, rfl, hp3, hb3⟩; have hB3 := hB2.trans (hb3.mono hB2.size); have hX3 := hX2.below hb3 hz2; have hz3 : w.heap.size < w3.heap.size := Nat.lt_of_lt_of_le hz2 hb3.size; clear x0 x1 x2 x3 x4 x5 x6 x7 x8 x9 x10; obtain ⟨x0, x1, x2, x3, x4, x5, x6, x7, x8, x9, x10⟩ := hX3.cells; cases b3; (try go_simp); go_wp2_with fail; go_ret; exact ⟨rfl, hB3⟩)) | (go_at_call 10; ((with_reducible refine (KM.out _ hB3).mono ?_); rintro e4 w4 ⟨b4, rfl, hp4, hb4⟩; have hB4 := hB3.trans (hb4.mono hB3.size); have hX4 := hX3.below hb4 hz3; have hz4 : w.heap.size < w4.heap.size := Nat.lt_of_lt_of_le hz3 hb4.size; clear x0 x1 x2 x3 x4 x5 x6 x7 x8 x9 x10; obtain ⟨x0, x1, x2, x3, x4, x5, x6, x7, x8, x9, x10⟩ := hX4.cells; cases b4; (try go_simp); go_wp2_with fail; go_ret; exact ⟨rfl, hB4⟩; clear hp2 hp3 hp4 KF KP KM K0)) | fail)
  go_upto_region 5 with (first | (go_at_call 11; ((with_reducible refine (KD.out _ hB4).mono ?_); rintro e5 w5 ⟨D5, cd5, rfl, hD5, hb5⟩; have hB5 := hB4.trans (hb5.mono hB4.size); have hX5 := hX4.below hb5 hz4; have hz5 : w.heap.size < w5.heap.size := Nat.lt_of_lt_of_le hz4 hb5.size; clear x0 x1 x2 x3 x4 x5 x6 x7 x8 x9 x10; obtain ⟨x0, x1, x2, x3, x4, x5, x6, x7, x8, x9, x10⟩ := hX5.cells)) | fail)
  clear hX4 hB4 hb4 KD
  go_upto_region 6 with (first | (go_at_call 12; ((with_reducible refine (KC1.out D5 cd5 _ hB5 hD5).mono ?_); rintro e6 w6 ⟨D6, cd6, C6, cc6, rfl, hD6, hb6⟩; have hB6 := hB5.trans (hb6.mono hB5.size); have hX6 := hX5.below hb6 hz5; have hz6 : w.heap.size < w6.heap.size := Nat.lt_of_lt_of_le hz5 hb6.size; clear x0 x1 x2 x3 x4 x5 x6 x7 x8 x9 x10; obtain ⟨x0, x1, x2, x3, x4, x5, x6, x7, x8, x9, x10⟩ := hX6.cells)) | fail)
  have hD56 := (hD5.below hb6).more hb6.size
  clear hX5 hB5 hb5 hD5 KC1
  go_upto_region 7 with (first | (go_at_call 12; ((with_reducible refine (KC2.out D5 cd5 _ hB6 hD56).mono ?_); rintro e7 w7 ⟨D7, cd7, C7, cc7, rfl, hE7, hb7⟩; have hB7 := hB6.trans (hb7.mono hB6.size); have hX7 := hX6.below hb7 hz6; have hz7 : w.heap.size < w7.heap.size := Nat.lt_of_lt_of_le hz6 hb7.size; clear x0 x1 x2 x3 x4 x5 x6 x7 x8 x9 x10; obtain ⟨x0, x1, x2, x3, x4, x5, x6, x7, x8, x9, x10⟩ := hX7.cells)) | fail)
  have hD57 := (hD56.below hb7).more hb7.size
  have hD67 := (hD6.below hb7).more hb7.size
  clear hX6 hB6 hb6 hD56 hD6 KC2
  go_upto_region 8 with (first | (go_at_call 13; ((with_reducible refine (KG.out D5 cd5 _ hB7 hD57).mono ?_); rintro e8 w8 ⟨C8, cc8, rfl, hE8, hb8⟩; have hB8 := hB7.trans (hb8.mono hB7.size); have hX8 := hX7.below hb8 hz7; have hz8 : w.heap.size < w8.heap.size := Nat.lt_of_lt_of_le hz7 hb8.size; clear x0 x1 x2 x3 x4 x5 x6 x7 x8 x9 x10; obtain ⟨x0, x1, x2, x3, x4, x5, x6, x7, x8, x9, x10⟩ := hX8.cells)) | fail)
  have hD58 := (hD57.below hb8).more hb8.size
  have hD68 := (hD67.below hb8).more hb8.size
  have hE78 := (hE7.below hb8).more hb8.size
  have HB8 := Lib.hid hB8
  have HE7 := Lib.hid hE78
  have HE8 := Lib.hid hE8
  clear hX7 hB7 hb7 hD57 hD67 hE7 KG hX8 hB8 hb8 hE78 hE8 x0 x1 x2 x3 x4 x5 x6 x7 x8 x9 x10
  have n1 : ((N : Int) != (N : Int)) = false := by simp
  go_upto_region 10 with (first | (go_at_call 14; ((with_reducible refine (KS.out _ _ _ _ _ hD68 hD58).mono ?_); rintro e9 w9 ⟨rfl, n9, hw9⟩; subst hw9)) | fail)
  clear hD58 hD68 KS
  go_wp2_with fail
  go_loopw [19] (fun iv wr => ∃ i n : Nat, i ≤ N ∧ iv = .int .i64 i ∧ wr = w8.drewN n) (fun iv _ => N - (intOf iv).toNat)
  case atStart => exact ⟨0, _, Nat.zero_le _, rfl, rfl⟩
  case round =>
    obtain ⟨i, n, hi, rfl, hwr⟩ := hrel
    subst hwr
    by_cases hlt : i < N
    · obtain ⟨x, hx⟩ : ∃ x, EB[i]? = some x := ⟨_, List.getElem?_eq_getElem (by have := HN.out.2; omega)⟩
      obtain ⟨y, hy⟩ : ∃ y, EF[i]? = some y := ⟨_, List.getElem?_eq_getElem (by have := HN.out.1; omega)⟩
      obtain ⟨u1, u2, u3, u4⟩ := HU.out.2 i x y hx hy
      obtain ⟨b, off, ec, hb, p2, p3, p4, p6⟩ := et_at HE7.out hx
      subst ec
      obtain ⟨b2, off2, ec, hb2, q2, q3, q4, q6⟩ := et_at HE8.out hy
      subst ec
      rw [u1] at p4
      rw [u2] at p2
      rw [u3] at p3
      rw [u4] at p6
      obtain ⟨yl, hyl⟩ : ∃ z, y.litres = z := ⟨_, rfl⟩
      obtain ⟨yo, hyo⟩ : ∃ z, y.owner = z := ⟨_, rfl⟩
      obtain ⟨yp, hyp⟩ : ∃ z, y.place = z := ⟨_, rfl⟩
      obtain ⟨yr, hyr⟩ : ∃ z, y.ref = z := ⟨_, rfl⟩
      rw [hyl] at p4 q4
      rw [hyo] at p2 q2
      rw [hyp] at p3 q3
      rw [hyr] at p6 q6
      rw [← IntWalk.i64_left] at p4
      obtain ⟨z, hz⟩ : ∃ z, IntKind.i64.wrap (-yl) = z := ⟨_, rfl⟩
      rw [hz] at p4
      have g1 : (z != z) = false := by simp
      have g2 : (yo != yo) = false := by simp
      have g3 : (yp != yp) = false := by simp
      have g4 : (yr != yr) = false := by simp
      have hi0 : 0 ≤ (i : Int) ∧ (i : Int) < (N : Int) := by omega
      clear u1 u2 u3 u4 hyl hyo hyp hyr hx hy
      go_upto_region 13 with fail
      go_quiet (fail)
      go_wp2_with fail
      go_roundw
      case rel => exact ⟨i + 1, _, by omega, by go_num, rfl⟩
      case measure => simp [intOf]; omega
    · go_wp2_with fail
      go_ret
      exact ⟨rfl, below_drewN HB8.out _⟩
end Go.Proofs.Ythoigjkelinjhaa

