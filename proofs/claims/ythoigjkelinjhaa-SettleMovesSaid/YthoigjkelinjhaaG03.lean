/- Joined of: LP LP2 L2. -/
import Derived.Test.YthoigjkelinjhaaR0
/- Plain facts for the laws of settle: a day's shares, and what a correction books. -/
set_option linter.unusedSimpArgs false
set_option linter.unusedVariables false
namespace Go.Proofs.Ythoigjkelinjhaa
open Go.RowKit CM

theorem posSum_le {sup : Nat → Int} {M : Int} (h0 : 0 ≤ M) (h : ∀ p, sup p ≤ M) : ∀ n : Nat, posSum sup n ≤ (n : Int) * M
  | 0 => by simp [posSum]
  | n + 1 => by
    have ih := posSum_le h0 h n
    have h1 := h n
    have e : posSum sup (n + 1) = posSum sup n + max 0 (sup n) := rfl
    rw [e, show ((n + 1 : Nat) : Int) * M = (n : Int) * M + M by rw [Int.natCast_succ, Int.add_mul]; omega]
    omega
theorem sup_le {S : List Int} (hm : Mod4 S) (p : Nat) : supF S p ≤ 1099511627776 := by
  unfold supF
  rw [List.getD_eq_getElem?_getD]
  cases h : S[p]? with
  | none => simp
  | some x => exact (hm x (List.mem_of_getElem? h)).2
theorem mod4_modest {pl : Pl} {R : List Rt} {S : List Int} (hm : Mod4 S) (hS : S.length ≤ 10) (hr : R.length ≤ 8) : CM.Modest pl R (supF S) S.length := by
  refine ⟨?_, by omega⟩
  have h1 := posSum_le (by omega) (sup_le hm) (min pl.length S.length)
  have h2 : ((min pl.length S.length : Nat) : Int) ≤ 10 := by omega
  have h3 : ((min pl.length S.length : Nat) : Int) * 1099511627776 ≤ 10 * 1099511627776 := Int.mul_le_mul_of_nonneg_right h2 (by omega)
  omega
/-- The day's grants, each with its right's triple. -/
def dayT (pl : Pl) (R : List Rt) (S : List Int) : List (SP.T3 × Int) := (List.range R.length).map fun i => (((rtN R i).id, (rtN R i).owner, (rtN R i).place), litN pl R S i)
theorem map_rtN {α : Type} (f : Rt → α) (R : List Rt) : R.map f = (List.range R.length).map fun i => f (rtN R i) := by
  apply List.ext_getElem?
  intro i
  by_cases h : i < R.length
  · have e : R[i]? = some (rtN R i) := by unfold rtN; rw [List.getD_eq_getElem?_getD, List.getElem?_eq_getElem h]; rfl
    rw [List.getElem?_map, e, List.getElem?_map, List.getElem?_range h]; rfl
  · rw [List.getElem?_eq_none (by simp; omega), List.getElem?_eq_none (by simp; omega)]
section
variable {pl : Pl} {R : List Rt} {S : List Int}
theorem dayT_trs : trs R = (dayT pl R S).map (·.1) := by
  unfold trs dayT
  rw [map_rtN, List.map_map]; rfl
theorem dayT_day : dayLs pl R S = (dayT pl R S).map fun x => (x.1.1, x.2) := by
  unfold dayT
  rw [List.map_map]; rfl
theorem dayT_ids : (dayT pl R S).map (fun x => x.1.1) = R.map (·.id) := by
  unfold dayT
  rw [map_rtN, List.map_map]; rfl
/-- The shares of the day's grants. -/
def dayX (pl : Pl) (R : List Rt) (S : List Int) : List (SP.T3 × Int) := (dayT pl R S).filter (fun x => decide (0 < x.2))
theorem shares_day (hn : (R.map (·.id)).Nodup) : shL R (dayLs pl R S) = dayX pl R S := by
  unfold shL
  rw [dayT_trs (pl := pl) (S := S), dayT_day, SP.shares_of wrap64 _ (by rw [dayT_ids]; exact hn)]
  rfl
theorem dayX_ids (hn : (R.map (·.id)).Nodup) : ((dayX pl R S).map (fun x => x.1.1)).Nodup := by
  have h : ((dayT pl R S).map (fun x => x.1.1)).Nodup := by rw [dayT_ids]; exact hn
  exact h.sublist (List.filter_sublist.map _)
theorem dayX_keys (hn : (R.map (·.id)).Nodup) : ((dayX pl R S).map (·.1)).Nodup := SP.nodup_of_map (fun t : SP.T3 => t.1) _ (by rw [List.map_map]; exact dayX_ids hn)
theorem litN_bd (hM : CM.Modest pl R (supF S) S.length) (i : Nat) : 0 ≤ litN pl R S i ∧ litN pl R S i ≤ 1125899906842624 := hM.day i
theorem dayX_bd (hM : CM.Modest pl R (supF S) S.length) : ∀ x ∈ dayX pl R S, 0 < x.2 ∧ x.2 ≤ 1125899906842624 := fun x hx => by
  obtain ⟨h1, h2⟩ := List.mem_filter.1 hx
  obtain ⟨i, _, rfl⟩ := List.mem_map.1 h1
  exact ⟨by simpa using h2, (litN_bd hM i).2⟩
theorem day_in64 (hM : CM.Modest pl R (supF S) S.length) : ∀ x ∈ dayLs pl R S, In64 x.2 := fun x hx => by
  rw [dayT_day] at hx
  obtain ⟨y, hy, rfl⟩ := List.mem_map.1 hx
  obtain ⟨i, _, rfl⟩ := List.mem_map.1 hy
  have := litN_bd hM i
  unfold In64
  dsimp only
  omega
end
section
variable {m : List (SP.T3 × Int)}
theorem getX_of : ∀ (m : List (SP.T3 × Int)), (m.map (·.1)).Nodup → ∀ x ∈ m, getX m x.1 = some x.2
  | [], _, x, h => by cases h
  | y :: l, hn, x, h => by
    rw [List.map_cons, List.nodup_cons] at hn
    unfold getX
    rw [List.find?_cons]
    by_cases e : x.1 = y.1
    · rcases List.mem_cons.1 h with rfl | h1
      · simp
      · exact absurd (e ▸ List.mem_map.2 ⟨x, h1, rfl⟩) hn.1
    · rw [decide_eq_false e]
      rcases List.mem_cons.1 h with rfl | h1
      · exact absurd rfl e
      · exact getX_of l hn.2 x h1
theorem getX_out {t : SP.T3} (h : t ∉ m.map (·.1)) : getX m t = none := by
  unfold getX
  have : m.find? (fun p => decide (t = p.1)) = none := by
    rw [List.find?_eq_none]
    intro x hx
    have : t ≠ x.1 := fun e => h (e ▸ List.mem_map.2 ⟨x, hx, rfl⟩)
    simpa using this
  rw [this]; rfl
theorem look_key (hn : (m.map (·.1)).Nodup) {t : SP.T3} (ht : t ∈ m.map (·.1)) : ∃ x ∈ m, x.1 = t ∧ lookX m t = x.2 ∧ gone m t = false := by
  obtain ⟨x, hx, rfl⟩ := List.mem_map.1 ht
  refine ⟨x, hx, rfl, ?_, ?_⟩
  · unfold lookX; rw [getX_of m hn x hx]; rfl
  · unfold gone; rw [getX_of m hn x hx]; rfl
theorem wrap64_of {z : Int} (h : -9223372036854775808 ≤ z ∧ z ≤ 9223372036854775807) : wrap64 z = z := IntWalk.wrap64_in z h
/-- The same again: nothing is booked. -/
theorem correct_same (d kn : Int) (hn : (m.map (·.1)).Nodup) : correctL d kn m m = [] := by
  have h1 : afterL d kn m m = [] := by
    unfold afterL
    rw [List.flatMap_eq_nil_iff]
    intro t _
    rw [Int.sub_self, wrap64_of (by omega)]
    rfl
  have h2 : backL d kn m m = [] := by
    unfold backL
    have : (m.map (·.1)).filter (gone m) = [] := by
      rw [List.filter_eq_nil_iff]
      intro t ht
      obtain ⟨_, _, _, _, h⟩ := look_key hn ht
      rw [h]; simp
    rw [this]; rfl
  unfold correctL
  rw [h1, h2]; rfl
/-- An entry that takes another one back. -/
def Undo (x y : LD.Et) : Prop := x.litres = wrap64 (-y.litres) ∧ x.owner = y.owner ∧ x.place = y.place ∧ x.ref = y.ref
def UndoL (A B : List LD.Et) : Prop := A.length = B.length ∧ ∀ (i : Nat) (x y : LD.Et), A[i]? = some x → B[i]? = some y → Undo x y
theorem UndoL.nil : UndoL [] [] := ⟨rfl, fun i x y h => by simp at h⟩
theorem UndoL.append {A B C D : List LD.Et} (h : UndoL A B) (g : UndoL C D) : UndoL (A ++ C) (B ++ D) := by
  refine ⟨by rw [List.length_append, List.length_append, h.1, g.1], fun i x y hx hy => ?_⟩
  by_cases hi : i < A.length
  · rw [List.getElem?_append_left hi] at hx
    rw [List.getElem?_append_left (by have := h.1; omega)] at hy
    exact h.2 i x y hx hy
  · rw [List.getElem?_append_right (by omega)] at hx
    rw [List.getElem?_append_right (by have := h.1; omega), ← h.1] at hy
    exact g.2 _ x y hx hy
theorem undo_flat {f g : SP.T3 → List LD.Et} : ∀ T : List SP.T3, (∀ t ∈ T, UndoL (f t) (g t)) → UndoL (T.flatMap f) (T.flatMap g)
  | [], _ => UndoL.nil
  | t :: T, h => by
    rw [List.flatMap_cons, List.flatMap_cons]
    exact (h t (by simp)).append (undo_flat T (fun u hu => h u (by simp [hu])))
theorem undo_pair (d kn : Int) (t : SP.T3) {n : Int} (hn : 0 < n ∧ n ≤ 1125899906842624) : UndoL (addL d kn 1 t (wrap64 (-n))) (addL d kn 0 t n) := by
  have e1 : wrap64 (-n) = -n := wrap64_of (by omega)
  have e2 : wrap64 (-(-n)) = n := by rw [Int.neg_neg]; exact wrap64_of (by omega)
  rw [e1]
  unfold addL
  rw [if_neg (by omega), if_neg (by omega), e1, e2]
  refine ⟨rfl, fun i x y hx hy => ?_⟩
  match i with
  | 0 =>
    simp at hx hy
    subst hx hy
    exact ⟨e1.symm, rfl, rfl, rfl⟩
  | 1 =>
    simp at hx hy
    subst hx hy
    exact ⟨e2.symm, rfl, rfl, rfl⟩
  | i + 2 => simp at hx
/-- No shares any more: all is taken back. -/
theorem correct_none (d kn : Int) (hn : (m.map (·.1)).Nodup) (hb : ∀ x ∈ m, 0 < x.2 ∧ x.2 ≤ 1125899906842624) : UndoL (correctL d kn m []) (grantsL d kn m) := by
  have h1 : correctL d kn m [] = (m.map (·.1)).flatMap fun t => addL d kn 1 t (wrap64 (-lookX m t)) := by
    unfold correctL afterL backL
    have : (m.map (·.1)).filter (gone []) = m.map (·.1) := List.filter_eq_self.2 (fun t _ => rfl)
    rw [this]; rfl
  rw [h1]
  unfold grantsL
  refine undo_flat _ (fun t ht => ?_)
  obtain ⟨x, hx, _, h, _⟩ := look_key hn ht
  rw [h]
  exact undo_pair d kn t (hb x hx)
end
end Go.Proofs.Ythoigjkelinjhaa

/- Plain facts for SettleMoves: a right of another owner. -/
namespace Go.Proofs.Ythoigjkelinjhaa
open Go.RowKit CM

def setO (r : Rt) (o : Int) : Rt := { r with owner := o }
section
variable {pl : Pl} {R : List Rt} {S : List Int} {q : Nat} {r : Rt} {o : Int}
theorem rtN_at (hq : R[q]? = some r) : rtN R q = r := by unfold rtN; rw [List.getD_eq_getElem?_getD, hq]; rfl
theorem rtN_set (hq : R[q]? = some r) (i : Nat) : rtN (R.set q (setO r o)) i = if i = q then setO r o else rtN R i := by
  have hl := (List.getElem?_eq_some_iff.1 hq).1
  unfold rtN
  rw [List.getD_eq_getElem?_getD, List.getD_eq_getElem?_getD, List.getElem?_set]
  by_cases h : q = i
  · subst h; rw [if_pos rfl, if_pos hl, if_pos rfl]; rfl
  · rw [if_neg h, if_neg (fun e => h e.symm)]
theorem rcR_set (hq : R[q]? = some r) : rcR pl (R.set q (setO r o)) = rcR pl R := by
  funext i
  unfold rcR
  rw [rtN_set hq]
  by_cases h : i = q
  · subst h; rw [if_pos rfl, rtN_at hq]; rfl
  · rw [if_neg h]
theorem rateR_set (hq : R[q]? = some r) : rateR (R.set q (setO r o)) = rateR R := by
  funext i
  unfold rateR
  rw [rtN_set hq]
  by_cases h : i = q
  · subst h; rw [if_pos rfl, rtN_at hq]; rfl
  · rw [if_neg h]
theorem litN_set (hq : R[q]? = some r) : litN pl (R.set q (setO r o)) S = litN pl R S := by
  funext i
  unfold litN
  rw [rcR_set hq, rateR_set hq]
theorem dayT_set (hq : R[q]? = some r) : dayT pl (R.set q (setO r o)) S = (dayT pl R S).set q ((r.id, o, r.place), litN pl R S q) := by
  have hl := (List.getElem?_eq_some_iff.1 hq).1
  apply List.ext_getElem?
  intro i
  have hd : ∀ (Q : List Rt) (k : Nat), k < Q.length → (dayT pl Q S)[k]? = some (((rtN Q k).id, (rtN Q k).owner, (rtN Q k).place), litN pl Q S k) := fun Q k hk => by
    unfold dayT
    rw [List.getElem?_map, List.getElem?_range hk]; rfl
  have hlen : ∀ Q : List Rt, (dayT pl Q S).length = Q.length := fun Q => by simp [dayT]
  by_cases hi : i < R.length
  · rw [hd _ i (by rw [List.length_set]; exact hi), List.getElem?_set, litN_set hq, rtN_set hq]
    by_cases h : q = i
    · subst h
      rw [if_pos rfl, if_pos rfl, if_pos (by rw [hlen]; exact hi)]
      rfl
    · rw [if_neg h, if_neg (fun e => h e.symm), hd _ i hi]
  · rw [List.getElem?_eq_none (by rw [hlen, List.length_set]; omega), List.getElem?_eq_none (by rw [List.length_set, hlen]; omega)]
theorem dayT_at (hq : R[q]? = some r) : (dayT pl R S)[q]? = some ((r.id, r.owner, r.place), litN pl R S q) := by
  have hl := (List.getElem?_eq_some_iff.1 hq).1
  unfold dayT
  rw [List.getElem?_map, List.getElem?_range hl, ← rtN_at hq]; rfl
theorem split_set {α : Type} {l : List α} {k : Nat} {x y : α} (h : l[k]? = some x) : ∃ A B, l = A ++ x :: B ∧ l.set k y = A ++ y :: B := by
  induction l generalizing k with
  | nil => simp at h
  | cons a l ih =>
    cases k with
    | zero =>
      obtain rfl : a = x := by simpa using h
      exact ⟨[], l, rfl, rfl⟩
    | succ k =>
      obtain ⟨A, B, h1, h2⟩ := ih (by simpa using h)
      exact ⟨a :: A, B, by rw [h1]; rfl, by rw [List.set_cons_succ, h2]; rfl⟩
/-- The day's grants do not look at owners. -/
theorem dayLs_set (hq : R[q]? = some r) : dayLs pl (R.set q (setO r o)) S = dayLs pl R S := by
  rw [dayT_day, dayT_day, dayT_set hq]
  obtain ⟨A, B, h1, h2⟩ := split_set (y := ((r.id, o, r.place), litN pl R S q)) (dayT_at (pl := pl) (S := S) hq)
  rw [h2, h1, List.map_append, List.map_append]
  rfl
theorem ids_set (hq : R[q]? = some r) : (R.set q (setO r o)).map (·.id) = R.map (·.id) := by
  obtain ⟨A, B, h1, h2⟩ := split_set (y := setO r o) hq
  rw [h2, h1, List.map_append, List.map_append]; rfl
end
section
variable {A B : List (SP.T3 × Int)} {t u : SP.T3} {n : Int}
theorem moves_four (d kn : Int) (hid : ((A ++ (t, n) :: B).map (fun x => x.1.1)).Nodup) (he : u.1 = t.1) (hne : u ≠ t) (hn : wrap64 n = n) :
    correctL d kn (A ++ (t, n) :: B) (A ++ (u, n) :: B) = addL d kn 1 u n ++ addL d kn 1 t (wrap64 (-n)) := by
  have hid2 : ((A ++ (u, n) :: B).map (fun x => x.1.1)).Nodup := by
    have e : (A ++ (u, n) :: B).map (fun x => x.1.1) = (A ++ (t, n) :: B).map (fun x => x.1.1) := by
      rw [List.map_append, List.map_append, List.map_cons, List.map_cons]
      show _ ++ u.1 :: _ = _ ++ t.1 :: _
      rw [he]
    rw [e]; exact hid
  have hk : ((A ++ (t, n) :: B).map (·.1)).Nodup := SP.nodup_of_map (fun t : SP.T3 => t.1) _ (by rw [List.map_map]; exact hid)
  have hk2 : ((A ++ (u, n) :: B).map (·.1)).Nodup := SP.nodup_of_map (fun t : SP.T3 => t.1) _ (by rw [List.map_map]; exact hid2)
  have only : ∀ (v w : SP.T3), v.1 = w.1 → v ≠ w → ((A ++ (w, n) :: B).map (fun x => x.1.1)).Nodup → v ∉ (A ++ (w, n) :: B).map (·.1) := fun v w h1 h2 hd hm => by
    rw [List.map_append, List.map_cons, List.nodup_append, List.nodup_cons] at hd
    obtain ⟨x, hx, e⟩ := List.mem_map.1 hm
    rcases List.mem_append.1 hx with h | h
    · exact hd.2.2 _ (List.mem_map.2 ⟨x, h, rfl⟩) _ (List.mem_cons_self ..) (by rw [e]; exact h1)
    · rcases List.mem_cons.1 h with rfl | h
      · exact h2 e.symm
      · exact hd.2.1.1 (List.mem_map.2 ⟨x, h, by rw [e]; exact h1⟩)
  have hu : lookX (A ++ (t, n) :: B) u = 0 := by unfold lookX; rw [getX_out (only u t he hne hid)]; rfl
  have ht : gone (A ++ (u, n) :: B) t = true := by unfold gone; rw [getX_out (only t u he.symm (fun e => hne e.symm) hid2)]; rfl
  have hu2 : lookX (A ++ (u, n) :: B) u = n := by unfold lookX; rw [getX_of _ hk2 (u, n) (by simp)]; rfl
  have ht2 : lookX (A ++ (t, n) :: B) t = n := by unfold lookX; rw [getX_of _ hk (t, n) (by simp)]; rfl
  have both : ∀ x ∈ A ++ B, lookX (A ++ (t, n) :: B) x.1 = x.2 ∧ lookX (A ++ (u, n) :: B) x.1 = x.2 ∧ gone (A ++ (u, n) :: B) x.1 = false := fun x hx => by
    have m1 : x ∈ A ++ (t, n) :: B := by rcases List.mem_append.1 hx with h | h <;> simp [h]
    have m2 : x ∈ A ++ (u, n) :: B := by rcases List.mem_append.1 hx with h | h <;> simp [h]
    refine ⟨?_, ?_, ?_⟩
    · unfold lookX; rw [getX_of _ hk x m1]; rfl
    · unfold lookX; rw [getX_of _ hk2 x m2]; rfl
    · unfold gone; rw [getX_of _ hk2 x m2]; rfl
  have no1 : ∀ Q : List (SP.T3 × Int), (∀ x ∈ Q, x ∈ A ++ B) → (Q.map (·.1)).flatMap (fun z => addL d kn 1 z (wrap64 (lookX (A ++ (u, n) :: B) z - lookX (A ++ (t, n) :: B) z))) = [] := fun Q hQ => by
    rw [List.flatMap_eq_nil_iff]
    intro z hz
    obtain ⟨x, hx, rfl⟩ := List.mem_map.1 hz
    obtain ⟨h1, h2, _⟩ := both x (hQ x hx)
    rw [h1, h2, Int.sub_self, wrap64_of (by omega)]
    rfl
  have no2 : ∀ Q : List (SP.T3 × Int), (∀ x ∈ Q, x ∈ A ++ B) → (Q.map (·.1)).filter (gone (A ++ (u, n) :: B)) = [] := fun Q hQ => by
    rw [List.filter_eq_nil_iff]
    intro z hz
    obtain ⟨x, hx, rfl⟩ := List.mem_map.1 hz
    rw [(both x (hQ x hx)).2.2]; simp
  have e1 : afterL d kn (A ++ (t, n) :: B) (A ++ (u, n) :: B) = addL d kn 1 u n := by
    unfold afterL
    have em : (A ++ (u, n) :: B).map (·.1) = A.map (·.1) ++ u :: B.map (·.1) := by simp
    rw [em, List.flatMap_append, List.flatMap_cons, no1 A (fun x h => by simp [h]), no1 B (fun x h => by simp [h]), hu2, hu, Int.sub_zero, hn]
    simp
  have e2 : backL d kn (A ++ (t, n) :: B) (A ++ (u, n) :: B) = addL d kn 1 t (wrap64 (-n)) := by
    unfold backL
    have em : (A ++ (t, n) :: B).map (·.1) = A.map (·.1) ++ t :: B.map (·.1) := by simp
    rw [em, List.filter_append, List.filter_cons, no2 A (fun x h => by simp [h]), no2 B (fun x h => by simp [h]), if_pos ht]
    simp [ht2]
  unfold correctL
  rw [e1, e2]
end
section
variable {pl : Pl} {R : List Rt} {S : List Int} {q : Nat} {r : Rt} {o : Int}
/-- What the correction books where a right has another owner. -/
theorem correct_moves (d kn : Int) (hM : CM.Modest pl R (supF S) S.length) (hn : (R.map (·.id)).Nodup) (hq : R[q]? = some r) :
    correctL d kn (dayX pl R S) (dayX pl (R.set q (setO r o)) S) = if litN pl R S q = 0 ∨ o = r.owner then [] else addL d kn 1 (r.id, o, r.place) (litN pl R S q) ++ addL d kn 1 (r.id, r.owner, r.place) (wrap64 (-litN pl R S q)) := by
  have hb := litN_bd hM q
  obtain ⟨A, B, h1, h2⟩ := split_set (y := ((r.id, o, r.place), litN pl R S q)) (dayT_at (pl := pl) (S := S) hq)
  have e1 : dayX pl R S = (A ++ ((r.id, r.owner, r.place), litN pl R S q) :: B).filter (fun x => decide (0 < x.2)) := by unfold dayX; rw [h1]
  have e2 : dayX pl (R.set q (setO r o)) S = (A ++ ((r.id, o, r.place), litN pl R S q) :: B).filter (fun x => decide (0 < x.2)) := by unfold dayX; rw [dayT_set hq, h2]
  have hk := dayX_keys (pl := pl) (S := S) hn
  by_cases h0 : litN pl R S q = 0
  · rw [if_pos (.inl h0)]
    have : dayX pl (R.set q (setO r o)) S = dayX pl R S := by
      rw [e1, e2, List.filter_append, List.filter_append, List.filter_cons, List.filter_cons, if_neg (by simp [h0]), if_neg (by simp [h0])]
    rw [this]
    exact correct_same d kn hk
  · by_cases ho : o = r.owner
    · rw [if_pos (.inr ho)]
      have : dayX pl (R.set q (setO r o)) S = dayX pl R S := by rw [e1, e2, ho]
      rw [this]
      exact correct_same d kn hk
    · rw [if_neg (fun h => h.elim h0 ho)]
      have hp : (fun x : SP.T3 × Int => decide (0 < x.2)) ((r.id, r.owner, r.place), litN pl R S q) = true := by simp; omega
      have hp2 : (fun x : SP.T3 × Int => decide (0 < x.2)) ((r.id, o, r.place), litN pl R S q) = true := by simp; omega
      have hid := dayX_ids (pl := pl) (S := S) hn
      rw [e1, List.filter_append, List.filter_cons, if_pos hp] at hid
      rw [e1, e2, List.filter_append, List.filter_append, List.filter_cons, List.filter_cons, if_pos hp, if_pos hp2]
      exact moves_four d kn hid rfl (fun e => ho (by injection e with _ e; injection e)) (wrap64_of (by omega))
theorem share_none {id o p : Int} {r : Rt} (hr : r.id = id) : ∀ (L : List (Int × Int)) (z : Int), id ∉ L.map (·.1) → L.foldl (shareI [r] o p) z = z
  | [], _, _ => rfl
  | x :: L, z, h => by
    rw [List.map_cons, List.mem_cons, not_or] at h
    have e : shareI [r] o p z x = z := by
      show shareS o p x z r = z
      unfold shareS
      exact if_neg (fun g => h.1 (by rw [← hr]; exact g.1))
    rw [List.foldl_cons, e]
    exact share_none hr L z h.2
/-- What an own right's owner has at its place. -/
theorem share_one (hM : CM.Modest pl R (supF S) S.length) (hn : (R.map (·.id)).Nodup) (hq : R[q]? = some r) : shareF [r] (dayLs pl R S) r.owner r.place = litN pl R S q := by
  have hb := litN_bd hM q
  obtain ⟨A, B, h1, _⟩ := split_set (y := ((r.id, r.owner, r.place), litN pl R S q)) (dayT_at (pl := pl) (S := S) hq)
  have hid : ((dayT pl R S).map (fun x => x.1.1)).Nodup := by rw [dayT_ids]; exact hn
  rw [h1, List.map_append, List.map_cons, List.nodup_append, List.nodup_cons] at hid
  have e : dayLs pl R S = A.map (fun x => (x.1.1, x.2)) ++ (r.id, litN pl R S q) :: B.map (fun x => (x.1.1, x.2)) := by rw [dayT_day, h1, List.map_append, List.map_cons]
  have ha : r.id ∉ (A.map (fun x => (x.1.1, x.2))).map (·.1) := fun h => by
    rw [List.map_map] at h
    exact hid.2.2 _ h _ (List.mem_cons_self ..) rfl
  have hbn : r.id ∉ (B.map (fun x => (x.1.1, x.2))).map (·.1) := fun h => by
    rw [List.map_map] at h
    exact hid.2.1.1 h
  unfold shareF
  rw [e, List.foldl_append, share_none rfl _ _ ha, List.foldl_cons, share_none rfl _ _ hbn]
  show shareS r.owner r.place (r.id, litN pl R S q) 0 r = _
  unfold shareS
  rw [if_pos ⟨rfl, rfl, rfl⟩, Int.zero_add]
  exact wrap64_of (by dsimp only; omega)
end
/-- The sums behind i of the four entries. -/
def gainF (n : Int) (i : Nat) : Int := if i = 0 then 0 else n
def lossF (n : Int) (i : Nat) : Int := if i < 3 then 0 else -n
def rivF (n : Int) (i : Nat) : Int := if i = 2 ∨ i = 3 then -n else 0
theorem move_step (d kn id o oo p : Int) {n : Int} (hn : 0 < n ∧ n ≤ 1125899906842624) (h1 : 0 ≤ o) (h2 : 0 ≤ oo) (hne : o ≠ oo) {i : Nat} {x : LD.Et} (hx : (addL d kn 1 (id, o, p) n ++ addL d kn 1 (id, oo, p) (wrap64 (-n)))[i]? = some x) :
    x.place = p ∧ x.ref = id ∧ (-1125899906842624 ≤ x.litres ∧ x.litres ≤ 1125899906842624) ∧
    ((x.owner = o ∧ gainF n i + x.litres = gainF n (i + 1) ∧ lossF n i = lossF n (i + 1) ∧ rivF n i = rivF n (i + 1)) ∨
     (x.owner ≠ o ∧ x.owner = oo ∧ gainF n i = gainF n (i + 1) ∧ lossF n i + x.litres = lossF n (i + 1) ∧ rivF n i = rivF n (i + 1)) ∨
     (x.owner ≠ o ∧ x.owner ≠ oo ∧ gainF n i = gainF n (i + 1) ∧ lossF n i = lossF n (i + 1) ∧ rivF n i + x.litres = rivF n (i + 1))) := by
  have e1 : wrap64 (-n) = -n := wrap64_of (by omega)
  have e2 : wrap64 (-(-n)) = n := by rw [Int.neg_neg]; exact wrap64_of (by omega)
  rw [e1] at hx
  unfold addL at hx
  rw [if_neg (by omega), if_neg (by omega), e1, e2] at hx
  match i with
  | 0 =>
    simp at hx; subst hx
    exact ⟨rfl, rfl, by dsimp only; omega, .inl ⟨rfl, by simp [gainF], by simp [lossF], by simp [rivF]⟩⟩
  | 1 =>
    simp at hx; subst hx
    exact ⟨rfl, rfl, by dsimp only; omega, .inr (.inr ⟨by dsimp only; omega, by dsimp only; omega, by simp [gainF], by simp [lossF], by simp [rivF]⟩)⟩
  | 2 =>
    simp at hx; subst hx
    exact ⟨rfl, rfl, by dsimp only; omega, .inr (.inl ⟨by dsimp only; omega, rfl, by simp [gainF], by simp [lossF], by simp [rivF]⟩)⟩
  | 3 =>
    simp at hx; subst hx
    exact ⟨rfl, rfl, by dsimp only; omega, .inr (.inr ⟨by dsimp only; omega, by dsimp only; omega, by simp [gainF], by simp [lossF], by simp [rivF]; omega⟩)⟩
  | i + 4 => simp at hx
theorem move_len (d kn id o oo p : Int) {n : Int} (hn : 0 < n ∧ n ≤ 1125899906842624) : (addL d kn 1 (id, o, p) n ++ addL d kn 1 (id, oo, p) (wrap64 (-n))).length = 4 := by
  have e1 : wrap64 (-n) = -n := wrap64_of (by omega)
  rw [e1]
  unfold addL
  rw [if_neg (by omega), if_neg (by omega)]
  rfl
theorem gain_bd {n : Int} (hn : 0 < n ∧ n ≤ 1125899906842624) (i : Nat) : (-1125899906842624 ≤ gainF n i ∧ gainF n i ≤ 1125899906842624) ∧ (-1125899906842624 ≤ lossF n i ∧ lossF n i ≤ 1125899906842624) ∧ (-1125899906842624 ≤ rivF n i ∧ rivF n i ≤ 1125899906842624) := by
  unfold gainF lossF rivF
  refine ⟨?_, ?_, ?_⟩ <;> split <;> omega
/-- Rights behind a store of an owner. -/
theorem rights_store {w : World} {g : Nat} {R : List Rt} {q : Nat} {r : Rt} {o : Int} (hq : R[q]? = some r) (h : ∀ i r, R[i]? = some r → ∀ j u, r.cells[j]? = some u → w.cell? ⟨g, i * 9 + j, none⟩ = some u) (hlt : g < w.heap.size) :
    RightsAt (w.setCell ⟨g, q * 9 + 1, none⟩ (.int .i64 o)) (w.setCell ⟨g, q * 9 + 1, none⟩ (.int .i64 o)).heap.size (some ⟨g, 0, none⟩) (R.set q (setO r o)) := fun _ => by
  have hql := (List.getElem?_eq_some_iff.1 hq).1
  refine ⟨g, 0, rfl, by simpa using hlt, fun k x hk j v hj => ?_⟩
  rw [Nat.zero_add]
  have hj9 : j < 9 := (List.getElem?_eq_some_iff.1 hj).1
  rw [List.getElem?_set] at hk
  by_cases hkq : q = k
  · subst hkq
    rw [if_pos rfl, if_pos hql] at hk
    injection hk with hk
    subst hk
    by_cases hj1 : j = 1
    · subst hj1
      have h1 := h q r hq 1 _ rfl
      injection hj with hj
      subst hj
      exact World.cell?_setCell_same _ _ _ h1
    · refine (World.cell?_setCell_other _ _ _ _ (fun e => hj1 (by injection e with e1 e2; omega))).trans (h q r hq j v ?_)
      rw [← hj]
      match j, hj9, hj1 with
      | 0, _, _ => rfl
      | 2, _, _ => rfl
      | 3, _, _ => rfl
      | 4, _, _ => rfl
      | 5, _, _ => rfl
      | 6, _, _ => rfl
      | 7, _, _ => rfl
      | 8, _, _ => rfl
  · rw [if_neg hkq] at hk
    exact (World.cell?_setCell_other _ _ _ _ (fun e => hkq (by injection e with e1 e2; omega))).trans (h k x hk j v hj)
end Go.Proofs.Ythoigjkelinjhaa

/- SettleMoves: for every input the law answers true. (Printed by gen_l2.py.) -/
namespace Go.Proofs.Ythoigjkelinjhaa
open Go.RowKit CM
attribute [local go_sem] alloc_drewN setCell_drewN shape_drewN
theorem et_at {w : World} {B : Nat} {C : Option Addr} {A : List LD.Et} (h : RowAt etC 7 w B C A) {k : Nat} {x : LD.Et} (hk : A[k]? = some x) : ∃ b off, C = some ⟨b, off, none⟩ ∧ b < B ∧ w.cell? ⟨b, off + k * 7 + 2, none⟩ = some (.int .i64 x.owner) ∧ w.cell? ⟨b, off + k * 7 + 3, none⟩ = some (.int .i64 x.place) ∧ w.cell? ⟨b, off + k * 7 + 4, none⟩ = some (.int .i64 x.litres) ∧ w.cell? ⟨b, off + k * 7 + 6, none⟩ = some (.int .i64 x.ref) := by
  have hlt := (List.getElem?_eq_some_iff.1 hk).1
  obtain ⟨b, off, e, hb, hc⟩ := h (by omega)
  exact ⟨b, off, e, hb, hc k x hk 2 _ rfl, hc k x hk 3 _ rfl, hc k x hk 4 _ rfl, hc k x hk 6 _ rfl⟩
theorem Try.infoRight40 : (Try.prog.info? 49).map (fun i => (i.zero, i.size, i.bytes)) = some (some (.agg #[.int .i64 0, .int .i64 0, .int .i64 0, .int .i64 0, .int .i64 0, .int .i64 0, .int .i64 0, .int .i64 0, .int .i64 0]), 9, 72) := by kernel_rfl
theorem rt_len (r : Rt) : r.cells.length = 9 := rfl
theorem rt_ones (A : List Rt) : ∀ u ∈ A.flatMap Rt.cells, u.oneCell' = true := fun u hu => by
  obtain ⟨e, _, h⟩ := List.mem_flatMap.1 hu
  simp only [Rt.cells, List.mem_cons, List.not_mem_nil, or_false] at h
  rcases h with rfl | rfl | rfl | rfl | rfl | rfl | rfl | rfl | rfl <;> rfl
set_option maxRecDepth 100000 in
set_option maxHeartbeats 8000000 in
theorem settleMoves_any (X : Bas) (pl : Pl) (R : List Rt) (S : List Int) (which owner : Int) (C : Option Addr) (cr : Nat) (E : Option Addr) (cs : Nat) (w : World) (hX : RT.BasOk w w.heap.size X pl) (hnm : X.nm.size ≤ 9223372036854775807) (hP : PlacesAt w w.heap.size X.P pl) (hR : RightsAt w w.heap.size C R) (hE : IntsAt w w.heap.size E S)
    (hl : pl.length ≤ 9223372036854775807) (hr : R.length ≤ 9223372036854775807) (hs : S.length ≤ 9223372036854775807) (hS : ∀ x ∈ S, In64 x) :
    Calls Try.prog 4 #[.agg #[.string X.nm, .slice X.a1 X.l1 X.c1, .int .i64 X.cl, .slice X.P pl.length X.cP, .slice X.a4 X.l4 X.c4, .slice X.a5 X.l5 X.c5, .slice X.a6 X.l6 X.c6, .slice X.a7 X.l7 X.c7, .slice X.a8 X.l8 X.c8, .slice X.a9 X.l9 X.c9, .int .i64 X.er], .slice C R.length cr, .slice E S.length cs, .int .i64 which, .int .i64 owner] w (BoolIs true w) := by
  have hl1 := hX.own.1
  have K0 := Lib.hid (fun wx => small4_any wx)
  have KF : Hid (∀ wx, Below w.heap.size w wx → Calls Try.prog 8 #[.agg #[.string X.nm, .slice X.a1 X.l1 X.c1, .int .i64 X.cl, .slice X.P pl.length X.cP, .slice X.a4 X.l4 X.c4, .slice X.a5 X.l5 X.c5, .slice X.a6 X.l6 X.c6, .slice X.a7 X.l7 X.c7, .slice X.a8 X.l8 X.c8, .slice X.a9 X.l9 X.c9, .int .i64 X.er], .slice C R.length cr, .slice none 0 0, .slice none 0 0, .slice E S.length cs] wx (IfB (Few4 X pl R.length 0 0 S.length) wx)) := fun wx h => few4_any right_ok X pl C _ cr none 0 0 none 0 0 E _ cs wx (hX.up h) hnm
  have KP : Hid (∀ wx, Below w.heap.size w wx → Calls Try.prog 9 #[.agg #[.string X.nm, .slice X.a1 X.l1 X.c1, .int .i64 X.cl, .slice X.P pl.length X.cP, .slice X.a4 X.l4 X.c4, .slice X.a5 X.l5 X.c5, .slice X.a6 X.l6 X.c6, .slice X.a7 X.l7 X.c7, .slice X.a8 X.l8 X.c8, .slice X.a9 X.l9 X.c9, .int .i64 X.er], .slice C R.length cr] wx (IfB (Plain4 X pl R) wx)) := fun wx h => plain4_any X pl R C cr wx (hR.below h) h.size hr hl hl1
  have KM : Hid (∀ wx, Below w.heap.size w wx → Calls Try.prog 10 #[.slice E S.length cs] wx (IfB (Mod4 S) wx)) := fun wx h => modest4_any S E cs wx (hE.below h) h.size hs
  have HL1 := Lib.hid hl1
  clear hX hnm hl1
  by_cases hall : Few4 X pl R.length 0 0 S.length ∧ Plain4 X pl R ∧ Mod4 S
  case neg =>
    have HA := Lib.hid hall
    clear hall hP hR hE hS
    go_enter Try.func4, Try.ntmps4
    go_upto_region 2 with (first | (go_at_call 7; ((with_reducible refine (K0.out _).mono ?_); rintro e1 w1 ⟨rfl, hb1⟩; have hB1 : Below w.heap.size w w1 := (below_new w _).trans (hb1.mono (by simp)); have hX1 : BoxB w1 w.heap.size X pl := (BoxB.new w X pl).below hb1 (by simp); have hz1 : w.heap.size < w1.heap.size := Nat.lt_of_lt_of_le (by simp) hb1.size; obtain ⟨x0, x1, x2, x3, x4, x5, x6, x7, x8, x9, x10⟩ := hX1.cells)) | fail)
    try simp only [List.append_eq, List.cons_append, List.nil_append]
    go_wp2_with (first | (go_at_call 7; ((with_reducible refine (K0.out _).mono ?_); rintro e1 w1 ⟨rfl, hb1⟩; have hB1 : Below w.heap.size w w1 := (below_new w _).trans (hb1.mono (by simp)); have hX1 : BoxB w1 w.heap.size X pl := (BoxB.new w X pl).below hb1 (by simp); have hz1 : w.heap.size < w1.heap.size := Nat.lt_of_lt_of_le (by simp) hb1.size; obtain ⟨x0, x1, x2, x3, x4, x5, x6, x7, x8, x9, x10⟩ := hX1.cells)) | (go_at_call 8; ((with_reducible refine (KF.out _ hB1).mono ?_); rintro e2 w2 ⟨b2, rfl, hp2, hb2⟩; have hB2 := hB1.trans (hb2.mono hB1.size); have hX2 := hX1.below hb2 hz1; have hz2 : w.heap.size < w2.heap.size := Nat.lt_of_lt_of_le hz1 hb2.size; clear x0 x1 x2 x3 x4 x5 x6 x7 x8 x9 x10; obtain ⟨x0, x1, x2, x3, x4, x5, x6, x7, x8, x9, x10⟩ := hX2.cells; cases b2; focus ((try go_simp); go_wp2_with fail; go_ret; exact ⟨rfl, hB2⟩))) | (go_at_call 9; ((with_reducible refine (KP.out _ hB2).mono ?_); rintro e3 w3 ⟨b3, rfl, hp3, hb3⟩; have hB3 := hB2.trans (hb3.mono hB2.size); have hX3 := hX2.below hb3 hz2; have hz3 : w.heap.size < w3.heap.size := Nat.lt_of_lt_of_le hz2 hb3.size; clear x0 x1 x2 x3 x4 x5 x6 x7 x8 x9 x10; obtain ⟨x0, x1, x2, x3, x4, x5, x6, x7, x8, x9, x10⟩ := hX3.cells; cases b3; focus ((try go_simp); go_wp2_with fail; go_ret; exact ⟨rfl, hB3⟩))) | (go_at_call 10; ((with_reducible refine (KM.out _ hB3).mono ?_); rintro e4 w4 ⟨b4, rfl, hp4, hb4⟩; have hB4 := hB3.trans (hb4.mono hB3.size); have hX4 := hX3.below hb4 hz3; have hz4 : w.heap.size < w4.heap.size := Nat.lt_of_lt_of_le hz3 hb4.size; clear x0 x1 x2 x3 x4 x5 x6 x7 x8 x9 x10; obtain ⟨x0, x1, x2, x3, x4, x5, x6, x7, x8, x9, x10⟩ := hX4.cells); cases b4; rotate_left; exact absurd ⟨hp2 (by trivial), hp3 (by trivial), hp4 (by trivial)⟩ HA.out) | fail)
    go_ret
    exact ⟨rfl, hB4⟩
  by_cases c1 : which < 0
  case pos =>
    clear hall hP hR hE hS
    have d1 : decide (which < 0) = true := decide_eq_true c1
    clear c1
    go_enter Try.func4, Try.ntmps4
    go_upto_region 2 with (first | (go_at_call 7; ((with_reducible refine (K0.out _).mono ?_); rintro e1 w1 ⟨rfl, hb1⟩; have hB1 : Below w.heap.size w w1 := (below_new w _).trans (hb1.mono (by simp)); have hX1 : BoxB w1 w.heap.size X pl := (BoxB.new w X pl).below hb1 (by simp); have hz1 : w.heap.size < w1.heap.size := Nat.lt_of_lt_of_le (by simp) hb1.size; obtain ⟨x0, x1, x2, x3, x4, x5, x6, x7, x8, x9, x10⟩ := hX1.cells)) | fail)
    try simp only [List.append_eq, List.cons_append, List.nil_append]
    go_wp2_with (first | (go_at_call 7; ((with_reducible refine (K0.out _).mono ?_); rintro e1 w1 ⟨rfl, hb1⟩; have hB1 : Below w.heap.size w w1 := (below_new w _).trans (hb1.mono (by simp)); have hX1 : BoxB w1 w.heap.size X pl := (BoxB.new w X pl).below hb1 (by simp); have hz1 : w.heap.size < w1.heap.size := Nat.lt_of_lt_of_le (by simp) hb1.size; obtain ⟨x0, x1, x2, x3, x4, x5, x6, x7, x8, x9, x10⟩ := hX1.cells)) | (go_at_call 8; ((with_reducible refine (KF.out _ hB1).mono ?_); rintro e2 w2 ⟨b2, rfl, hp2, hb2⟩; have hB2 := hB1.trans (hb2.mono hB1.size); have hX2 := hX1.below hb2 hz1; have hz2 : w.heap.size < w2.heap.size := Nat.lt_of_lt_of_le hz1 hb2.size; clear x0 x1 x2 x3 x4 x5 x6 x7 x8 x9 x10; obtain ⟨x0, x1, x2, x3, x4, x5, x6, x7, x8, x9, x10⟩ := hX2.cells; cases b2; focus ((try go_simp); go_wp2_with fail; go_ret; exact ⟨rfl, hB2⟩))) | (go_at_call 9; ((with_reducible refine (KP.out _ hB2).mono ?_); rintro e3 w3 ⟨b3, rfl, hp3, hb3⟩; have hB3 := hB2.trans (hb3.mono hB2.size); have hX3 := hX2.below hb3 hz2; have hz3 : w.heap.size < w3.heap.size := Nat.lt_of_lt_of_le hz2 hb3.size; clear x0 x1 x2 x3 x4 x5 x6 x7 x8 x9 x10; obtain ⟨x0, x1, x2, x3, x4, x5, x6, x7, x8, x9, x10⟩ := hX3.cells; cases b3; focus ((try go_simp); go_wp2_with fail; go_ret; exact ⟨rfl, hB3⟩))) | (go_at_call 10; ((with_reducible refine (KM.out _ hB3).mono ?_); rintro e4 w4 ⟨b4, rfl, hp4, hb4⟩; have hB4 := hB3.trans (hb4.mono hB3.size); have hX4 := hX3.below hb4 hz3; have hz4 : w.heap.size < w4.heap.size := Nat.lt_of_lt_of_le hz3 hb4.size; clear x0 x1 x2 x3 x4 x5 x6 x7 x8 x9 x10; obtain ⟨x0, x1, x2, x3, x4, x5, x6, x7, x8, x9, x10⟩ := hX4.cells); cases b4) | fail)
    all_goals
      go_ret
      exact ⟨rfl, hB4⟩
  have d1 : decide (which < 0) = false := decide_eq_false c1
  obtain ⟨q, rfl⟩ := Int.eq_ofNat_of_zero_le (show 0 ≤ which by omega)
  by_cases c2 : (R.length : Int) ≤ (q : Int)
  case pos =>
    clear hall hP hR hE hS
    have d2 : decide ((R.length : Int) ≤ (q : Int)) = true := decide_eq_true c2
    have d2' : decide (R.length ≤ q) = true := decide_eq_true (by omega)
    clear c2
    go_enter Try.func4, Try.ntmps4
    go_upto_region 2 with (first | (go_at_call 7; ((with_reducible refine (K0.out _).mono ?_); rintro e1 w1 ⟨rfl, hb1⟩; have hB1 : Below w.heap.size w w1 := (below_new w _).trans (hb1.mono (by simp)); have hX1 : BoxB w1 w.heap.size X pl := (BoxB.new w X pl).below hb1 (by simp); have hz1 : w.heap.size < w1.heap.size := Nat.lt_of_lt_of_le (by simp) hb1.size; obtain ⟨x0, x1, x2, x3, x4, x5, x6, x7, x8, x9, x10⟩ := hX1.cells)) | fail)
    try simp only [List.append_eq, List.cons_append, List.nil_append]
    go_wp2_with (first | (go_at_call 7; ((with_reducible refine (K0.out _).mono ?_); rintro e1 w1 ⟨rfl, hb1⟩; have hB1 : Below w.heap.size w w1 := (below_new w _).trans (hb1.mono (by simp)); have hX1 : BoxB w1 w.heap.size X pl := (BoxB.new w X pl).below hb1 (by simp); have hz1 : w.heap.size < w1.heap.size := Nat.lt_of_lt_of_le (by simp) hb1.size; obtain ⟨x0, x1, x2, x3, x4, x5, x6, x7, x8, x9, x10⟩ := hX1.cells)) | (go_at_call 8; ((with_reducible refine (KF.out _ hB1).mono ?_); rintro e2 w2 ⟨b2, rfl, hp2, hb2⟩; have hB2 := hB1.trans (hb2.mono hB1.size); have hX2 := hX1.below hb2 hz1; have hz2 : w.heap.size < w2.heap.size := Nat.lt_of_lt_of_le hz1 hb2.size; clear x0 x1 x2 x3 x4 x5 x6 x7 x8 x9 x10; obtain ⟨x0, x1, x2, x3, x4, x5, x6, x7, x8, x9, x10⟩ := hX2.cells; cases b2; focus ((try go_simp); go_wp2_with fail; go_ret; exact ⟨rfl, hB2⟩))) | (go_at_call 9; ((with_reducible refine (KP.out _ hB2).mono ?_); rintro e3 w3 ⟨b3, rfl, hp3, hb3⟩; have hB3 := hB2.trans (hb3.mono hB2.size); have hX3 := hX2.below hb3 hz2; have hz3 : w.heap.size < w3.heap.size := Nat.lt_of_lt_of_le hz2 hb3.size; clear x0 x1 x2 x3 x4 x5 x6 x7 x8 x9 x10; obtain ⟨x0, x1, x2, x3, x4, x5, x6, x7, x8, x9, x10⟩ := hX3.cells; cases b3; focus ((try go_simp); go_wp2_with fail; go_ret; exact ⟨rfl, hB3⟩))) | (go_at_call 10; ((with_reducible refine (KM.out _ hB3).mono ?_); rintro e4 w4 ⟨b4, rfl, hp4, hb4⟩; have hB4 := hB3.trans (hb4.mono hB3.size); have hX4 := hX3.below hb4 hz3; have hz4 : w.heap.size < w4.heap.size := Nat.lt_of_lt_of_le hz3 hb4.size; clear x0 x1 x2 x3 x4 x5 x6 x7 x8 x9 x10; obtain ⟨x0, x1, x2, x3, x4, x5, x6, x7, x8, x9, x10⟩ := hX4.cells); cases b4) | fail)
    all_goals
      go_ret
      exact ⟨rfl, hB4⟩
  have d2 : decide ((R.length : Int) ≤ (q : Int)) = false := decide_eq_false c2
  have d2' : decide (R.length ≤ q) = false := decide_eq_false (by omega)
  by_cases c3 : owner < 0
  case pos =>
    clear hall hP hR hE hS
    have d3 : decide (owner < 0) = true := decide_eq_true c3
    clear c3
    go_enter Try.func4, Try.ntmps4
    go_upto_region 2 with (first | (go_at_call 7; ((with_reducible refine (K0.out _).mono ?_); rintro e1 w1 ⟨rfl, hb1⟩; have hB1 : Below w.heap.size w w1 := (below_new w _).trans (hb1.mono (by simp)); have hX1 : BoxB w1 w.heap.size X pl := (BoxB.new w X pl).below hb1 (by simp); have hz1 : w.heap.size < w1.heap.size := Nat.lt_of_lt_of_le (by simp) hb1.size; obtain ⟨x0, x1, x2, x3, x4, x5, x6, x7, x8, x9, x10⟩ := hX1.cells)) | fail)
    try simp only [List.append_eq, List.cons_append, List.nil_append]
    go_wp2_with (first | (go_at_call 7; ((with_reducible refine (K0.out _).mono ?_); rintro e1 w1 ⟨rfl, hb1⟩; have hB1 : Below w.heap.size w w1 := (below_new w _).trans (hb1.mono (by simp)); have hX1 : BoxB w1 w.heap.size X pl := (BoxB.new w X pl).below hb1 (by simp); have hz1 : w.heap.size < w1.heap.size := Nat.lt_of_lt_of_le (by simp) hb1.size; obtain ⟨x0, x1, x2, x3, x4, x5, x6, x7, x8, x9, x10⟩ := hX1.cells)) | (go_at_call 8; ((with_reducible refine (KF.out _ hB1).mono ?_); rintro e2 w2 ⟨b2, rfl, hp2, hb2⟩; have hB2 := hB1.trans (hb2.mono hB1.size); have hX2 := hX1.below hb2 hz1; have hz2 : w.heap.size < w2.heap.size := Nat.lt_of_lt_of_le hz1 hb2.size; clear x0 x1 x2 x3 x4 x5 x6 x7 x8 x9 x10; obtain ⟨x0, x1, x2, x3, x4, x5, x6, x7, x8, x9, x10⟩ := hX2.cells; cases b2; focus ((try go_simp); go_wp2_with fail; go_ret; exact ⟨rfl, hB2⟩))) | (go_at_call 9; ((with_reducible refine (KP.out _ hB2).mono ?_); rintro e3 w3 ⟨b3, rfl, hp3, hb3⟩; have hB3 := hB2.trans (hb3.mono hB2.size); have hX3 := hX2.below hb3 hz2; have hz3 : w.heap.size < w3.heap.size := Nat.lt_of_lt_of_le hz2 hb3.size; clear x0 x1 x2 x3 x4 x5 x6 x7 x8 x9 x10; obtain ⟨x0, x1, x2, x3, x4, x5, x6, x7, x8, x9, x10⟩ := hX3.cells; cases b3; focus ((try go_simp); go_wp2_with fail; go_ret; exact ⟨rfl, hB3⟩))) | (go_at_call 10; ((with_reducible refine (KM.out _ hB3).mono ?_); rintro e4 w4 ⟨b4, rfl, hp4, hb4⟩; have hB4 := hB3.trans (hb4.mono hB3.size); have hX4 := hX3.below hb4 hz3; have hz4 : w.heap.size < w4.heap.size := Nat.lt_of_lt_of_le hz3 hb4.size; clear x0 x1 x2 x3 x4 x5 x6 x7 x8 x9 x10; obtain ⟨x0, x1, x2, x3, x4, x5, x6, x7, x8, x9, x10⟩ := hX4.cells); cases b4) | fail)
    all_goals
      go_ret
      exact ⟨rfl, hB4⟩
  have d3 : decide (owner < 0) = false := decide_eq_false c3
  by_cases c4 : (X.l1 : Int) ≤ owner
  case pos =>
    clear hall hP hR hE hS
    have d4 : decide ((X.l1 : Int) ≤ owner) = true := decide_eq_true c4
    clear c4
    go_enter Try.func4, Try.ntmps4
    go_upto_region 2 with (first | (go_at_call 7; ((with_reducible refine (K0.out _).mono ?_); rintro e1 w1 ⟨rfl, hb1⟩; have hB1 : Below w.heap.size w w1 := (below_new w _).trans (hb1.mono (by simp)); have hX1 : BoxB w1 w.heap.size X pl := (BoxB.new w X pl).below hb1 (by simp); have hz1 : w.heap.size < w1.heap.size := Nat.lt_of_lt_of_le (by simp) hb1.size; obtain ⟨x0, x1, x2, x3, x4, x5, x6, x7, x8, x9, x10⟩ := hX1.cells)) | fail)
    try simp only [List.append_eq, List.cons_append, List.nil_append]
    go_wp2_with (first | (go_at_call 7; ((with_reducible refine (K0.out _).mono ?_); rintro e1 w1 ⟨rfl, hb1⟩; have hB1 : Below w.heap.size w w1 := (below_new w _).trans (hb1.mono (by simp)); have hX1 : BoxB w1 w.heap.size X pl := (BoxB.new w X pl).below hb1 (by simp); have hz1 : w.heap.size < w1.heap.size := Nat.lt_of_lt_of_le (by simp) hb1.size; obtain ⟨x0, x1, x2, x3, x4, x5, x6, x7, x8, x9, x10⟩ := hX1.cells)) | (go_at_call 8; ((with_reducible refine (KF.out _ hB1).mono ?_); rintro e2 w2 ⟨b2, rfl, hp2, hb2⟩; have hB2 := hB1.trans (hb2.mono hB1.size); have hX2 := hX1.below hb2 hz1; have hz2 : w.heap.size < w2.heap.size := Nat.lt_of_lt_of_le hz1 hb2.size; clear x0 x1 x2 x3 x4 x5 x6 x7 x8 x9 x10; obtain ⟨x0, x1, x2, x3, x4, x5, x6, x7, x8, x9, x10⟩ := hX2.cells; cases b2; focus ((try go_simp); go_wp2_with fail; go_ret; exact ⟨rfl, hB2⟩))) | (go_at_call 9; ((with_reducible refine (KP.out _ hB2).mono ?_); rintro e3 w3 ⟨b3, rfl, hp3, hb3⟩; have hB3 := hB2.trans (hb3.mono hB2.size); have hX3 := hX2.below hb3 hz2; have hz3 : w.heap.size < w3.heap.size := Nat.lt_of_lt_of_le hz2 hb3.size; clear x0 x1 x2 x3 x4 x5 x6 x7 x8 x9 x10; obtain ⟨x0, x1, x2, x3, x4, x5, x6, x7, x8, x9, x10⟩ := hX3.cells; cases b3; focus ((try go_simp); go_wp2_with fail; go_ret; exact ⟨rfl, hB3⟩))) | (go_at_call 10; ((with_reducible refine (KM.out _ hB3).mono ?_); rintro e4 w4 ⟨b4, rfl, hp4, hb4⟩; have hB4 := hB3.trans (hb4.mono hB3.size); have hX4 := hX3.below hb4 hz3; have hz4 : w.heap.size < w4.heap.size := Nat.lt_of_lt_of_le hz3 hb4.size; clear x0 x1 x2 x3 x4 x5 x6 x7 x8 x9 x10; obtain ⟨x0, x1, x2, x3, x4, x5, x6, x7, x8, x9, x10⟩ := hX4.cells); cases b4) | fail)
    all_goals
      go_ret
      exact ⟨rfl, hB4⟩
  have d4 : decide ((X.l1 : Int) ≤ owner) = false := decide_eq_false c4
  obtain ⟨hF, hPl, hM4⟩ := hall
  obtain ⟨⟨f1, f2, f3, f4, f5⟩, f6, _, _, f9⟩ := hF
  have hM := mod4_modest (pl := pl) hM4 f9 f6
  have hn := hPl.2
  have hdl := dayLs_len (pl := pl) (R := R) (S := S)
  have hsh := shares_day (pl := pl) (S := S) hn
  have h64 := day_in64 (pl := pl) hM
  have hk := dayX_keys (pl := pl) (S := S) hn
  have hbd := dayX_bd hM
  have KD : Hid (∀ wx, Below w.heap.size w wx → Calls Try.prog 11 #[.agg #[.string X.nm, .slice X.a1 X.l1 X.c1, .int .i64 X.cl, .slice X.P pl.length X.cP, .slice X.a4 X.l4 X.c4, .slice X.a5 X.l5 X.c5, .slice X.a6 X.l6 X.c6, .slice X.a7 X.l7 X.c7, .slice X.a8 X.l8 X.c8, .slice X.a9 X.l9 X.c9, .int .i64 X.er], .slice C R.length cr, .slice E S.length cs] wx (fun e w' => ∃ D cd, e = .returned (.tuple #[.slice D R.length cd, .slice (some ⟨wx.heap.size + 1 + 1, 0, none⟩) pl.length pl.length]) ∧ PairsAt w' w'.heap.size D (dayLs pl R S) ∧ Below wx.heap.size wx w')) := fun wx h => (day_any X pl R S C cr E cs wx (hP.below h) (hR.below h) (hE.below h) h.size (by omega) (by omega) hs hS).mono fun e w' hd => day_pairs4 hd
  have hql : q < R.length := by omega
  obtain ⟨r, hq⟩ : ∃ r, R[q]? = some r := ⟨_, List.getElem?_eq_getElem hql⟩
  have hokr := hPl.1 r (List.mem_of_getElem? hq)
  have hcm := correct_moves (o := owner) 5 1 hM hn hq
  have hsh2 : shL (R.set q (setO r owner)) (dayLs pl (R.set q (setO r owner)) S) = dayX pl (R.set q (setO r owner)) S := shares_day (by rw [ids_set hq]; exact hn)
  have hds := dayLs_set (pl := pl) (S := S) (o := owner) hq
  have hs1 := share_one (pl := pl) (S := S) hM hn hq
  have hlb := litN_bd (pl := pl) hM q
  obtain ⟨n, hnn⟩ : ∃ n, litN pl R S q = n := ⟨_, rfl⟩
  rw [hnn] at hcm hs1 hlb
  obtain ⟨EL, hEL⟩ : ∃ Q, (if n = 0 ∨ owner = r.owner then [] else addL 5 1 1 (r.id, owner, r.place) n ++ addL 5 1 1 (r.id, r.owner, r.place) (wrap64 (-n))) = Q := ⟨_, rfl⟩
  rw [hEL] at hcm
  obtain ⟨NL, hNL⟩ : ∃ N, EL.length = N := ⟨_, rfl⟩
  have hrl : (R.set q (setO r owner)).length = R.length := List.length_set ..
  have KC : Hid (∀ (N1 : Option Addr) (cn : Nat) (G : Option Addr) (cg : Nat) (wx : World), Below w.heap.size w wx → RightsAt wx wx.heap.size N1 (R.set q (setO r owner)) → PairsAt wx wx.heap.size G (dayLs pl R S) → Calls Try.prog 12 #[.agg #[.string X.nm, .slice X.a1 X.l1 X.c1, .int .i64 X.cl, .slice X.P pl.length X.cP, .slice X.a4 X.l4 X.c4, .slice X.a5 X.l5 X.c5, .slice X.a6 X.l6 X.c6, .slice X.a7 X.l7 X.c7, .slice X.a8 X.l8 X.c8, .slice X.a9 X.l9 X.c9, .int .i64 X.er], .slice C R.length cr, .slice N1 R.length cn, .slice G R.length cg, .slice E S.length cs, .int .i64 5, .int .i64 1] wx (fun e w' => ∃ D' cd C' cc, e = .returned (.tuple #[.slice D' R.length cd, .slice C' NL cc]) ∧ PairsAt w' w'.heap.size D' (dayLs pl R S) ∧ RowAt etC 7 w' w'.heap.size C' EL ∧ Below wx.heap.size wx w')) := fun N1 cn G cg wx h hN1 hG => by
    have z := correct_any X pl R (R.set q (setO r owner)) (dayLs pl R S) S 5 1 C cr N1 cn G cg E cs wx ((hP.below h).more h.size) ((hR.below h).more h.size) hN1 hG ((hE.below h).more h.size) (Nat.le_refl _) (by omega) (by omega) (by omega) (by omega) hs hS h64 (by rw [hds]; exact h64)
    rw [hsh2, hds, hsh, hcm, hdl, hrl] at z
    exact z.mono fun e w' ⟨D', cd, C', cc, he, h1, h2, h3⟩ => ⟨D', cd, C', cc, by rw [he, hNL], h1, h2, h3⟩
  have KH : Hid (∀ (b : Nat) (G : Option Addr) (cg : Nat) (wx : World), RightsAt wx wx.heap.size (some ⟨b, 0, none⟩) [r] → PairsAt wx wx.heap.size G (dayLs pl R S) → Calls Try.prog 15 #[.slice (some ⟨b, 0, none⟩) 1 1, .slice G R.length cg, .int .i64 r.owner, .int .i64 r.place] wx (fun e w' => e = .returned (.int .i64 n) ∧ Below wx.heap.size wx w')) := fun b G cg wx h hG => by
    have z := share_any [r] (dayLs pl R S) r.owner r.place (some ⟨b, 0, none⟩) 1 G cg wx h hG (Nat.le_refl _) (by simp) (by omega)
    rw [hs1, hdl] at z
    exact z
  have KS : Hid (∀ (G : Option Addr) (cg : Nat) (H : Option Addr) (ch : Nat) (wx : World), PairsAt wx wx.heap.size G (dayLs pl R S) → PairsAt wx wx.heap.size H (dayLs pl R S) → Calls Try.prog 14 #[.slice G R.length cg, .slice H R.length ch] wx (fun e w' => e = .returned (.bool true) ∧ ∃ n, w' = wx.drewN n)) := fun G cg H ch wx hG hH => by
    have q := sameG_any (dayLs pl R S) (dayLs pl R S) G H cg ch wx hG hH (by omega) (by omega)
    rw [hdl] at q
    exact q.mono fun e w' ⟨he, hw⟩ => ⟨by rw [he]; unfold SameL; simp, hw⟩
  obtain ⟨GG, hGG⟩ : ∃ Q, dayLs pl R S = Q := ⟨_, rfl⟩
  rw [hGG] at KD KC KH KS
  obtain ⟨i0, ii, iz0, iz1, iz2⟩ := info_parts Try.infoRight40
  have HRl : R.length ≤ 8 := f6
  have HEL := Lib.hid (And.intro hEL hNL)
  have hoo : 0 ≤ r.owner := hokr.1.1
  have ho0 : 0 ≤ owner := by omega
  have HRW := Lib.hid (fun (wr : World) (h : Below w.heap.size w wr) => hR.below h)
  have HQ := Lib.hid hq
  have hq0 : 0 ≤ (q : Int) ∧ (q : Int) < (R.length : Int) := by omega
  have hRne : R.length ≠ 0 := by omega
  obtain ⟨b, off, ec, hb, r0, r1, r2, r3, r4, r5, r6, r7, r8⟩ := hR.at_ hq
  have HC := Lib.hid ec
  have HR0 := Lib.hid (And.intro r0 (And.intro r1 (And.intro r2 (And.intro r3 (And.intro r4 (And.intro r5 (And.intro r6 (And.intro r7 r8))))))))
  clear hP hR hE hS hM hM4 hPl hn hdl hsh h64 hk hbd hEL hNL hcm hsh2 hds hs1 hnn hrl hGG f1 f2 f3 f4 f5 f6 f9 hokr hq r0 r1 r2 r3 r4 r5 r6 r7 r8 c1 c2 c3 c4
  subst ec
  go_enter Try.func4, Try.ntmps4
  go_upto_region 2 with (first | (go_at_call 7; ((with_reducible refine (K0.out _).mono ?_); rintro e1 w1 ⟨rfl, hb1⟩; have hB1 : Below w.heap.size w w1 := (below_new w _).trans (hb1.mono (by simp)); have hX1 : BoxB w1 w.heap.size X pl := (BoxB.new w X pl).below hb1 (by simp); have hz1 : w.heap.size < w1.heap.size := Nat.lt_of_lt_of_le (by simp) hb1.size; obtain ⟨x0, x1, x2, x3, x4, x5, x6, x7, x8, x9, x10⟩ := hX1.cells)) | fail)
  try simp only [List.append_eq, List.cons_append, List.nil_append]
  go_upto_region 4 with (first | (go_at_call 7; ((with_reducible refine (K0.out _).mono ?_); rintro e1 w1 ⟨rfl, hb1⟩; have hB1 : Below w.heap.size w w1 := (below_new w _).trans (hb1.mono (by simp)); have hX1 : BoxB w1 w.heap.size X pl := (BoxB.new w X pl).below hb1 (by simp); have hz1 : w.heap.size < w1.heap.size := Nat.lt_of_lt_of_le (by simp) hb1.size; obtain ⟨x0, x1, x2, x3, x4, x5, x6, x7, x8, x9, x10⟩ := hX1.cells)) | (go_at_call 8; ((with_reducible refine (KF.out _ hB1).mono ?_); rintro e2 w2 ⟨b2, rfl, hp2, hb2⟩; have hB2 := hB1.trans (hb2.mono hB1.size); have hX2 := hX1.below hb2 hz1; have hz2 : w.heap.size < w2.heap.size := Nat.lt_of_lt_of_le hz1 hb2.size; clear x0 x1 x2 x3 x4 x5 x6 x7 x8 x9 x10; obtain ⟨x0, x1, x2, x3, x4, x5, x6, x7, x8, x9, x10⟩ := hX2.cells; cases b2; focus ((try go_simp); go_wp2_with fail; go_ret; exact ⟨rfl, hB2⟩))) | (go_at_call 9; ((with_reducible refine (KP.out _ hB2).mono ?_); rintro e3 w3 ⟨b3, rfl, hp3, hb3⟩; have hB3 := hB2.trans (hb3.mono hB2.size); have hX3 := hX2.below hb3 hz2; have hz3 : w.heap.size < w3.heap.size := Nat.lt_of_lt_of_le hz2 hb3.size; clear x0 x1 x2 x3 x4 x5 x6 x7 x8 x9 x10; obtain ⟨x0, x1, x2, x3, x4, x5, x6, x7, x8, x9, x10⟩ := hX3.cells; cases b3; focus ((try go_simp); go_wp2_with fail; go_ret; exact ⟨rfl, hB3⟩))) | (go_at_call 10; ((with_reducible refine (KM.out _ hB3).mono ?_); rintro e4 w4 ⟨b4, rfl, hp4, hb4⟩; have hB4 := hB3.trans (hb4.mono hB3.size); have hX4 := hX3.below hb4 hz3; have hz4 : w.heap.size < w4.heap.size := Nat.lt_of_lt_of_le hz3 hb4.size; clear x0 x1 x2 x3 x4 x5 x6 x7 x8 x9 x10; obtain ⟨x0, x1, x2, x3, x4, x5, x6, x7, x8, x9, x10⟩ := hX4.cells); cases b4) | fail)
  any_goals
    go_ret
    exact ⟨rfl, hB4⟩
  clear hp2 hp3 hp4 KF KP KM K0
  clear d1 d2 d2' d3 d4
  have hown0 : (w4.alloc (.cells #[] 49)).ownsRow w4.heap.size 49 9 (.slice (some ⟨w4.heap.size, 0, none⟩) 0 0) 0 [] := World.ownsRow_made w4 #[] 0 (Nat.le_refl _) (by unfold maxLen; omega) (by simp)
  have hbA : Below w.heap.size w (w4.alloc (.cells #[] 49)) := hB4.alloc hB4.size _
  have hRdA : Reads (w4.alloc (.cells #[] 49)) (w4.alloc (.cells #[] 49)).heap.size 9 (some ⟨b, off, none⟩) R.length (R.flatMap Rt.cells) := reads_rowk (enc := Rt.cells) (k := 9) rt_len (show RowAt Rt.cells 9 _ _ _ R from (HRW.out _ hbA).more hbA.size) (by omega)
  have HRd := Lib.hid hRdA
  clear hRdA
  go_upto_region 5 with (first | (at_builtin; go_loud (refine wpList_append_any _ rfl _ _ 32 rfl w4.heap.size 49 i0 _ 9 72 Try.underlying32 ii iz0 iz1 iz2 rfl (by decide) _ 0 _ rfl hown0 _ (some ⟨b, off, none⟩) R.length cr (R.flatMap Rt.cells) rfl HRd.out (rt_ones R) (by unfold maxLen; omega) (by omega) (by simp <;> omega) ?_); intro v5 w5 hown5 hgr5 hat5) | fail)
  obtain ⟨g, cc5, e5, hg1, hg2, hcl⟩ := rowkArr_of_owns (enc := Rt.cells) (A := R) (w := w5) (base := w4.heap.size) (e := 49) (v := v5) rt_len hRne (by rw [Nat.zero_add, List.nil_append] at hown5; exact hown5)
  clear hat5
  subst e5
  have hb45 : Below w4.heap.size w4 w5 := ((Below.refl _ _).alloc (Nat.le_refl _) _).grown hgr5 (by simp) (fun j e => (own_lt2 hown0 e).1)
  have hX5 := hX4.below hb45 hz4
  have hB5 := hB4.trans (hb45.mono hB4.size)
  have hz5 : w.heap.size < w5.heap.size := Nat.lt_of_lt_of_le hz4 hb45.size
  have hc1 := (hcl q r HQ.out 1 _ rfl).1
  have hf1 := (hcl q r HQ.out 1 _ rfl).2
  have hcells : ∀ i r, R[i]? = some r → ∀ j u, r.cells[j]? = some u → w5.cell? ⟨g, i * 9 + j, none⟩ = some u := fun i r h j u h2 => (hcl i r h j u h2).1
  have hN6 := rights_store (o := owner) HQ.out hcells hg2
  have hgw : w.heap.size ≤ g := by have := hB4.size; omega
  have hB6 : Below w.heap.size w (w5.setCell ⟨g, q * 9 + 1, none⟩ (.int .i64 owner)) := hB5.setCell (by show w.heap.size ≤ g; omega) _
  have hX6 : BoxB (w5.setCell ⟨g, q * 9 + 1, none⟩ (.int .i64 owner)) w.heap.size X pl := (Below.heap_setCell w5 ⟨g, q * 9 + 1, none⟩ (.int .i64 owner) w.heap.size (by show w.heap.size ≠ g; omega)).trans hX5
  have HB6 := Lib.hid hB6
  have HX6 := Lib.hid hX6
  have HN6 := Lib.hid hN6
  clear hX4 hB4 hb4 hb45 hown0 hown5 hgr5 hcl hcells hX5 hB5 hbA HRd hX6 hB6 hN6 hb2 hb3 hb1 hX1 hX2 hX3 hB1 hB2 hB3 x0 x1 x2 x3 x4 x5 x6 x7 x8 x9 x10
  go_upto_region 6 with fail
  clear hc1 hf1
  obtain ⟨r0, r1, r2, r3, r4, r5, r6, r7, r8⟩ := HR0.out
  have tr := fun (o : Nat) => HB6.out.cell (p := ⟨b, o, none⟩) (show b < w.heap.size from hb)
  have r0 := (tr _).trans r0
  have r1 := (tr _).trans r1
  have r2 := (tr _).trans r2
  have r3 := (tr _).trans r3
  have r4 := (tr _).trans r4
  have r5 := (tr _).trans r5
  have r6 := (tr _).trans r6
  have r7 := (tr _).trans r7
  have r8 := (tr _).trans r8
  have hz6 : w.heap.size < (w5.setCell ⟨g, q * 9 + 1, none⟩ (.int .i64 owner)).heap.size := by simpa using hz5
  generalize w5.setCell ⟨g, q * 9 + 1, none⟩ (.int .i64 owner) = w6 at HB6 HX6 HN6 r0 r1 r2 r3 r4 r5 r6 r7 r8 hz6 ⊢
  clear tr
  go_upto_region 7 with fail
  have hbn := below_new w6 (.cells r.cells.toArray 49)
  have hbx : RT.Box (w6.alloc (.cells r.cells.toArray 49)) w6.heap.size r.cells.toArray 49 := RT.Box.new w6 _ _
  have hB7 : Below w.heap.size w (w6.alloc (.cells r.cells.toArray 49)) := HB6.out.trans (hbn.mono HB6.out.size)
  have hX7 : BoxB (w6.alloc (.cells r.cells.toArray 49)) w.heap.size X pl := HX6.out.below hbn hz6
  have hN7 : RightsAt (w6.alloc (.cells r.cells.toArray 49)) (w6.alloc (.cells r.cells.toArray 49)).heap.size (some ⟨g, 0, none⟩) (R.set q (setO r owner)) := (HN6.out.below hbn).more hbn.size
  have hz7 : w.heap.size < (w6.alloc (.cells r.cells.toArray 49)).heap.size := Nat.lt_of_lt_of_le hz6 hbn.size
  have hbz := hbx.lt
  clear hbn r0 r1 r2 r3 r4 r5 r6 r7 r8 HB6 HX6 HN6 hz6
  simp only [Rt.cells] at hbx hB7 hX7 hN7 hz7 hbz
  obtain ⟨ob, hob⟩ : ∃ ob, w6.heap.size = ob := ⟨_, rfl⟩
  generalize hW7 : w6.alloc (.cells [Value.int .i64 r.id, .int .i64 r.owner, .int .i64 r.date, .int .i64 r.place, .int .i64 r.rate, .int .i64 r.from1, .int .i64 r.until1, .int .i64 r.back, .int .i64 r.backTo].toArray 49) = w7 at hbx hB7 hX7 hN7 hz7 hbz ⊢
  rw [hob] at hbx hbz ⊢
  clear hob hW7
  have HN7 := Lib.hid hN7
  have HBX := Lib.hid hbx
  clear hN7 hbx
  obtain ⟨x0, x1, x2, x3, x4, x5, x6, x7, x8, x9, x10⟩ := hX7.cells
  go_upto_region 8 with (first | (go_at_call 11; ((with_reducible refine (KD.out _ hB7).mono ?_); rintro e8 w8 ⟨D8, cd8, rfl, hD8, hb8⟩; have hB8 := hB7.trans (hb8.mono hB7.size); have hX8 := hX7.below hb8 hz7; have hz8 : w.heap.size < w8.heap.size := Nat.lt_of_lt_of_le hz7 hb8.size; clear x0 x1 x2 x3 x4 x5 x6 x7 x8 x9 x10; obtain ⟨x0, x1, x2, x3, x4, x5, x6, x7, x8, x9, x10⟩ := hX8.cells)) | fail)
  have hN8 := (HN7.out.below hb8).more hb8.size
  have HBX8 := Lib.hid (HBX.out.below hb8 hbz)
  have hbz8 := Nat.lt_of_lt_of_le hbz hb8.size
  clear hX7 hB7 KD HN7 HBX hb8
  go_upto_region 9 with (first | (go_at_call 12; ((with_reducible refine (KC.out _ _ _ _ _ hB8 hN8 hD8).mono ?_); rintro e9 w9 ⟨D9, cd9, C9, cc9, rfl, hD9, hE9, hb9⟩; have hB9 := hB8.trans (hb9.mono hB8.size); have hX9 := hX8.below hb9 hz8; have hz9 : w.heap.size < w9.heap.size := Nat.lt_of_lt_of_le hz8 hb9.size; clear x0 x1 x2 x3 x4 x5 x6 x7 x8 x9 x10; obtain ⟨x0, x1, x2, x3, x4, x5, x6, x7, x8, x9, x10⟩ := hX9.cells)) | fail)
  have hD89 := (hD8.below hb9).more hb9.size
  have HBX9 := Lib.hid (HBX8.out.below hb9 hbz8)
  have hbz9 := Nat.lt_of_lt_of_le hbz8 hb9.size
  clear hX8 hB8 KC hN8 HBX8 hD8 hb9 hbz8 hbz x0 x1 x2 x3 x4 x5 x6 x7 x8 x9 x10
  have s0 : w9.cell? ⟨ob, 0, none⟩ = some (.int .i64 r.id) := HBX9.out.cell rfl
  have s1 : w9.cell? ⟨ob, 1, none⟩ = some (.int .i64 r.owner) := HBX9.out.cell rfl
  have s2 : w9.cell? ⟨ob, 2, none⟩ = some (.int .i64 r.date) := HBX9.out.cell rfl
  have s3 : w9.cell? ⟨ob, 3, none⟩ = some (.int .i64 r.place) := HBX9.out.cell rfl
  have s4 : w9.cell? ⟨ob, 4, none⟩ = some (.int .i64 r.rate) := HBX9.out.cell rfl
  have s5 : w9.cell? ⟨ob, 5, none⟩ = some (.int .i64 r.from1) := HBX9.out.cell rfl
  have s6 : w9.cell? ⟨ob, 6, none⟩ = some (.int .i64 r.until1) := HBX9.out.cell rfl
  have s7 : w9.cell? ⟨ob, 7, none⟩ = some (.int .i64 r.back) := HBX9.out.cell rfl
  have s8 : w9.cell? ⟨ob, 8, none⟩ = some (.int .i64 r.backTo) := HBX9.out.cell rfl
  have hbn := below_new w9 (.cells #[.int .i64 r.id, .int .i64 r.owner, .int .i64 r.date, .int .i64 r.place, .int .i64 r.rate, .int .i64 r.from1, .int .i64 r.until1, .int .i64 r.back, .int .i64 r.backTo] 49)
  have hR9 : RightsAt (w9.alloc (.cells #[.int .i64 r.id, .int .i64 r.owner, .int .i64 r.date, .int .i64 r.place, .int .i64 r.rate, .int .i64 r.from1, .int .i64 r.until1, .int .i64 r.back, .int .i64 r.backTo] 49)) (w9.alloc (.cells #[.int .i64 r.id, .int .i64 r.owner, .int .i64 r.date, .int .i64 r.place, .int .i64 r.rate, .int .i64 r.from1, .int .i64 r.until1, .int .i64 r.back, .int .i64 r.backTo] 49)).heap.size (some ⟨w9.heap.size, 0, none⟩) [r] := rights_one (RT.Box.new w9 r.cells.toArray 49) (by simp)
  have hD9a := (hD89.below hbn).more hbn.size
  have HR9 := Lib.hid hR9
  clear hR9
  go_upto_region 10 with (first | (go_at_call 15; ((with_reducible refine (KH.out _ _ _ _ HR9.out hD9a).mono ?_); rintro e10 w10 ⟨rfl, hb10⟩)) | fail)
  have hb910 : Below w9.heap.size w9 w10 := hbn.trans (hb10.mono hbn.size)
  have hB10 := Lib.hid (hB9.trans (hb910.mono hB9.size))
  have hD810 := (hD89.below hb910).more hb910.size
  have hD910 := (hD9.below hb910).more hb910.size
  have hE10 := Lib.hid ((hE9.below hb910).more hb910.size)
  have hBX10 := Lib.hid (HBX9.out.below hb910 hbz9)
  have hbz10 := Nat.lt_of_lt_of_le hbz9 hb910.size
  clear hb910 hb10 hbn hD9a HR9 hD89 hD9 hE9 hB9 HBX9 hbz9 KH s0 s1 s2 s3 s4 s5 s6 s7 s8 hX9
  go_upto_region 12 with (first | (go_at_call 14; ((with_reducible refine (KS.out _ _ _ _ _ hD810 hD910).mono ?_); rintro e11 w11 ⟨rfl, n11, hw11⟩; subst hw11)) | fail)
  clear hD810 hD910 KS
  have s0 : w10.cell? ⟨ob, 0, none⟩ = some (.int .i64 r.id) := hBX10.out.cell rfl
  have s1 : w10.cell? ⟨ob, 1, none⟩ = some (.int .i64 r.owner) := hBX10.out.cell rfl
  have s3 : w10.cell? ⟨ob, 3, none⟩ = some (.int .i64 r.place) := hBX10.out.cell rfl
  by_cases h0 : n = 0
  · have hL0 : NL = 0 := by
      obtain ⟨e1, e2⟩ := HEL.out
      rw [if_pos (.inl h0)] at e1
      rw [← e2, ← e1]; rfl
    subst hL0
    have g0 : (n == 0) = true := by simpa using h0
    clear h0
    go_wp2_with fail
    go_ret
    exact ⟨rfl, below_drewN hB10.out _⟩
  have g0 : (n == 0) = false := by simpa using h0
  by_cases h1 : owner = r.owner
  · have hL0 : NL = 0 := by
      obtain ⟨e1, e2⟩ := HEL.out
      rw [if_pos (.inr h1)] at e1
      rw [← e2, ← e1]; rfl
    subst hL0
    have g1 : (owner == r.owner) = true := by simpa using h1
    clear h1 h0
    go_wp2_with fail
    go_ret
    exact ⟨rfl, below_drewN hB10.out _⟩
  have g1 : (owner == r.owner) = false := by simpa using h1
  have hnb : 0 < n ∧ n ≤ 1125899906842624 := by omega
  have HE : Hid (addL 5 1 1 (r.id, owner, r.place) n ++ addL 5 1 1 (r.id, r.owner, r.place) (wrap64 (-n)) = EL) := by
    obtain ⟨e1, e2⟩ := HEL.out
    rw [if_neg (fun h => h.elim h0 h1)] at e1
    exact e1
  obtain rfl : NL = 4 := by
    have e2 := HEL.out.2
    rw [← HE.out, move_len 5 1 r.id owner r.owner r.place hnb] at e2
    exact e2.symm
  have H1 := Lib.hid h1
  have H4 : Hid (EL.length = 4) := HEL.out.2
  clear HEL h0 h1
  go_wp2_with fail
  go_loopw [19, 20, 21, 22] (fun gv lv rv iv wr => ∃ (i k : Nat) (g l v : Int), i ≤ 4 ∧ iv = .int .i64 i ∧ gv = .int .i64 g ∧ lv = .int .i64 l ∧ rv = .int .i64 v ∧ Hid (g = gainF n i) ∧ Hid (l = lossF n i) ∧ Hid (v = rivF n i) ∧ wr = w10.drewN k) (fun _ _ _ iv _ => 4 - (intOf iv).toNat)
  case atStart => exact ⟨0, _, 0, 0, 0, Nat.zero_le _, rfl, rfl, rfl, rfl, rfl, rfl, rfl, rfl⟩
  case round =>
    obtain ⟨i, k, gn, ls, rv, hi, rfl, rfl, rfl, rfl, hgn, hls, hrv, hwr⟩ := hrel
    subst hwr
    by_cases hlt : i < 4
    · obtain ⟨x, hx⟩ : ∃ x, EL[i]? = some x := ⟨_, List.getElem?_eq_getElem (by have := H4.out; omega)⟩
      obtain ⟨u1, u2, u3, u4⟩ := move_step 5 1 r.id owner r.owner r.place hnb ho0 hoo H1.out (by rw [HE.out]; exact hx)
      obtain ⟨bb, ob2, ec, hbb, p2, p3, p4, p6⟩ := et_at hE10.out hx
      subst ec
      rw [u1] at p3
      rw [u2] at p6
      obtain ⟨xo, hxo⟩ : ∃ z, x.owner = z := ⟨_, rfl⟩
      obtain ⟨xl, hxl⟩ : ∃ z, x.litres = z := ⟨_, rfl⟩
      rw [hxo] at p2 u4
      rw [hxl] at p4 u3 u4
      obtain ⟨b1, b2, b3⟩ := gain_bd hnb i
      rw [← hgn.out] at b1 u4
      rw [← hls.out] at b2 u4
      rw [← hrv.out] at b3 u4
      have k1 : (r.place != r.place) = false := by simp
      have k2 : (r.id != r.id) = false := by simp
      have hi0 : 0 ≤ (i : Int) ∧ (i : Int) < 4 := by omega
      have hi4 : decide ((i : Int) < 4) = true := decide_eq_true hi0.2
      clear u1 u2 hxo hxl hx hgn hls hrv
      rcases u4 with ⟨m1, m2, m3, m4⟩ | ⟨m1, m5, m2, m3, m4⟩ | ⟨m1, m5, m2, m3, m4⟩
      · have q1 : (xo == owner) = true := by simpa using m1
        have hA : Hid (gn + xl = gainF n (i + 1) ∧ ls = lossF n (i + 1) ∧ rv = rivF n (i + 1)) := ⟨m2, m3, m4⟩
        clear m1 m2 m3 m4
        go_upto_region 20 with fail
        go_quiet (fail)
        go_wp2_with fail
        go_roundw
        case rel => exact ⟨i + 1, _, gn + xl, ls, rv, by omega, by go_num, rfl, rfl, rfl, hA.out.1, hA.out.2.1, hA.out.2.2, rfl⟩
        case measure => simp [intOf]; omega
      · have q1 : (xo == owner) = false := by simpa using m1
        have q2 : (xo == r.owner) = true := by simpa using m5
        have hA : Hid (gn = gainF n (i + 1) ∧ ls + xl = lossF n (i + 1) ∧ rv = rivF n (i + 1)) := ⟨m2, m3, m4⟩
        clear m1 m2 m3 m4 m5
        go_upto_region 20 with fail
        go_quiet (fail)
        go_wp2_with fail
        go_roundw
        case rel => exact ⟨i + 1, _, gn, ls + xl, rv, by omega, by go_num, rfl, rfl, rfl, hA.out.1, hA.out.2.1, hA.out.2.2, rfl⟩
        case measure => simp [intOf]; omega
      · have q1 : (xo == owner) = false := by simpa using m1
        have q2 : (xo == r.owner) = false := by simpa using m5
        have hA : Hid (gn = gainF n (i + 1) ∧ ls = lossF n (i + 1) ∧ rv + xl = rivF n (i + 1)) := ⟨m2, m3, m4⟩
        clear m1 m2 m3 m4 m5
        go_upto_region 20 with fail
        go_quiet (fail)
        go_wp2_with fail
        go_roundw
        case rel => exact ⟨i + 1, _, gn, ls, rv + xl, by omega, by go_num, rfl, rfl, rfl, hA.out.1, hA.out.2.1, hA.out.2.2, rfl⟩
        case measure => simp [intOf]; omega
    · obtain rfl : i = 4 := by omega
      obtain rfl : gn = n := hgn.out
      obtain rfl : ls = -gn := hls.out
      obtain rfl : rv = 0 := hrv.out
      have t1 : (gn == gn) = true := by simp
      have t2 : (-gn == -gn) = true := by simp
      clear hgn hls hrv
      go_wp2_with fail
      go_ret
      exact ⟨rfl, below_drewN hB10.out _⟩
end Go.Proofs.Ythoigjkelinjhaa

