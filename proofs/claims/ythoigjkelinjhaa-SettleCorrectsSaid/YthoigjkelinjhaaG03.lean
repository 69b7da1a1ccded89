/- Joined of: LP S5 LQ S6 LC L4 R1. -/
import Derived.Test.YthoigjkelinjhaaR0
import Derived.Test.YthoigjkelinjhaaS4
import Derived.Test.YthoigjkelinjhaaG07
/- Plain facts for the laws of settle: a day's shares, and what a correction books. -/
set_option linter.unusedSimpArgs false
set_option linter.unusedVariables false
namespace Go.Proofs.Ythoigjkelinjhaa
open Go.RowKit CM

theorem posSum_le {sup : Nat → Int} {M : Int} (h0 : 0 ≤ M) (h : ∀ p, sup p ≤ M) : ∀ n : Nat, posSum sup n ≤ (n : Int) * M
  | 0 => by simp [posSum]
  | n + 1 => by
    have ih := posSum_le h0 h n
    have h1 := h n
    have e : posSum sup (n + 1) = posSum sup n + max 0 (sup n) := rfl
    rw [e, show ((n + 1 : Nat) : Int) * M = (n : Int) * M + M by rw [Int.natCast_succ, Int.add_mul]; omega]
    omega
theorem sup_le {S : List Int} (hm : Mod4 S) (p : Nat) : supF S p ≤ 1099511627776 := by
  unfold supF
  rw [List.getD_eq_getElem?_getD]
  cases h : S[p]? with
  | none => simp
  | some x => exact (hm x (List.mem_of_getElem? h)).2
theorem mod4_modest {pl : Pl} {R : List Rt} {S : List Int} (hm : Mod4 S) (hS : S.length ≤ 10) (hr : R.length ≤ 8) : CM.Modest pl R (supF S) S.length := by
  refine ⟨?_, by omega⟩
  have h1 := posSum_le (by omega) (sup_le hm) (min pl.length S.length)
  have h2 : ((min pl.length S.length : Nat) : Int) ≤ 10 := by omega
  have h3 : ((min pl.length S.length : Nat) : Int) * 1099511627776 ≤ 10 * 1099511627776 := Int.mul_le_mul_of_nonneg_right h2 (by omega)
  omega
/-- The day's grants, each with its right's triple. -/
def dayT (pl : Pl) (R : List Rt) (S : List Int) : List (SP.T3 × Int) := (List.range R.length).map fun i => (((rtN R i).id, (rtN R i).owner, (rtN R i).place), litN pl R S i)
theorem map_rtN {α : Type} (f : Rt → α) (R : List Rt) : R.map f = (List.range R.length).map fun i => f (rtN R i) := by
  apply List.ext_getElem?
  intro i
  by_cases h : i < R.length
  · have e : R[i]? = some (rtN R i) := by unfold rtN; rw [List.getD_eq_getElem?_getD, List.getElem?_eq_getElem h]; rfl
    rw [List.getElem?_map, e, List.getElem?_map, List.getElem?_range h]; rfl
  · rw [List.getElem?_eq_none (by simp; omega), List.getElem?_eq_none (by simp; omega)]
section
variable {pl : Pl} {R : List Rt} {S : List Int}
theorem dayT_trs : trs R = (dayT pl R S).map (·.1) := by
  unfold trs dayT
  rw [map_rtN, List.map_map]; rfl
theorem dayT_day : dayLs pl R S = (dayT pl R S).map fun x => (x.1.1, x.2) := by
  unfold dayT
  rw [List.map_map]; rfl
theorem dayT_ids : (dayT pl R S).map (fun x => x.1.1) = R.map (·.id) := by
  unfold dayT
  rw [map_rtN, List.map_map]; rfl
/-- The shares of the day's grants. -/
def dayX (pl : Pl) (R : List Rt) (S : List Int) : List (SP.T3 × Int) := (dayT pl R S).filter (fun x => decide (0 < x.2))
theorem shares_day (hn : (R.map (·.id)).Nodup) : shL R (dayLs pl R S) = dayX pl R S := by
  unfold shL
  rw [dayT_trs (pl := pl) (S := S), dayT_day, SP.shares_of wrap64 _ (by rw [dayT_ids]; exact hn)]
  rfl
theorem dayX_ids (hn : (R.map (·.id)).Nodup) : ((dayX pl R S).map (fun x => x.1.1)).Nodup := by
  have h : ((dayT pl R S).map (fun x => x.1.1)).Nodup := by rw [dayT_ids]; exact hn
  exact h.sublist (List.filter_sublist.map _)
theorem dayX_keys (hn : (R.map (·.id)).Nodup) : ((dayX pl R S).map (·.1)).Nodup := SP.nodup_of_map (fun t : SP.T3 => t.1) _ (by rw [List.map_map]; exact dayX_ids hn)
theorem litN_bd (hM : CM.Modest pl R (supF S) S.length) (i : Nat) : 0 ≤ litN pl R S i ∧ litN pl R S i ≤ 1125899906842624 := hM.day i
theorem dayX_bd (hM : CM.Modest pl R (supF S) S.length) : ∀ x ∈ dayX pl R S, 0 < x.2 ∧ x.2 ≤ 1125899906842624 := fun x hx => by
  obtain ⟨h1, h2⟩ := List.mem_filter.1 hx
  obtain ⟨i, _, rfl⟩ := List.mem_map.1 h1
  exact ⟨by simpa using h2, (litN_bd hM i).2⟩
theorem day_in64 (hM : CM.Modest pl R (supF S) S.length) : ∀ x ∈ dayLs pl R S, In64 x.2 := fun x hx => by
  rw [dayT_day] at hx
  obtain ⟨y, hy, rfl⟩ := List.mem_map.1 hx
  obtain ⟨i, _, rfl⟩ := List.mem_map.1 hy
  have := litN_bd hM i
  unfold In64
  dsimp only
  omega
end
section
variable {m : List (SP.T3 × Int)}
theorem getX_of : ∀ (m : List (SP.T3 × Int)), (m.map (·.1)).Nodup → ∀ x ∈ m, getX m x.1 = some x.2
  | [], _, x, h => by cases h
  | y :: l, hn, x, h => by
    rw [List.map_cons, List.nodup_cons] at hn
    unfold getX
    rw [List.find?_cons]
    by_cases e : x.1 = y.1
    · rcases List.mem_cons.1 h with rfl | h1
      · simp
      · exact absurd (e ▸ List.mem_map.2 ⟨x, h1, rfl⟩) hn.1
    · rw [decide_eq_false e]
      rcases List.mem_cons.1 h with rfl | h1
      · exact absurd rfl e
      · exact getX_of l hn.2 x h1
theorem getX_out {t : SP.T3} (h : t ∉ m.map (·.1)) : getX m t = none := by
  unfold getX
  have : m.find? (fun p => decide (t = p.1)) = none := by
    rw [List.find?_eq_none]
    intro x hx
    have : t ≠ x.1 := fun e => h (e ▸ List.mem_map.2 ⟨x, hx, rfl⟩)
    simpa using this
  rw [this]; rfl
theorem look_key (hn : (m.map (·.1)).Nodup) {t : SP.T3} (ht : t ∈ m.map (·.1)) : ∃ x ∈ m, x.1 = t ∧ lookX m t = x.2 ∧ gone m t = false := by
  obtain ⟨x, hx, rfl⟩ := List.mem_map.1 ht
  refine ⟨x, hx, rfl, ?_, ?_⟩
  · unfold lookX; rw [getX_of m hn x hx]; rfl
  · unfold gone; rw [getX_of m hn x hx]; rfl
theorem wrap64_of {z : Int} (h : -9223372036854775808 ≤ z ∧ z ≤ 9223372036854775807) : wrap64 z = z := IntWalk.wrap64_in z h
/-- The same again: nothing is booked. -/
theorem correct_same (d kn : Int) (hn : (m.map (·.1)).Nodup) : correctL d kn m m = [] := by
  have h1 : afterL d kn m m = [] := by
    unfold afterL
    rw [List.flatMap_eq_nil_iff]
    intro t _
    rw [Int.sub_self, wrap64_of (by omega)]
    rfl
  have h2 : backL d kn m m = [] := by
    unfold backL
    have : (m.map (·.1)).filter (gone m) = [] := by
      rw [List.filter_eq_nil_iff]
      intro t ht
      obtain ⟨_, _, _, _, h⟩ := look_key hn ht
      rw [h]; simp
    rw [this]; rfl
  unfold correctL
  rw [h1, h2]; rfl
/-- An entry that takes another one back. -/
def Undo (x y : LD.Et) : Prop := x.litres = wrap64 (-y.litres) ∧ x.owner = y.owner ∧ x.place = y.place ∧ x.ref = y.ref
def UndoL (A B : List LD.Et) : Prop := A.length = B.length ∧ ∀ (i : Nat) (x y : LD.Et), A[i]? = some x → B[i]? = some y → Undo x y
theorem UndoL.nil : UndoL [] [] := ⟨rfl, fun i x y h => by simp at h⟩
theorem UndoL.append {A B C D : List LD.Et} (h : UndoL A B) (g : UndoL C D) : UndoL (A ++ C) (B ++ D) := by
  refine ⟨by rw [List.length_append, List.length_append, h.1, g.1], fun i x y hx hy => ?_⟩
  by_cases hi : i < A.length
  · rw [List.getElem?_append_left hi] at hx
    rw [List.getElem?_append_left (by have := h.1; omega)] at hy
    exact h.2 i x y hx hy
  · rw [List.getElem?_append_right (by omega)] at hx
    rw [List.getElem?_append_right (by have := h.1; omega), ← h.1] at hy
    exact g.2 _ x y hx hy
theorem undo_flat {f g : SP.T3 → List LD.Et} : ∀ T : List SP.T3, (∀ t ∈ T, UndoL (f t) (g t)) → UndoL (T.flatMap f) (T.flatMap g)
  | [], _ => UndoL.nil
  | t :: T, h => by
    rw [List.flatMap_cons, List.flatMap_cons]
    exact (h t (by simp)).append (undo_flat T (fun u hu => h u (by simp [hu])))
theorem undo_pair (d kn : Int) (t : SP.T3) {n : Int} (hn : 0 < n ∧ n ≤ 1125899906842624) : UndoL (addL d kn 1 t (wrap64 (-n))) (addL d kn 0 t n) := by
  have e1 : wrap64 (-n) = -n := wrap64_of (by omega)
  have e2 : wrap64 (-(-n)) = n := by rw [Int.neg_neg]; exact wrap64_of (by omega)
  rw [e1]
  unfold addL
  rw [if_neg (by omega), if_neg (by omega), e1, e2]
  refine ⟨rfl, fun i x y hx hy => ?_⟩
  match i with
  | 0 =>
    simp at hx hy
    subst hx hy
    exact ⟨e1.symm, rfl, rfl, rfl⟩
  | 1 =>
    simp at hx hy
    subst hx hy
    exact ⟨e2.symm, rfl, rfl, rfl⟩
  | i + 2 => simp at hx
/-- No shares any more: all is taken back. -/
theorem correct_none (d kn : Int) (hn : (m.map (·.1)).Nodup) (hb : ∀ x ∈ m, 0 < x.2 ∧ x.2 ≤ 1125899906842624) : UndoL (correctL d kn m []) (grantsL d kn m) := by
  have h1 : correctL d kn m [] = (m.map (·.1)).flatMap fun t => addL d kn 1 t (wrap64 (-lookX m t)) := by
    unfold correctL afterL backL
    have : (m.map (·.1)).filter (gone []) = m.map (·.1) := List.filter_eq_self.2 (fun t _ => rfl)
    rw [this]; rfl
  rw [h1]
  unfold grantsL
  refine undo_flat _ (fun t ht => ?_)
  obtain ⟨x, hx, _, h, _⟩ := look_key hn ht
  rw [h]
  exact undo_pair d kn t (hb x hx)
end
end Go.Proofs.Ythoigjkelinjhaa

/- Reports in memory; the walk of sound. (Printed by gen_s5.py.) -/
namespace Go.Proofs.Ythoigjkelinjhaa
open Go.RowKit CM
attribute [local go_sem] alloc_drewN setCell_drewN shape_drewN

/-- A report: a roster and a supply. -/
structure Rep where
  R : List Rt
  S : List Int
/-- One report's two slices. -/
def RepAt (w : World) (B : Nat) (b o : Nat) (r : Rep) : Prop := ∃ C1 c1 C2 c2, w.cell? ⟨b, o, none⟩ = some (.slice C1 r.R.length c1) ∧ w.cell? ⟨b, o + 1, none⟩ = some (.slice C2 r.S.length c2) ∧ RightsAt w B C1 r.R ∧ IntsAt w B C2 r.S ∧ r.R.length ≤ 9223372036854775807 ∧ r.S.length ≤ 9223372036854775807 ∧ ∀ x ∈ r.S, In64 x
def RepsAt (w : World) (B : Nat) (C : Option Addr) (L : List Rep) : Prop := 0 < L.length → ∃ b off, C = some ⟨b, off, none⟩ ∧ b < B ∧ ∀ k r, L[k]? = some r → RepAt w B b (off + k * 2) r
theorem RepAt.below {w w' : World} {B b o : Nat} {r : Rep} (h : RepAt w B b o r) (hb : b < B) (g : Below B w w') : RepAt w' B b o r := by
  obtain ⟨C1, c1, C2, c2, h1, h2, h3, h4, h5⟩ := h
  exact ⟨C1, c1, C2, c2, (g.cell (p := ⟨b, _, none⟩) hb).trans h1, (g.cell (p := ⟨b, _, none⟩) hb).trans h2, h3.below g, h4.below g, h5⟩
theorem RepsAt.below {w w' : World} {B : Nat} {C : Option Addr} {L : List Rep} (h : RepsAt w B C L) (g : Below B w w') : RepsAt w' B C L := fun hl => by
  obtain ⟨b, off, e, hb, hc⟩ := h hl
  exact ⟨b, off, e, hb, fun k r hk => (hc k r hk).below hb g⟩
theorem RepsAt.more {w : World} {B B' : Nat} {C : Option Addr} {L : List Rep} (h : RepsAt w B C L) (hB : B ≤ B') : RepsAt w B' C L := fun hl => by
  obtain ⟨b, off, e, hb, hc⟩ := h hl
  refine ⟨b, off, e, by omega, fun k r hk => ?_⟩
  obtain ⟨C1, c1, C2, c2, h1, h2, h3, h4, h5⟩ := hc k r hk
  exact ⟨C1, c1, C2, c2, h1, h2, h3.more hB, h4.more hB, h5⟩
theorem RepsAt.at_ {w : World} {B : Nat} {C : Option Addr} {L : List Rep} (h : RepsAt w B C L) {k : Nat} {r : Rep} (hk : L[k]? = some r) : ∃ b off, C = some ⟨b, off, none⟩ ∧ b < B ∧ RepAt w B b (off + k * 2) r := by
  have hlt := (List.getElem?_eq_some_iff.1 hk).1
  obtain ⟨b, off, e, hb, hc⟩ := h (by omega)
  exact ⟨b, off, e, hb, hc k r hk⟩
theorem RepsAt.take {w : World} {B : Nat} {C : Option Addr} {L : List Rep} (h : RepsAt w B C L) (n : Nat) : RepsAt w B C (L.take n) := fun hl => by
  rw [List.length_take] at hl
  obtain ⟨b, off, e, hb, hc⟩ := h (by omega)
  refine ⟨b, off, e, hb, fun k r hk => hc k r ?_⟩
  rw [List.getElem?_take] at hk
  split at hk
  · exact hk
  · cases hk
def SoundR (X : Bas) (pl : Pl) (r : Rep) : Prop := Few4 X pl r.R.length 0 0 r.S.length ∧ Plain4 X pl r.R ∧ Mod4 r.S
def Sound4 (X : Bas) (pl : Pl) (L : List Rep) : Prop := (∀ r ∈ L, SoundR X pl r) ∧ L.length ≤ 5
set_option maxRecDepth 100000 in
set_option maxHeartbeats 8000000 in
theorem sound_any (X : Bas) (pl : Pl) (L : List Rep) (C : Option Addr) (cr : Nat) (w : World) (hX : RT.BasOk w w.heap.size X pl) (hnm : X.nm.size ≤ 9223372036854775807) (hL : RepsAt w w.heap.size C L) (hl : L.length ≤ 9223372036854775807) (hpl : pl.length ≤ 9223372036854775807) :
    Calls Try.prog 16 #[.agg #[.string X.nm, .slice X.a1 X.l1 X.c1, .int .i64 X.cl, .slice X.P pl.length X.cP, .slice X.a4 X.l4 X.c4, .slice X.a5 X.l5 X.c5, .slice X.a6 X.l6 X.c6, .slice X.a7 X.l7 X.c7, .slice X.a8 X.l8 X.c8, .slice X.a9 X.l9 X.c9, .int .i64 X.er], .slice C L.length cr] w (IfB (Sound4 X pl L) w) := by
  have hl1 := hX.own.1
  have KF : Hid (∀ (C1 : Option Addr) (n1 c1 : Nat) (C4 : Option Addr) (n4 c4 : Nat) (wx : World), Below w.heap.size w wx → Calls Try.prog 8 #[.agg #[.string X.nm, .slice X.a1 X.l1 X.c1, .int .i64 X.cl, .slice X.P pl.length X.cP, .slice X.a4 X.l4 X.c4, .slice X.a5 X.l5 X.c5, .slice X.a6 X.l6 X.c6, .slice X.a7 X.l7 X.c7, .slice X.a8 X.l8 X.c8, .slice X.a9 X.l9 X.c9, .int .i64 X.er], .slice C1 n1 c1, .slice none 0 0, .slice none 0 0, .slice C4 n4 c4] wx (IfB (Few4 X pl n1 0 0 n4) wx)) := fun C1 n1 c1 C4 n4 c4 wx h => few4_any right_ok X pl C1 n1 c1 none 0 0 none 0 0 C4 n4 c4 wx (hX.up h) hnm
  have HLs := Lib.hid (fun (wr : World) (h : Below w.heap.size w wr) => hL.below h)
  have HL1 := Lib.hid hl1
  clear hX hnm hL hl1
  go_enter Try.func16, Try.ntmps16
  go_wp2_with fail
  go_loopw [5] (fun iv wr => ∃ k : Nat, k ≤ L.length ∧ iv = .int .i64 k ∧ Hid (∀ r ∈ L.take k, SoundR X pl r) ∧ BoxB wr w.heap.size X pl ∧ Below w.heap.size w wr) (fun iv _ => L.length - (intOf iv).toNat)
  case atStart => exact ⟨0, Nat.zero_le _, rfl, (fun r h => by simp at h), BoxB.new w X pl, below_new w _⟩
  case round =>
    obtain ⟨k, hk, rfl, hok, hXb, hBw⟩ := hrel
    have hwz : w.heap.size < wr.heap.size := by
      have h : wr.heap[w.heap.size]? = _ := hXb
      exact (Array.getElem?_eq_some_iff.1 h).1
    by_cases hlt : k < L.length
    case neg =>
      have hF : Hid (∀ r ∈ L, SoundR X pl r) := by
        have q := hok.out
        rw [show k = L.length by omega, List.take_length] at q
        exact q
      by_cases h5 : L.length ≤ 5
      · have d1 : decide (L.length ≤ 5) = true := decide_eq_true h5
        have d2 : decide ((L.length : Int) ≤ 5) = true := decide_eq_true (by omega)
        have H5 := Lib.hid h5
        clear h5
        go_wp2_with fail
        go_ret
        exact ⟨true, rfl, fun _ => ⟨hF.out, H5.out⟩, hBw⟩
      · have d1 : decide (L.length ≤ 5) = false := decide_eq_false h5
        have d2 : decide ((L.length : Int) ≤ 5) = false := decide_eq_false (by omega)
        clear h5
        go_wp2_with fail
        go_ret
        exact ⟨false, rfl, (fun h => by cases h), hBw⟩
    obtain ⟨r, hx⟩ : ∃ r, L[k]? = some r := ⟨_, List.getElem?_eq_getElem hlt⟩
    obtain ⟨b, off, ec, hb, C1, c1, C2, c2, r0, r1, hR, hS, hrl, hsl, _⟩ := (HLs.out wr hBw).at_ hx
    subst ec
    obtain ⟨x0, x1, x2, x3, x4, x5, x6, x7, x8, x9, x10⟩ := hXb.cells
    have hbw : b < wr.heap.size := by omega
    have hkk : 0 ≤ (k : Int) ∧ (k : Int) < (L.length : Int) := by omega
    have KP : Hid (∀ wx, Below wr.heap.size wr wx → Calls Try.prog 9 #[.agg #[.string X.nm, .slice X.a1 X.l1 X.c1, .int .i64 X.cl, .slice X.P pl.length X.cP, .slice X.a4 X.l4 X.c4, .slice X.a5 X.l5 X.c5, .slice X.a6 X.l6 X.c6, .slice X.a7 X.l7 X.c7, .slice X.a8 X.l8 X.c8, .slice X.a9 X.l9 X.c9, .int .i64 X.er], .slice C1 r.R.length c1] wx (IfB (Plain4 X pl r.R) wx)) := fun wx h => plain4_any X pl r.R C1 c1 wx (hR.below (h.mono (by omega))) (by have := h.size; omega) hrl hpl HL1.out
    have KM : Hid (∀ wx, Below wr.heap.size wr wx → Calls Try.prog 10 #[.slice C2 r.S.length c2] wx (IfB (Mod4 r.S) wx)) := fun wx h => modest4_any r.S C2 c2 wx (hS.below (h.mono (by omega))) (by have := h.size; omega) hsl
    have hN : Hid (SoundR X pl r → ∀ q ∈ L.take (k + 1), SoundR X pl q) := fun hr q hq => by
      rw [take_snoc_p hx] at hq
      rcases List.mem_append.1 hq with h | h
      · exact hok.out q h
      · simp at h; subst h; exact hr
    have HR1 := Lib.hid hR
    have HS1 := Lib.hid hS
    have HXb := Lib.hid hXb
    have HBw := Lib.hid hBw
    clear hx hok hR hS hXb hBw
    go_upto_region 4 with fail
    refine Plan.wp_region_tree (.rd 0 (.rd 1 (.rd 2 (.rd 3 (.rd 4 (.rd 5 (.rd 6 (.rd 7 (.rd 8 (.rd 9 (.rd 10 (.wr 11 (.rd 12 (.rd 13 (.rd 14 (.rd 15 (.rd 16 (.rd 17 (.rd 18 (.rd 19 (.wr 20 (.rd 21 (.rd 22 (.rd 23 (.rd 24 (.rd 25 (.rd 26 (.rd 27 (.rd 28 (.wr 29 (.rd 30 (.rd 31 .done)))))))))))))))))))))))))))))))) (by kernel_rfl) (by kernel_rfl) ?_
    (repeat (first | (refine Plan.tree_read (v := ?_) rfl rfl ?_ ?_; rotate_left; (focus ((intro wS hSw; have hkS := (bcell hSw).1; go_simp); try with_reducible rfl)); simp only [Act.put, List.setIfInBounds_toArray, List.set_cons_zero, List.set_cons_succ]) | (refine Plan.tree_skip rfl rfl ?_; simp only [Act.put, List.setIfInBounds_toArray, List.set_cons_zero, List.set_cons_succ])))
    (refine Plan.tree_write rfl (fun K hK => ?_); try go_simp)
    go_at_call 8
    (with_reducible refine (KF.out _ _ _ _ _ _ _ (HBw.out.trans (Below.refl _ _).drew)).mono ?_)
    rintro e1 w1 ⟨b1, rfl, hp1, hb1⟩
    have kB1 := Plan.below_go (Below.refl _ _).drew hb1
    cases b1
    · (refine hK.out _ _ (kB1) ?_; clear hK K; try simp only [Act.put, List.setIfInBounds_toArray, List.set_cons_zero, List.set_cons_succ])
      (repeat (first | (refine Plan.tree_read (v := ?_) rfl rfl ?_ ?_; rotate_left; (focus ((intro wS hSw; have hkS := (bcell hSw).1; go_simp); try with_reducible rfl)); simp only [Act.put, List.setIfInBounds_toArray, List.set_cons_zero, List.set_cons_succ]) | (refine Plan.tree_skip rfl rfl ?_; simp only [Act.put, List.setIfInBounds_toArray, List.set_cons_zero, List.set_cons_succ])))
      (refine Plan.tree_write rfl (fun K hK => ?_); try go_simp)
      (refine hK.out _ _ (kB1) ?_; clear hK K; try simp only [Act.put, List.setIfInBounds_toArray, List.set_cons_zero, List.set_cons_succ])
      (repeat (first | (refine Plan.tree_read (v := ?_) rfl rfl ?_ ?_; rotate_left; (focus ((intro wS hSw; have hkS := (bcell hSw).1; go_simp); try with_reducible rfl)); simp only [Act.put, List.setIfInBounds_toArray, List.set_cons_zero, List.set_cons_succ]) | (refine Plan.tree_skip rfl rfl ?_; simp only [Act.put, List.setIfInBounds_toArray, List.set_cons_zero, List.set_cons_succ])))
      (refine Plan.tree_write rfl (fun K hK => ?_); try go_simp)
      (refine hK.out _ _ (kB1) ?_; clear hK K; try simp only [Act.put, List.setIfInBounds_toArray, List.set_cons_zero, List.set_cons_succ])
      (repeat (first | (refine Plan.tree_read (v := ?_) rfl rfl ?_ ?_; rotate_left; (focus ((intro wS hSw; have hkS := (bcell hSw).1; go_simp); try with_reducible rfl)); simp only [Act.put, List.setIfInBounds_toArray, List.set_cons_zero, List.set_cons_succ]) | (refine Plan.tree_skip rfl rfl ?_; simp only [Act.put, List.setIfInBounds_toArray, List.set_cons_zero, List.set_cons_succ])))
      refine Plan.tree_done ?_
      go_wp2_with fail
      go_ret
      exact ⟨false, rfl, (fun h => by cases h), HBw.out.trans (kB1.mono (by omega))⟩
    · (refine hK.out _ _ (kB1) ?_; clear hK K; try simp only [Act.put, List.setIfInBounds_toArray, List.set_cons_zero, List.set_cons_succ])
      (repeat (first | (refine Plan.tree_read (v := ?_) rfl rfl ?_ ?_; rotate_left; (focus ((intro wS hSw; have hkS := (bcell hSw).1; go_simp); try with_reducible rfl)); simp only [Act.put, List.setIfInBounds_toArray, List.set_cons_zero, List.set_cons_succ]) | (refine Plan.tree_skip rfl rfl ?_; simp only [Act.put, List.setIfInBounds_toArray, List.set_cons_zero, List.set_cons_succ])))
      (refine Plan.tree_write rfl (fun K hK => ?_); try go_simp)
      go_at_call 9
      (with_reducible refine (KP.out _ kB1).mono ?_)
      rintro e2 w2 ⟨b2, rfl, hp2, hb2⟩
      have kB2 := Plan.below_go kB1 hb2
      cases b2
      · (refine hK.out _ _ (kB2) ?_; clear hK K; try simp only [Act.put, List.setIfInBounds_toArray, List.set_cons_zero, List.set_cons_succ])
        (repeat (first | (refine Plan.tree_read (v := ?_) rfl rfl ?_ ?_; rotate_left; (focus ((intro wS hSw; have hkS := (bcell hSw).1; go_simp); try with_reducible rfl)); simp only [Act.put, List.setIfInBounds_toArray, List.set_cons_zero, List.set_cons_succ]) | (refine Plan.tree_skip rfl rfl ?_; simp only [Act.put, List.setIfInBounds_toArray, List.set_cons_zero, List.set_cons_succ])))
        (refine Plan.tree_write rfl (fun K hK => ?_); try go_simp)
        (refine hK.out _ _ (kB2) ?_; clear hK K; try simp only [Act.put, List.setIfInBounds_toArray, List.set_cons_zero, List.set_cons_succ])
        (repeat (first | (refine Plan.tree_read (v := ?_) rfl rfl ?_ ?_; rotate_left; (focus ((intro wS hSw; have hkS := (bcell hSw).1; go_simp); try with_reducible rfl)); simp only [Act.put, List.setIfInBounds_toArray, List.set_cons_zero, List.set_cons_succ]) | (refine Plan.tree_skip rfl rfl ?_; simp only [Act.put, List.setIfInBounds_toArray, List.set_cons_zero, List.set_cons_succ])))
        refine Plan.tree_done ?_
        go_wp2_with fail
        go_ret
        exact ⟨false, rfl, (fun h => by cases h), HBw.out.trans (kB2.mono (by omega))⟩
      · (refine hK.out _ _ (kB2) ?_; clear hK K; try simp only [Act.put, List.setIfInBounds_toArray, List.set_cons_zero, List.set_cons_succ])
        (repeat (first | (refine Plan.tree_read (v := ?_) rfl rfl ?_ ?_; rotate_left; (focus ((intro wS hSw; have hkS := (bcell hSw).1; go_simp); try with_reducible rfl)); simp only [Act.put, List.setIfInBounds_toArray, List.set_cons_zero, List.set_cons_succ]) | (refine Plan.tree_skip rfl rfl ?_; simp only [Act.put, List.setIfInBounds_toArray, List.set_cons_zero, List.set_cons_succ])))
        (refine Plan.tree_write rfl (fun K hK => ?_); try go_simp)
        go_at_call 10
        (with_reducible refine (KM.out _ kB2).mono ?_)
        rintro e3 w3 ⟨b3, rfl, hp3, hb3⟩
        have kB3 := Plan.below_go kB2 hb3
        cases b3
        · (refine hK.out _ _ (kB3) ?_; clear hK K; try simp only [Act.put, List.setIfInBounds_toArray, List.set_cons_zero, List.set_cons_succ])
          (repeat (first | (refine Plan.tree_read (v := ?_) rfl rfl ?_ ?_; rotate_left; (focus ((intro wS hSw; have hkS := (bcell hSw).1; go_simp); try with_reducible rfl)); simp only [Act.put, List.setIfInBounds_toArray, List.set_cons_zero, List.set_cons_succ]) | (refine Plan.tree_skip rfl rfl ?_; simp only [Act.put, List.setIfInBounds_toArray, List.set_cons_zero, List.set_cons_succ])))
          refine Plan.tree_done ?_
          go_wp2_with fail
          go_ret
          exact ⟨false, rfl, (fun h => by cases h), HBw.out.trans (kB3.mono (by omega))⟩
        · (refine hK.out _ _ (kB3) ?_; clear hK K; try simp only [Act.put, List.setIfInBounds_toArray, List.set_cons_zero, List.set_cons_succ])
          (repeat (first | (refine Plan.tree_read (v := ?_) rfl rfl ?_ ?_; rotate_left; (focus ((intro wS hSw; have hkS := (bcell hSw).1; go_simp); try with_reducible rfl)); simp only [Act.put, List.setIfInBounds_toArray, List.set_cons_zero, List.set_cons_succ]) | (refine Plan.tree_skip rfl rfl ?_; simp only [Act.put, List.setIfInBounds_toArray, List.set_cons_zero, List.set_cons_succ])))
          refine Plan.tree_done ?_
          have hN2 := Lib.hid (hN.out ⟨hp1 (by trivial), hp2 (by trivial), hp3 (by trivial)⟩)
          have hX9 := HXb.out.below kB3 hwz
          have hB9 := HBw.out.trans (kB3.mono (by omega))
          clear hb1 hb2 hb3 kB1 kB2 kB3 hp1 hp2 hp3 hN
          go_wp2_with fail
          go_roundw
          case rel => exact ⟨k + 1, by omega, by go_num, hN2, hX9, hB9⟩
          case measure => simp [intOf]; omega
end Go.Proofs.Ythoigjkelinjhaa

/- Plain facts of a day's reports: what is booked is accepted, and abides. -/
namespace Go.Proofs.Ythoigjkelinjhaa
open Go.RowKit CM LD LD.LG

theorem sumX_wide {l : List Et} (h : absS l ≤ 4611686018427387904) : sumX (lits l) = (litS l, true) := by
  have := litS_abs l
  unfold sumX
  rw [if_pos]; · rfl
  · show inB (litS l) = true
    unfold inB
    simp only [Bool.and_eq_true, decide_eq_true_eq]
    omega
theorem account_wide {l : List Et} (h : absS l ≤ 4611686018427387904) (o p d k : Int) : account l o p d k = sumF (accB o p d k) l := by
  unfold account
  rw [sumX_wide (Int.le_trans (absS_filter _ _) h)]; rfl
def repOf (L : List Rep) (k : Nat) : Rep := L.getD k ⟨[], []⟩
def repM (pl : Pl) (r : Rep) : List (SP.T3 × Int) := dayX pl r.R r.S
/-- What the k-th report books. -/
def repE (pl : Pl) (L : List Rep) (k : Nat) : List Et := if k = 0 then grantsL 5 0 (repM pl (repOf L 0)) else correctL 5 k (repM pl (repOf L (k - 1))) (repM pl (repOf L k))
def booksF (pl : Pl) (L : List Rep) : Nat → List Et
  | 0 => []
  | k + 1 => booksF pl L k ++ repE pl L k
/-- The grants behind k reports. -/
def gotF (pl : Pl) (L : List Rep) (k : Nat) : List (Int × Int) := if k = 0 then [] else dayLs pl (repOf L (k - 1)).R (repOf L (k - 1)).S
def Good5 (k : Int) (e : Et) : Prop := okE e = true ∧ e.day = 5 ∧ e.known = k
def GoodL (k : Int) (E : List Et) : Prop := (∀ e ∈ E, Good5 k e) ∧ litS E = 0
theorem GoodL.nil (k : Int) : GoodL k [] := ⟨fun e h => (nomatch h), rfl⟩
theorem GoodL.append {k : Int} {A B : List Et} (h : GoodL k A) (g : GoodL k B) : GoodL k (A ++ B) := ⟨fun e he => (List.mem_append.1 he).elim (h.1 e) (g.1 e), by rw [litS_append, h.2, g.2]; rfl⟩
theorem good_flat {k : Int} {f : SP.T3 → List Et} : ∀ T : List SP.T3, (∀ t ∈ T, GoodL k (f t)) → GoodL k (T.flatMap f)
  | [], _ => GoodL.nil k
  | t :: T, h => by
    rw [List.flatMap_cons]
    exact (h t (by simp)).append (good_flat T fun u hu => h u (by simp [hu]))
def keyOk (t : SP.T3) : Prop := 0 ≤ t.1 ∧ (0 ≤ t.2.1 ∧ t.2.1 ≤ 15) ∧ 0 ≤ t.2.2 ∧ t.2.2 ≤ 63
theorem good_add {k wy : Int} {t : SP.T3} {n : Int} (hk : 0 ≤ k ∧ k ≤ 16777216) (hw : 0 ≤ wy ∧ wy ≤ 3) (ht : keyOk t) (hn : -1125899906842624 ≤ n ∧ n ≤ 1125899906842624) : GoodL k (addL 5 k wy t n) := by
  unfold addL
  by_cases h0 : n = 0
  · rw [if_pos h0]; exact GoodL.nil k
  · have e1 : wrap64 (-n) = -n := wrap64_of (by omega)
    rw [if_neg h0, e1]
    obtain ⟨h1, ⟨h2, h3⟩, h4, h5⟩ := ht
    refine ⟨fun e he => ?_, ?_⟩
    · simp only [List.mem_cons, List.not_mem_nil, or_false] at he
      rcases he with rfl | rfl
      · refine ⟨?_, rfl, rfl⟩
        unfold okE wit
        simp only [Bool.and_eq_true, decide_eq_true_eq]
        omega
      · refine ⟨?_, rfl, rfl⟩
        unfold okE wit
        simp only [Bool.and_eq_true, decide_eq_true_eq]
        omega
    · rw [litS_cons, litS_cons, litS_nil]
      show n + (-n + 0) = 0
      omega
section
variable {X : Bas} {pl : Pl} {L : List Rep} {r : Rep}
theorem sound_modest (h : SoundR X pl r) : CM.Modest pl r.R (supF r.S) r.S.length := mod4_modest h.2.2 h.1.2.2.2.2 h.1.2.1
theorem key_ok (h : SoundR X pl r) {t : SP.T3} (ht : t ∈ (repM pl r).map (·.1)) : keyOk t := by
  obtain ⟨x, hx, rfl⟩ := List.mem_map.1 ht
  have h1 := (List.mem_filter.1 hx).1
  have h2 : x.1 ∈ (dayT pl r.R r.S).map (·.1) := List.mem_map.2 ⟨x, h1, rfl⟩
  rw [← dayT_trs] at h2
  obtain ⟨q, hq, e⟩ := List.mem_map.1 h2
  rw [← e]
  obtain ⟨h3, h4, h5⟩ := h.2.1.1 q hq
  have h6 := h.1.1
  unfold keyOk
  dsimp only
  omega
theorem look_bd (h : SoundR X pl r) (t : SP.T3) : 0 ≤ lookX (repM pl r) t ∧ lookX (repM pl r) t ≤ 1125899906842624 := by
  unfold lookX getX
  cases e : (repM pl r).find? (fun p => decide (t = p.1)) with
  | none => simp
  | some x =>
    have := dayX_bd (sound_modest h) x (List.mem_of_find?_eq_some e)
    simp only [Option.map_some, Option.getD_some]
    omega
theorem repM_len (h : SoundR X pl r) : (repM pl r).length ≤ 8 := by
  have h1 := List.length_filter_le (fun x : SP.T3 × Int => decide (0 < x.2)) (dayT pl r.R r.S)
  have h2 : (dayT pl r.R r.S).length = r.R.length := by simp [dayT]
  have h3 := h.1.2.1
  unfold repM dayX
  omega
variable (hS : ∀ r ∈ L, SoundR X pl r) (hl : L.length ≤ 5)
include hS hl
omit hl in
theorem rep_sound {k : Nat} (hk : k < L.length) : SoundR X pl (repOf L k) := by
  unfold repOf
  rw [List.getD_eq_getElem?_getD, List.getElem?_eq_getElem hk]
  exact hS _ (List.getElem_mem hk)
theorem repE_good {k : Nat} (hk : k < L.length) : GoodL k (repE pl L k) := by
  unfold repE
  by_cases h0 : k = 0
  · subst h0
    rw [if_pos rfl]
    have hs := rep_sound hS hk
    unfold grantsL
    exact good_flat _ fun t ht => good_add (by omega) (by omega) (key_ok hs ht) (by have := look_bd hs t; omega)
  · rw [if_neg h0]
    have hs := rep_sound hS hk
    have hs2 := rep_sound hS (show k - 1 < L.length by omega)
    unfold correctL afterL backL
    refine (good_flat _ fun t ht => ?_).append (good_flat _ fun t ht => ?_)
    · have b1 := look_bd hs t
      have b2 := look_bd hs2 t
      rw [wrap64_of (by omega)]
      exact good_add (by omega) (by omega) (key_ok hs ht) (by omega)
    · have b2 := look_bd hs2 t
      rw [wrap64_of (by omega)]
      exact good_add (by omega) (by omega) (key_ok hs2 (List.mem_filter.1 ht).1) (by omega)
omit hl in
theorem repE_len {k : Nat} (hk : k < L.length) : (repE pl L k).length ≤ 32 := by
  unfold repE
  by_cases h0 : k = 0
  · subst h0
    rw [if_pos rfl]
    have := repM_len (rep_sound hS hk)
    have h2 := flat_len (fun t => addL_len 5 0 0 t (lookX (repM pl (repOf L 0)) t)) ((repM pl (repOf L 0)).map (·.1))
    rw [List.length_map] at h2
    unfold grantsL
    omega
  · rw [if_neg h0]
    have h1 := repM_len (rep_sound hS hk)
    have h2 := repM_len (rep_sound hS (show k - 1 < L.length by omega))
    unfold correctL afterL backL
    have h3 := flat_len (fun t => addL_len 5 k 1 t (wrap64 (lookX (repM pl (repOf L k)) t - lookX (repM pl (repOf L (k - 1))) t))) ((repM pl (repOf L k)).map (·.1))
    have h4 := flat_len (fun t => addL_len 5 k 1 t (wrap64 (-lookX (repM pl (repOf L (k - 1))) t))) (((repM pl (repOf L (k - 1))).map (·.1)).filter (gone (repM pl (repOf L k))))
    have h5 := List.length_filter_le (gone (repM pl (repOf L k))) ((repM pl (repOf L (k - 1))).map (·.1))
    rw [List.length_map] at h3 h5
    rw [List.length_append]
    omega
omit hl in
theorem books_len : ∀ k, k ≤ L.length → (booksF pl L k).length ≤ 32 * k
  | 0, _ => by simp [booksF]
  | k + 1, hk => by
    have h1 := books_len k (by omega)
    have h2 := repE_len hS (show k < L.length by omega)
    show (booksF pl L k ++ repE pl L k).length ≤ _
    rw [List.length_append]
    omega
theorem books_good : ∀ k, k ≤ L.length → ∀ e ∈ booksF pl L k, okE e = true ∧ e.day = 5 ∧ 0 ≤ e.known ∧ e.known < k
  | 0, _, e, he => by cases he
  | k + 1, hk, e, he => by
    rcases List.mem_append.1 he with h | h
    · have := books_good k (by omega) e h
      exact ⟨this.1, this.2.1, this.2.2.1, by have := this.2.2.2; omega⟩
    · obtain ⟨h1, h2, h3⟩ := (repE_good hS hl (show k < L.length by omega)).1 e h
      exact ⟨h1, h2, by omega, by omega⟩
theorem books_abs {k : Nat} (hk : k ≤ L.length) : absS (booksF pl L k) ≤ 4611686018427387904 := by
  have h1 := absS_le (fun e he => (books_good hS hl k hk e he).1)
  have h2 := books_len hS k hk
  omega
theorem books_led : ∀ k, k ≤ L.length → Led (booksF pl L k)
  | 0, _ => Led.nil
  | k + 1, hk => by
    have ih := books_led k (by omega)
    have hg := repE_good hS hl (show k < L.length by omega)
    show Led (booksF pl L k ++ repE pl L k)
    by_cases h0 : repE pl L k = []
    · rw [h0, List.append_nil]; exact ih
    · exact Led.step ih (postB_of h0 (fun e he => hg.1 e he) hg.2)
/-- Each posting is accepted. -/
theorem books_post {k : Nat} (hk : k < L.length) (h0 : repE pl L k ≠ []) : postR (booksF pl L k) (repE pl L k) = (booksF pl L (k + 1), 0) := by
  have hg := repE_good hS hl hk
  have hb := books_good hS hl k (by omega)
  have h1 : postB (repE pl L k) = true := postB_of h0 (fun e he => hg.1 e he) hg.2
  have h2 : lateB (booksF pl L k) (repE pl L k) = false := by
    unfold lateB
    cases hq : booksF pl L k with
    | nil => rfl
    | cons a l =>
      have hm : (a :: l).getLastD default ∈ booksF pl L k := by
        rw [hq, List.getLastD_eq_getLast?, List.getLast?_eq_some_getLast (by simp)]
        exact List.getLast_mem (by simp)
      have hh : (repE pl L k).headD default ∈ repE pl L k := by
        cases hr : repE pl L k with
        | nil => exact absurd hr h0
        | cons x p => exact List.mem_cons_self ..
      have g1 := (hb _ hm).2.2.2
      have g2 := (hg.1 _ hh).2.2
      rw [decide_eq_false (by omega)]
      simp
  have h3 : fullB (booksF pl L k) (repE pl L k) = false := by
    unfold fullB
    have a1 := absS_le (fun e he => (hb e he).1)
    have a2 := absS_le (fun e he => (hg.1 e he).1)
    have b1 := books_len hS k (by omega)
    have b2 := repE_len hS hk
    exact decide_eq_false (by omega)
  exact postR_ok h1 h2 h3
theorem books_pre (n : Nat) : ∀ m, n ≤ m → m ≤ L.length → ∃ Q, booksF pl L m = booksF pl L n ++ Q ∧ ∀ e ∈ Q, (n : Int) ≤ e.known
  | m, hnm, hm => by
    induction m with
    | zero => exact ⟨[], by rw [show n = 0 by omega]; simp, fun e h => (nomatch h)⟩
    | succ m ih =>
      by_cases h : n = m + 1
      · subst h; exact ⟨[], by simp, fun e h => (nomatch h)⟩
      · obtain ⟨Q, h1, h2⟩ := ih (by omega) (by omega)
        refine ⟨Q ++ repE pl L m, ?_, fun e he => ?_⟩
        · show booksF pl L m ++ repE pl L m = _
          rw [h1, List.append_assoc]
        · rcases List.mem_append.1 he with g | g
          · exact h2 e g
          · have := ((repE_good hS hl (show m < L.length by omega)).1 e g).2.2
            omega
/-- What was known abides. -/
theorem books_keep {n m : Nat} (hn : 1 ≤ n) (hnm : n ≤ m) (hm : m ≤ L.length) (o p : Int) : account (booksF pl L n) o p 5 16777216 = account (booksF pl L m) o p 5 ((n : Int) - 1) := by
  obtain ⟨Q, h1, h2⟩ := books_pre hS hl n m hnm hm
  have e : (booksF pl L m).filter (accB o p 5 ((n : Int) - 1)) = (booksF pl L n).filter (accB o p 5 16777216) := by
    rw [h1, List.filter_append]
    have hQ : Q.filter (accB o p 5 ((n : Int) - 1)) = [] := by
      rw [List.filter_eq_nil_iff]
      intro e he
      have := h2 e he
      unfold accB
      rw [show decide (e.known ≤ (n : Int) - 1) = false from decide_eq_false (by omega)]
      simp
    rw [hQ, List.append_nil]
    refine List.filter_congr fun e he => ?_
    have := books_good hS hl n (by omega) e he
    unfold accB
    rw [show decide (e.known ≤ (n : Int) - 1) = true from decide_eq_true (by omega), show decide (e.known ≤ 16777216) = true from decide_eq_true (by omega)]
  unfold account
  rw [e]
end
theorem repOf_take {L : List Rep} {n k : Nat} (hk : k < n) : repOf (L.take n) k = repOf L k := by
  unfold repOf
  rw [List.getD_eq_getElem?_getD, List.getD_eq_getElem?_getD, List.getElem?_take_of_lt hk]
theorem books_take {pl : Pl} {L : List Rep} {n : Nat} : ∀ k, k ≤ n → booksF pl (L.take n) k = booksF pl L k
  | 0, _ => rfl
  | k + 1, hk => by
    have ih := books_take (pl := pl) (L := L) (n := n) k (by omega)
    show booksF pl (L.take n) k ++ repE pl (L.take n) k = booksF pl L k ++ repE pl L k
    have e : repE pl (L.take n) k = repE pl L k := by
      unfold repE
      have a := repOf_take (L := L) (n := n) (k := k) (by omega)
      have b := repOf_take (L := L) (n := n) (k := k - 1) (by omega)
      have z := repOf_take (L := L) (n := n) (k := 0) (by omega)
      by_cases h0 : k = 0
      · rw [if_pos h0, if_pos h0, z]
      · rw [if_neg h0, if_neg h0, a, b]
    rw [ih, e]
end Go.Proofs.Ythoigjkelinjhaa

/- The walk of course. (Printed by gen_s6.py.) -/
namespace Go.Proofs.Ythoigjkelinjhaa
open Go.RowKit CM LD.LG
attribute [local go_sem] alloc_drewN setCell_drewN shape_drewN

def CourseIs (B : List LD.Et) (G : List (Int × Int)) (w : World) (e : Ending) (w' : World) : Prop := ∃ CB cb DG cd, e = .returned (.tuple #[.slice CB B.length cb, .slice DG G.length cd, .bool true]) ∧ RowAt etC 7 w' w'.heap.size CB B ∧ PairsAt w' w'.heap.size DG G ∧ Below w.heap.size w w'
theorem repOf_at {L : List Rep} {k : Nat} {r : Rep} (h : L[k]? = some r) : repOf L k = r := by unfold repOf; rw [List.getD_eq_getElem?_getD, h]; rfl
theorem good_in64 {pl : Pl} {L : List Rep} {X : Bas} (hS : ∀ r ∈ L, SoundR X pl r) (hl : L.length ≤ 5) {k : Nat} (hk : k < L.length) : LD.LitsIn (repE pl L k) := fun e he => by
  have := okE_all ((repE_good hS hl hk).1 e he).1
  unfold LD.LG.In64
  omega
theorem books_in64 {pl : Pl} {L : List Rep} {X : Bas} (hS : ∀ r ∈ L, SoundR X pl r) (hl : L.length ≤ 5) {k : Nat} (hk : k ≤ L.length) : LD.LitsIn (booksF pl L k) := fun e he => by
  have := okE_all (books_good hS hl k hk e he).1
  unfold LD.LG.In64
  omega
set_option maxRecDepth 100000 in
set_option maxHeartbeats 8000000 in
theorem course_any (X : Bas) (pl : Pl) (L : List Rep) (C : Option Addr) (cr : Nat) (w : World) {B0 : Nat} (hP : PlacesAt w B0 X.P pl) (hL : RepsAt w B0 C L) (hB0 : B0 ≤ w.heap.size) (hS : ∀ r ∈ L, SoundR X pl r) (hl : L.length ≤ 5) (hpl : pl.length ≤ 1000) :
    Calls Try.prog 17 #[.agg #[.string X.nm, .slice X.a1 X.l1 X.c1, .int .i64 X.cl, .slice X.P pl.length X.cP, .slice X.a4 X.l4 X.c4, .slice X.a5 X.l5 X.c5, .slice X.a6 X.l6 X.c6, .slice X.a7 X.l7 X.c7, .slice X.a8 X.l8 X.c8, .slice X.a9 X.l9 X.c9, .int .i64 X.er], .slice C L.length cr] w (CourseIs (booksF pl L L.length) (gotF pl L L.length) w) := by
  have HPs := Lib.hid (fun (wr : World) (h : Below w.heap.size w wr) => (hP.more hB0).below h)
  have HLs := Lib.hid (fun (wr : World) (h : Below w.heap.size w wr) => (hL.more hB0).below h)
  have HS := Lib.hid hS
  clear hP hL hS
  go_enter Try.func17, Try.ntmps17
  go_wp2_with fail
  go_loopw [7, 8, 9] (fun bv gv iv wr => ∃ (k : Nat) (CB : Option Addr) (NB cb : Nat) (DG : Option Addr) (NG cd : Nat), k ≤ L.length ∧ iv = .int .i64 k ∧ bv = .slice CB NB cb ∧ gv = .slice DG NG cd ∧ Hid (NB = (booksF pl L k).length) ∧ Hid (NG = (gotF pl L k).length) ∧ RowAt etC 7 wr wr.heap.size CB (booksF pl L k) ∧ PairsAt wr wr.heap.size DG (gotF pl L k) ∧ BoxB wr w.heap.size X pl ∧ Below w.heap.size w wr) (fun _ _ iv _ => L.length - (intOf iv).toNat)
  case atStart => exact ⟨0, none, 0, 0, none, 0, 0, Nat.zero_le _, rfl, rfl, rfl, rfl, rfl, RowAt.nil _ _ _, fun h => absurd h (by simp [gotF]), BoxB.new w X pl, below_new w _⟩
  case round =>
    obtain ⟨k, CB, NB, cb, DG, NG, cd, hk, rfl, rfl, rfl, hNB, hNG, hE, hG, hXb, hBw⟩ := hrel
    have hwz : w.heap.size < wr.heap.size := by
      have h : wr.heap[w.heap.size]? = _ := hXb
      exact (Array.getElem?_eq_some_iff.1 h).1
    by_cases hlt : k < L.length
    case neg =>
      have hke : k = L.length := by omega
      rw [hke] at hE hG
      have HN1 : Hid (NB = (booksF pl L L.length).length ∧ NG = (gotF pl L L.length).length) := ⟨by rw [hNB.out, hke], by rw [hNG.out, hke]⟩
      clear hNB hNG
      go_wp2_with fail
      refine bodyPost_ret (v := .tuple #[.slice CB NB cb, .slice DG NG cd, .bool true]) (by simp [results, Try.results17, go_sem]) rfl ?_
      exact ⟨CB, cb, DG, cd, by rw [← HN1.out.1, ← HN1.out.2], hE, hG, hBw⟩
    obtain ⟨r, hx⟩ : ∃ r, L[k]? = some r := ⟨_, List.getElem?_eq_getElem hlt⟩
    have hsr := HS.out r (List.mem_of_getElem? hx)
    obtain ⟨b, off, ec, hb, C1, c1, C2, c2, r0, r1, hR, hSu, hrl, hsl, hs64⟩ := (HLs.out wr hBw).at_ hx
    have HEC := Lib.hid ec
    obtain ⟨x0, x1, x2, x3, x4, x5, x6, x7, x8, x9, x10⟩ := hXb.cells
    have hbw : b < wr.heap.size := by omega
    have hkk : 0 ≤ (k : Int) ∧ (k : Int) < (L.length : Int) := by omega
    have hrep := repOf_at hx
    have hM := sound_modest hsr
    have hn := hsr.2.1.2
    have hdl := dayLs_len (pl := pl) (R := r.R) (S := r.S)
    have hsh := shares_day (pl := pl) (S := r.S) hn
    have h64 := day_in64 hM
    have hr8 := hsr.1.2.1
    have KD : Hid (∀ wx, Below wr.heap.size wr wx → Calls Try.prog 11 #[.agg #[.string X.nm, .slice X.a1 X.l1 X.c1, .int .i64 X.cl, .slice X.P pl.length X.cP, .slice X.a4 X.l4 X.c4, .slice X.a5 X.l5 X.c5, .slice X.a6 X.l6 X.c6, .slice X.a7 X.l7 X.c7, .slice X.a8 X.l8 X.c8, .slice X.a9 X.l9 X.c9, .int .i64 X.er], .slice C1 r.R.length c1, .slice C2 r.S.length c2] wx (fun e w' => ∃ D cd, e = .returned (.tuple #[.slice D r.R.length cd, .slice (some ⟨wx.heap.size + 1 + 1, 0, none⟩) pl.length pl.length]) ∧ PairsAt w' w'.heap.size D (dayLs pl r.R r.S) ∧ Below wx.heap.size wx w')) := fun wx h => (day_any X pl r.R r.S C1 c1 C2 c2 wx (B := w.heap.size) ((HPs.out wr hBw).below (h.mono (by omega))) (hR.below (h.mono (by omega))) (hSu.below (h.mono (by omega))) (by have := h.size; omega) (by omega) (by omega) hsl hs64).mono fun e w' hd => day_pairs4 hd
    obtain ⟨E, hEe⟩ : ∃ E, repE pl L k = E := ⟨_, rfl⟩
    obtain ⟨NE, hNE⟩ : ∃ N, E.length = N := ⟨_, rfl⟩
    have hEl : NE ≤ 32 := by rw [← hNE, ← hEe]; exact repE_len HS.out hlt
    have hBl : NB ≤ 200 := by rw [hNB.out]; have := books_len HS.out k (by omega); omega
    have KPo : Hid (∀ (CE : Option Addr) (ce : Nat) (wx : World), Below wr.heap.size wr wx → RowAt etC 7 wx wx.heap.size CE E → E ≠ [] → Calls Try.prog 26 #[.slice CB NB cb, .slice CE NE ce] wx (fun e w' => ∃ D dc, e = .returned (.tuple #[.slice D (booksF pl L (k + 1)).length dc, .int .i64 0]) ∧ RowAt etC 7 w' w'.heap.size D (booksF pl L (k + 1)) ∧ Below wx.heap.size wx w')) := fun CE ce wx h hCE hne => by
      have z := LD.post_any (booksF pl L k) E CB CE cb ce wx (B := wx.heap.size) (show LD.EntsAt _ _ _ _ from (hE.below h).more h.size) (show LD.EntsAt _ _ _ _ from hCE) (Nat.le_refl _) (by rw [← hNB.out]; omega) (by omega) (books_in64 HS.out hl (by omega)) (by rw [← hEe]; exact good_in64 HS.out hl hlt)
      rw [← hEe] at hne
      have hpo : LD.LG.postR (booksF pl L k) E = (booksF pl L (k + 1), 0) := by
        have y := books_post HS.out hl hlt hne
        rw [hEe] at y
        exact y
      rw [hpo, hNE, ← hNB.out] at z
      exact z.mono fun e w' ⟨D, dc, he, _, h1, _, h2⟩ => ⟨D, dc, he, h1, h2⟩
    have hbk : Hid (E = [] → booksF pl L (k + 1) = booksF pl L k) := fun h => by
      show booksF pl L k ++ repE pl L k = _
      rw [hEe, h, List.append_nil]
    have hgo : Hid (gotF pl L (k + 1) = dayLs pl r.R r.S) := by
      show gotF pl L (k + 1) = _
      unfold gotF
      rw [if_neg (by omega), show k + 1 - 1 = k by omega, hrep]
    have hgl : Hid (r.R.length = (gotF pl L (k + 1)).length) := by
      show _ = _
      rw [hgo.out, hdl]
    have HE := Lib.hid hE
    have HXb := Lib.hid hXb
    have HBw := Lib.hid hBw
    by_cases hk0 : k = 0
    · have KG : Hid (∀ (D : Option Addr) (cd : Nat) (wx : World), Below wr.heap.size wr wx → PairsAt wx wx.heap.size D (dayLs pl r.R r.S) → Calls Try.prog 13 #[.int .i64 5, .int .i64 k, .slice C1 r.R.length c1, .slice D r.R.length cd] wx (fun e w' => ∃ CE ce, e = .returned (.slice CE NE ce) ∧ RowAt etC 7 w' w'.heap.size CE E ∧ Below wx.heap.size wx w')) := fun D cd wx h hD => by
        have z := grants_any 5 k r.R (dayLs pl r.R r.S) C1 c1 D cd wx ((hR.below (h.mono (by omega))).more (by have := h.size; omega)) hD (Nat.le_refl _) (by omega) (by omega) h64
        have e1 : grantsL 5 (k : Int) (shL r.R (dayLs pl r.R r.S)) = E := by
          rw [← hEe, hsh]
          unfold repE
          rw [if_pos hk0]
          subst hk0
          rw [hrep]
          rfl
        rw [e1, hdl] at z
        exact z.mono fun e w' ⟨CE, ce, he, h1, h2⟩ => ⟨CE, ce, by rw [he, hNE], h1, h2⟩
      have g1 : (k == 0) = true := by simpa using hk0
      have g2 : ((k : Int) == 0) = true := by simp; omega
      subst ec
      have HNE := Lib.hid hNE
      clear hEe hNE hk0 hrep hM hn hdl hsh h64 hr8 hx hsr hE hXb hBw hG hNG hR hSu hs64
      go_upto_region 8 with fail
      refine Plan.wp_region_tree (.rd 0 (.rd 1 (.rd 2 (.rd 3 (.rd 4 (.rd 5 (.rd 6 (.rd 7 (.rd 8 (.rd 9 (.rd 10 (.wr 11 (.rd 12 (.rd 13 (.rd 14 (.rd 15 .done)))))))))))))))) (by kernel_rfl) (by kernel_rfl) ?_
      (repeat (first | (refine Plan.tree_read (v := ?_) rfl rfl ?_ ?_; rotate_left; (focus ((intro wS hSw; have hkS := (bcell hSw).1; go_simp); try with_reducible rfl)); simp only [Act.put, List.setIfInBounds_toArray, List.set_cons_zero, List.set_cons_succ]) | (refine Plan.tree_skip rfl rfl ?_; simp only [Act.put, List.setIfInBounds_toArray, List.set_cons_zero, List.set_cons_succ])))
      (refine Plan.tree_write rfl (fun K hK => ?_); try go_simp)
      go_at_call 11
      (with_reducible refine (KD.out _ (Below.refl _ _).drew).mono ?_)
      rintro e1 w1 ⟨D1, cd1, rfl, hD1, hb1⟩
      have kB1 := Plan.below_drew_go hb1
      (try go_simp)
      (refine hK.out _ _ (kB1) ?_; clear hK K; try simp only [Act.put, List.setIfInBounds_toArray, List.set_cons_zero, List.set_cons_succ])
      (repeat (first | (refine Plan.tree_read (v := ?_) rfl rfl ?_ ?_; rotate_left; (focus ((intro wS hSw; have hkS := (bcell hSw).1; go_simp); try with_reducible rfl)); simp only [Act.put, List.setIfInBounds_toArray, List.set_cons_zero, List.set_cons_succ]) | (refine Plan.tree_skip rfl rfl ?_; simp only [Act.put, List.setIfInBounds_toArray, List.set_cons_zero, List.set_cons_succ])))
      refine Plan.tree_done ?_
      have hz1 := kB1.size
      have q0 := (kB1.cell (p := ⟨b, off + k * 2, none⟩) hbw).trans r0
      clear r0 r1 x0 x1 x2 x3 x4 x5 x6 x7 x8 x9 x10
      go_upto_region 11 with (first | (go_at_call 13; ((with_reducible refine (KG.out _ _ _ kB1 hD1).mono ?_); rintro e2 w2 ⟨CE, ce, rfl, hCE, hb2⟩)) | fail)
      have kB2 := kB1.trans (hb2.mono hz1)
      have hD2 := (hD1.below hb2).more hb2.size
      clear hb1 hb2 hD1 q0 KG
      have hz2 := kB2.size
      have hX2 := HXb.out.below kB2 hwz
      have hB2 := HBw.out.trans (kB2.mono (by omega))
      have hEr := Lib.hid ((HE.out.below kB2).more hz2)
      by_cases h0 : NE = 0
      · have g3 : (NE == 0) = true := by simpa using h0
        have g4 : ((NE : Int) == 0) = true := by simp; omega
        have hE0 : E = [] := List.eq_nil_of_length_eq_zero (by rw [HNE.out]; exact h0)
        have hb := hbk.out hE0
        have hNB2 : Hid (NB = (booksF pl L (k + 1)).length) := by show _ = _; rw [hb]; exact hNB.out
        have hE2 : RowAt etC 7 w2 w2.heap.size CB (booksF pl L (k + 1)) := by rw [hb]; exact hEr.out
        have hG2 : PairsAt w2 w2.heap.size D1 (gotF pl L (k + 1)) := by rw [hgo.out]; exact hD2
        clear h0 hE0 hb hD2 hCE hEr hNB
        go_wp2_with fail
        go_roundw
        case rel => exact ⟨k + 1, CB, NB, cb, D1, r.R.length, cd1, by omega, by go_num, rfl, rfl, hNB2, hgl, hE2, hG2, hX2, hB2⟩
        case measure => simp [intOf]; omega
      · have g3 : (NE == 0) = false := by simpa using h0
        have g4 : ((NE : Int) == 0) = false := by simp; omega
        have hE0 : E ≠ [] := fun e => h0 (by rw [← HNE.out, e]; rfl)
        have HE0 := Lib.hid hE0
        obtain ⟨NF, hNF⟩ : ∃ N, Hid (N = (booksF pl L (k + 1)).length) := ⟨_, rfl⟩
        clear h0 hE0
        go_upto_region 13 with (first | (go_at_call 26; ((with_reducible refine (KPo.out _ _ _ kB2 hCE HE0.out).mono ?_); rintro e3 w3 ⟨D3, dc3, rfl, hE3, hb3⟩; rw [← hNF.out])) | fail)
        have hz3 := hb3.size
        have hG3 : PairsAt w3 w3.heap.size D1 (gotF pl L (k + 1)) := by rw [hgo.out]; exact (hD2.below hb3).more hz3
        have hX3 := hX2.below hb3 (by omega)
        have hB3 := hB2.trans (hb3.mono (by omega))
        clear hX2 hB2 hEr hD2 hCE hb3
        go_wp2_with fail
        go_roundw
        case rel => exact ⟨k + 1, D3, NF, dc3, D1, r.R.length, cd1, by omega, by go_num, rfl, rfl, hNF, hgl, hE3, hG3, hX3, hB3⟩
        case measure => simp [intOf]; omega
    · obtain ⟨j, hj⟩ : ∃ j, k = j + 1 := ⟨k - 1, by omega⟩
      obtain ⟨q, hxq⟩ : ∃ q, L[j]? = some q := ⟨_, List.getElem?_eq_getElem (by omega)⟩
      have hsq := HS.out q (List.mem_of_getElem? hxq)
      obtain ⟨b', off', ec', _, C0, c0, C9, c9, s0, _, hR0, _⟩ := (HLs.out wr hBw).at_ hxq
      obtain ⟨rfl, rfl⟩ : b = b' ∧ off = off' := by
        rw [ec] at ec'
        injection ec' with e1
        injection e1 with e1 e2
        exact ⟨e1, e2⟩
      have hrq := repOf_at hxq
      have hMq := sound_modest hsq
      have hdq := dayLs_len (pl := pl) (R := q.R) (S := q.S)
      have hshq := shares_day (pl := pl) (S := q.S) hsq.2.1.2
      have hgk : gotF pl L k = dayLs pl q.R q.S := by
        unfold gotF
        rw [if_neg hk0, hj, show j + 1 - 1 = j by omega, hrq]
      have hNGq : NG = q.R.length := by rw [hNG.out, hgk, hdq]
      subst hNGq
      have hq8 := hsq.1.2.1
      have KC : Hid (∀ (wx : World), Below wr.heap.size wr wx → Calls Try.prog 12 #[.agg #[.string X.nm, .slice X.a1 X.l1 X.c1, .int .i64 X.cl, .slice X.P pl.length X.cP, .slice X.a4 X.l4 X.c4, .slice X.a5 X.l5 X.c5, .slice X.a6 X.l6 X.c6, .slice X.a7 X.l7 X.c7, .slice X.a8 X.l8 X.c8, .slice X.a9 X.l9 X.c9, .int .i64 X.er], .slice C0 q.R.length c0, .slice C1 r.R.length c1, .slice DG q.R.length cd, .slice C2 r.S.length c2, .int .i64 5, .int .i64 k] wx (fun e w' => ∃ D' cd' CE ce, e = .returned (.tuple #[.slice D' r.R.length cd', .slice CE NE ce]) ∧ PairsAt w' w'.heap.size D' (dayLs pl r.R r.S) ∧ RowAt etC 7 w' w'.heap.size CE E ∧ Below wx.heap.size wx w')) := fun wx h => by
        have z := correct_any X pl q.R r.R (dayLs pl q.R q.S) r.S 5 k C0 c0 C1 c1 DG cd C2 c2 wx (B := wx.heap.size) (((HPs.out wr hBw).below (h.mono (by omega))).more (by have := h.size; omega)) ((hR0.below (h.mono (by omega))).more (by have := h.size; omega)) ((hR.below (h.mono (by omega))).more (by have := h.size; omega)) (by rw [← hgk]; exact (hG.below h).more h.size) ((hSu.below (h.mono (by omega))).more (by have := h.size; omega)) (Nat.le_refl _) (by omega) (by omega) (by omega) (by omega) hsl hs64 (day_in64 hMq) h64
        have e1 : correctL 5 (k : Int) (shL q.R (dayLs pl q.R q.S)) (shL r.R (dayLs pl r.R r.S)) = E := by
          rw [← hEe, hsh, hshq]
          unfold repE
          rw [if_neg hk0, hrep, show k - 1 = j by omega, hrq]
          rfl
        rw [e1, hdq] at z
        exact z.mono fun e w' ⟨D', cd', CE, ce, he, h1, h2, h3⟩ => ⟨D', cd', CE, ce, by rw [he, hNE], h1, h2, h3⟩
      have g1 : (k == 0) = false := by simpa using hk0
      have g2 : ((k : Int) == 0) = false := by simp; omega
      have v1 : IntKind.i64.wrap ((k : Int) - 1) = (j : Int) := by rw [IntWalk.i64_left, IntWalk.wrap64_in _ (by omega)]; omega
      have v2 : (k : Int) - 1 = (j : Int) := by omega
      have v3 : IntKind.i64.wrap (j : Int) = (j : Int) := by rw [IntWalk.i64_left, IntWalk.wrap64_in _ (by omega)]
      have hjj : 0 ≤ (j : Int) ∧ (j : Int) < (L.length : Int) := by omega
      subst ec
      have HNE := Lib.hid hNE
      clear hEe hNE hk0 hrep hM hn hdl hsh h64 hr8 hx hsr hE hXb hBw hG hNG hR hSu hs64 hj hxq hsq hR0 ec' hrq hMq hdq hshq hgk hq8 KD
      go_upto_region 10 with fail
      refine Plan.wp_region_tree (.rd 0 (.rd 1 (.rd 2 (.rd 3 (.rd 4 (.rd 5 (.rd 6 (.rd 7 (.rd 8 (.rd 9 (.rd 10 (.rd 11 (.rd 12 (.rd 13 (.rd 14 (.rd 15 (.rd 16 (.rd 17 (.rd 18 (.wr 19 (.rd 20 (.rd 21 (.rd 22 (.rd 23 (.rd 24 .done))))))))))))))))))))))))) (by kernel_rfl) (by kernel_rfl) ?_
      (repeat (first | (refine Plan.tree_read (v := ?_) rfl rfl ?_ ?_; rotate_left; (focus ((intro wS hSw; have hkS := (bcell hSw).1; go_simp); try with_reducible rfl)); simp only [Act.put, List.setIfInBounds_toArray, List.set_cons_zero, List.set_cons_succ]) | (refine Plan.tree_skip rfl rfl ?_; simp only [Act.put, List.setIfInBounds_toArray, List.set_cons_zero, List.set_cons_succ])))
      (refine Plan.tree_write rfl (fun K hK => ?_); try go_simp)
      go_at_call 12
      (with_reducible refine (KC.out _ (Below.refl _ _).drew).mono ?_)
      rintro e2 w2 ⟨D1, cd1, CE, ce, rfl, hD2, hCE, hb2⟩
      have kB2 := Plan.below_drew_go hb2
      (try go_simp)
      (refine hK.out _ _ (kB2) ?_; clear hK K; try simp only [Act.put, List.setIfInBounds_toArray, List.set_cons_zero, List.set_cons_succ])
      (repeat (first | (refine Plan.tree_read (v := ?_) rfl rfl ?_ ?_; rotate_left; (focus ((intro wS hSw; have hkS := (bcell hSw).1; go_simp); try with_reducible rfl)); simp only [Act.put, List.setIfInBounds_toArray, List.set_cons_zero, List.set_cons_succ]) | (refine Plan.tree_skip rfl rfl ?_; simp only [Act.put, List.setIfInBounds_toArray, List.set_cons_zero, List.set_cons_succ])))
      refine Plan.tree_done ?_
      clear r0 r1 x0 x1 x2 x3 x4 x5 x6 x7 x8 x9 x10 hb2 KC s0 v1 v2 v3
      go_upto_region 11 with fail
      have hz2 := kB2.size
      have hX2 := HXb.out.below kB2 hwz
      have hB2 := HBw.out.trans (kB2.mono (by omega))
      have hEr := Lib.hid ((HE.out.below kB2).more hz2)
      by_cases h0 : NE = 0
      · have g3 : (NE == 0) = true := by simpa using h0
        have g4 : ((NE : Int) == 0) = true := by simp; omega
        have hE0 : E = [] := List.eq_nil_of_length_eq_zero (by rw [HNE.out]; exact h0)
        have hb := hbk.out hE0
        have hNB2 : Hid (NB = (booksF pl L (k + 1)).length) := by show _ = _; rw [hb]; exact hNB.out
        have hE2 : RowAt etC 7 w2 w2.heap.size CB (booksF pl L (k + 1)) := by rw [hb]; exact hEr.out
        have hG2 : PairsAt w2 w2.heap.size D1 (gotF pl L (k + 1)) := by rw [hgo.out]; exact hD2
        clear h0 hE0 hb hD2 hCE hEr hNB
        go_wp2_with fail
        go_roundw
        case rel => exact ⟨k + 1, CB, NB, cb, D1, r.R.length, cd1, by omega, by go_num, rfl, rfl, hNB2, hgl, hE2, hG2, hX2, hB2⟩
        case measure => simp [intOf]; omega
      · have g3 : (NE == 0) = false := by simpa using h0
        have g4 : ((NE : Int) == 0) = false := by simp; omega
        have hE0 : E ≠ [] := fun e => h0 (by rw [← HNE.out, e]; rfl)
        have HE0 := Lib.hid hE0
        obtain ⟨NF, hNF⟩ : ∃ N, Hid (N = (booksF pl L (k + 1)).length) := ⟨_, rfl⟩
        clear h0 hE0
        go_upto_region 13 with (first | (go_at_call 26; ((with_reducible refine (KPo.out _ _ _ kB2 hCE HE0.out).mono ?_); rintro e3 w3 ⟨D3, dc3, rfl, hE3, hb3⟩; rw [← hNF.out])) | fail)
        have hz3 := hb3.size
        have hG3 : PairsAt w3 w3.heap.size D1 (gotF pl L (k + 1)) := by rw [hgo.out]; exact (hD2.below hb3).more hz3
        have hX3 := hX2.below hb3 (by omega)
        have hB3 := hB2.trans (hb3.mono (by omega))
        clear hX2 hB2 hEr hD2 hCE hb3
        go_wp2_with fail
        go_roundw
        case rel => exact ⟨k + 1, D3, NF, dc3, D1, r.R.length, cd1, by omega, by go_num, rfl, rfl, hNF, hgl, hE3, hG3, hX3, hB3⟩
        case measure => simp [intOf]; omega
end Go.Proofs.Ythoigjkelinjhaa

/- Plain facts for SettleCorrects: the accounts are those of the last report. -/
namespace Go.Proofs.Ythoigjkelinjhaa
open Go.RowKit CM LD LD.LG

/-- The sum over a list of keys. -/
def sumT (T : List SP.T3) (h : SP.T3 → Int) : Int := (T.map h).sum
theorem sumT_nil (h : SP.T3 → Int) : sumT [] h = 0 := rfl
theorem sumT_cons (t : SP.T3) (T : List SP.T3) (h : SP.T3 → Int) : sumT (t :: T) h = h t + sumT T h := by simp [sumT]
theorem sumT_add (h g : SP.T3 → Int) : ∀ T : List SP.T3, sumT T (fun t => h t + g t) = sumT T h + sumT T g
  | [] => rfl
  | t :: T => by rw [sumT_cons, sumT_cons, sumT_cons, sumT_add h g T]; omega
theorem sumT_neg (h : SP.T3 → Int) : ∀ T : List SP.T3, sumT T (fun t => -h t) = -sumT T h
  | [] => rfl
  | t :: T => by rw [sumT_cons, sumT_cons, sumT_neg h T]; omega
theorem sumT_congr {h g : SP.T3 → Int} : ∀ {T : List SP.T3}, (∀ t ∈ T, h t = g t) → sumT T h = sumT T g
  | [], _ => rfl
  | t :: T, e => by rw [sumT_cons, sumT_cons, e t (by simp), sumT_congr (fun u hu => e u (by simp [hu]))]
theorem sumT_filter (p : SP.T3 → Bool) (h : SP.T3 → Int) : ∀ T : List SP.T3, sumT (T.filter p) h = sumT T (fun t => if p t then h t else 0)
  | [] => rfl
  | t :: T => by
    rw [sumT_cons, List.filter_cons]
    by_cases e : p t = true
    · rw [if_pos e, if_pos e, sumT_cons, sumT_filter p h T]
    · rw [if_neg e, if_neg e, sumT_filter p h T]; omega
theorem sumT_one (a : SP.T3) (v : Int) : ∀ T : List SP.T3, T.Nodup → sumT T (fun t => if t = a then v else 0) = if a ∈ T then v else 0
  | [], _ => rfl
  | t :: T, hn => by
    rw [List.nodup_cons] at hn
    rw [sumT_cons, sumT_one a v T hn.2]
    by_cases e : t = a
    · subst e; rw [if_pos rfl, if_neg hn.1, if_pos (by simp)]; omega
    · have : (a ∈ t :: T) ↔ a ∈ T := by rw [List.mem_cons]; exact ⟨fun h => h.elim (fun q => absurd q.symm e) id, .inr⟩
      rw [if_neg e]
      by_cases g : a ∈ T
      · rw [if_pos g, if_pos (this.2 g)]; omega
      · rw [if_neg g, if_neg (fun q => g (this.1 q))]; omega
/-- What is in either list, counted once. -/
theorem sumT_union (h : SP.T3 → Int) {B : List SP.T3} (hB : B.Nodup) (h0 : ∀ t, t ∉ B → h t = 0) : ∀ A : List SP.T3, A.Nodup → sumT A h + sumT B (fun t => if t ∈ A then 0 else h t) = sumT B h
  | [], _ => by rw [sumT_nil]; simp
  | a :: A, hA => by
    rw [List.nodup_cons] at hA
    have ih := sumT_union h hB h0 A hA.2
    have e : sumT B (fun t => if t ∈ a :: A then 0 else h t) = sumT B (fun t => (if t ∈ A then 0 else h t) + (if t = a then -h a else 0)) := sumT_congr fun t _ => by
      by_cases g : t = a
      · subst g; rw [if_pos (by simp), if_neg hA.1, if_pos rfl]; omega
      · have : (t ∈ a :: A) ↔ t ∈ A := by rw [List.mem_cons]; exact ⟨fun q => q.elim (fun z => absurd z g) id, .inr⟩
        rw [if_neg g]
        by_cases k : t ∈ A
        · rw [if_pos k, if_pos (this.2 k)]; omega
        · rw [if_neg k, if_neg (fun q => k (this.1 q))]; omega
    rw [e, sumT_add, sumT_one a (-h a) B hB, sumT_cons]
    by_cases g : a ∈ B
    · rw [if_pos g]; omega
    · rw [if_neg g, h0 a g]; omega
/-- What an owner has at a place. -/
def atB (o p : Int) (t : SP.T3) : Bool := decide (t.2.1 = o) && decide (t.2.2 = p)
def valM (o p : Int) (m : List (SP.T3 × Int)) (t : SP.T3) : Int := if atB o p t then lookX m t else 0
def entB (o p : Int) (e : Et) : Bool := decide (e.owner = o) && decide (e.place = p)
section
variable {o p : Int}
theorem sumF_add (ho : 0 ≤ o) (d k wy : Int) (t : SP.T3) (n : Int) : sumF (entB o p) (addL d k wy t n) = if atB o p t then n else 0 := by
  unfold addL
  by_cases h0 : n = 0
  · rw [if_pos h0, h0]; simp [sumF_nil]
  · rw [if_neg h0, sumF_cons, sumF_cons, sumF_nil]
    have e2 : entB o p ⟨d, k, -1, t.2.2, wrap64 (-n), wy, t.1⟩ = false := by
      unfold entB
      rw [show decide ((-1 : Int) = o) = false from decide_eq_false (by omega)]; rfl
    rw [e2]
    have e1 : entB o p ⟨d, k, t.2.1, t.2.2, n, wy, t.1⟩ = atB o p t := rfl
    rw [e1]
    by_cases g : atB o p t = true
    · rw [if_pos g]; simp
    · rw [if_neg g]; simp
theorem sumF_flat (ho : 0 ≤ o) (d k wy : Int) (n : SP.T3 → Int) : ∀ T : List SP.T3, sumF (entB o p) (T.flatMap fun t => addL d k wy t (n t)) = sumT T (fun t => if atB o p t then n t else 0)
  | [] => rfl
  | t :: T => by rw [List.flatMap_cons, sumF_append, sumT_cons, sumF_add ho, sumF_flat ho d k wy n T]
/-- The whole of some shares. -/
def allM (o p : Int) (m : List (SP.T3 × Int)) : Int := sumT (m.map (·.1)) (valM o p m)
theorem look_out {m : List (SP.T3 × Int)} {t : SP.T3} (h : t ∉ m.map (·.1)) : lookX m t = 0 := by unfold lookX; rw [getX_out h]; rfl
theorem gone_iff {m : List (SP.T3 × Int)} (hn : (m.map (·.1)).Nodup) (t : SP.T3) : gone m t = true ↔ t ∉ m.map (·.1) := by
  constructor
  · intro h hm
    obtain ⟨_, _, _, _, g⟩ := look_key hn hm
    rw [g] at h; cases h
  · intro h
    unfold gone
    rw [getX_out h]; rfl
end
section
variable {X : Bas} {pl : Pl} {L : List Rep} {o p : Int}
variable (hS : ∀ r ∈ L, SoundR X pl r) (hl : L.length ≤ 5)
include hS
theorem repM_keys {k : Nat} (hk : k < L.length) : ((repM pl (repOf L k)).map (·.1)).Nodup := dayX_keys (rep_sound hS hk).2.1.2
/-- A report books the difference of its shares. -/
theorem repE_sum (ho : 0 ≤ o) {k : Nat} (hk : k < L.length) : sumF (entB o p) (repE pl L k) = allM o p (repM pl (repOf L k)) - (if k = 0 then 0 else allM o p (repM pl (repOf L (k - 1)))) := by
  unfold repE
  by_cases h0 : k = 0
  · subst h0
    rw [if_pos rfl, if_pos rfl]
    unfold grantsL
    rw [sumF_flat ho]
    show _ = allM o p _ - 0
    unfold allM valM
    omega
  · rw [if_neg h0, if_neg h0]
    have hk2 : k - 1 < L.length := by omega
    have hA := repM_keys hS hk
    have hB := repM_keys hS hk2
    have hs := rep_sound hS hk
    have hs2 := rep_sound hS hk2
    obtain ⟨A, hAe⟩ : ∃ A, repM pl (repOf L k) = A := ⟨_, rfl⟩
    obtain ⟨B, hBe⟩ : ∃ B, repM pl (repOf L (k - 1)) = B := ⟨_, rfl⟩
    have bA := fun t => look_bd hs t
    have bB := fun t => look_bd hs2 t
    rw [hAe] at hA bA ⊢
    rw [hBe] at hB bB ⊢
    unfold correctL afterL backL
    rw [sumF_append, sumF_flat ho, sumF_flat ho, sumT_filter]
    have e1 : sumT (A.map (·.1)) (fun t => if atB o p t then wrap64 (lookX A t - lookX B t) else 0) = sumT (A.map (·.1)) (fun t => valM o p A t + -valM o p B t) := sumT_congr fun t _ => by
      have b1 := bA t
      have b2 := bB t
      unfold valM
      by_cases g : atB o p t = true
      · rw [if_pos g, if_pos g, if_pos g, wrap64_of (by omega)]; omega
      · rw [if_neg g, if_neg g, if_neg g]; omega
    have e2 : sumT (B.map (·.1)) (fun t => if gone A t then (if atB o p t then wrap64 (-lookX B t) else 0) else 0) = sumT (B.map (·.1)) (fun t => -(if t ∈ A.map (·.1) then 0 else valM o p B t)) := sumT_congr fun t _ => by
      have b2 := bB t
      unfold valM
      by_cases g : t ∈ A.map (·.1)
      · have q : gone A t = false := by
          cases z : gone A t with
          | false => rfl
          | true => exact absurd g ((gone_iff hA t).1 z)
        rw [q, if_pos g]; simp
      · rw [(gone_iff hA t).2 g, if_neg g, if_pos rfl]
        by_cases z : atB o p t = true
        · rw [if_pos z, if_pos z, wrap64_of (by omega)]
        · rw [if_neg z, if_neg z]; omega
    rw [e1, e2, sumT_add, sumT_neg, sumT_neg]
    have u := sumT_union (valM o p B) hB (fun t ht => by unfold valM; rw [look_out ht]; simp) (A.map (·.1)) hA
    unfold allM
    omega
theorem books_sum (ho : 0 ≤ o) : ∀ k, k + 1 ≤ L.length → sumF (entB o p) (booksF pl L (k + 1)) = allM o p (repM pl (repOf L k))
  | 0, hk => by
    show sumF _ ([] ++ repE pl L 0) = _
    rw [List.nil_append, repE_sum hS ho (by omega), if_pos rfl]; omega
  | k + 1, hk => by
    show sumF _ (booksF pl L (k + 1) ++ repE pl L (k + 1)) = _
    rw [sumF_append, books_sum ho k (by omega), repE_sum hS ho (by omega), if_neg (by omega), show k + 1 - 1 = k by omega]
    omega
include hl
/-- The accounts are those of the last report. -/
theorem books_account (ho : 0 ≤ o) (hp : 0 ≤ p) {k : Nat} (hk : k + 1 ≤ L.length) : account (booksF pl L (k + 1)) o p 5 16777216 = allM o p (repM pl (repOf L k)) := by
  rw [account_wide (books_abs hS hl hk), ← books_sum hS ho k hk]
  refine sumF_congr fun e he => ?_
  have := books_good hS hl (k + 1) hk e he
  unfold accB entB
  rw [show decide (e.day ≤ 5) = true from decide_eq_true (by omega), show decide (e.known ≤ 16777216) = true from decide_eq_true (by omega), show decide (o = -1) = false from decide_eq_false (by omega), show decide (p = -1) = false from decide_eq_false (by omega)]
  simp
theorem books_before {k : Nat} (hk : k ≤ L.length) (o p : Int) : account (booksF pl L k) o p 4 16777216 = 0 := by
  rw [account_wide (books_abs hS hl hk)]
  refine sumF_none fun e he => ?_
  have := books_good hS hl k hk e he
  unfold accB
  rw [show decide (e.day ≤ 4) = false from decide_eq_false (by omega)]
  rfl
theorem books_whole {k : Nat} (hk : k ≤ L.length) : account (booksF pl L k) (-1) (-1) 5 16777216 = 0 := by
  rw [account_wide (books_abs hS hl hk)]
  exact (books_led hS hl k hk).zero (fun a b h1 h2 => by unfold accB; rw [h1, h2]; simp)
theorem books_bal {k : Nat} (hk : k ≤ L.length) : balanced (booksF pl L k) 16777216 = true := (books_led hS hl k hk).balanced _
end
section
variable {pl : Pl} {R : List Rt} {S : List Int} {o p : Int}
theorem shareI_skip {id v : Int} : ∀ (R : List Rt) (n : Int), (∀ r ∈ R, r.id ≠ id) → shareI R o p n (id, v) = n
  | [], _, _ => rfl
  | r :: R, n, h => by
    have e : shareS o p (id, v) n r = n := by unfold shareS; exact if_neg (fun g => h r (by simp) g.1)
    show shareI R o p (shareS o p (id, v) n r) (id, v) = n
    rw [e]
    exact shareI_skip R n (fun q hq => h q (by simp [hq]))
theorem shareI_at {r : Rt} {v : Int} : ∀ (R : List Rt) (n : Int), (R.map (·.id)).Nodup → r ∈ R → shareI R o p n (r.id, v) = if r.owner = o ∧ r.place = p then wrap64 (n + v) else n
  | [], _, _, h => by cases h
  | q :: R, n, hn, h => by
    rw [List.map_cons, List.nodup_cons] at hn
    show shareI R o p (shareS o p (r.id, v) n q) (r.id, v) = _
    by_cases e : q.id = r.id
    · have hq : r = q := by
        rcases List.mem_cons.1 h with g | g
        · exact g
        · exact absurd (e ▸ List.mem_map.2 ⟨r, g, rfl⟩) hn.1
      subst hq
      rw [shareI_skip R _ (fun z hz g => hn.1 (List.mem_map.2 ⟨z, hz, g⟩))]
      unfold shareS
      by_cases g : r.owner = o ∧ r.place = p
      · rw [if_pos g, if_pos ⟨rfl, g.1, g.2⟩]
      · rw [if_neg g, if_neg (fun z => g ⟨z.2.1, z.2.2⟩)]
    · have e1 : shareS o p (r.id, v) n q = n := by unfold shareS; exact if_neg (fun g => e g.1)
      rw [e1]
      rcases List.mem_cons.1 h with g | g
      · exact absurd (by rw [g]) e
      · exact shareI_at R n hn.2 g
def valP (o p : Int) (T : List (SP.T3 × Int)) : Int := (T.map fun x => if atB o p x.1 then x.2 else 0).sum
theorem valP_cons (x : SP.T3 × Int) (T : List (SP.T3 × Int)) : valP o p (x :: T) = (if atB o p x.1 then x.2 else 0) + valP o p T := by simp [valP]
theorem share_fold (hn : (R.map (·.id)).Nodup) : ∀ (T : List (SP.T3 × Int)) (n : Int), (∀ x ∈ T, (∃ r ∈ R, x.1 = (r.id, r.owner, r.place)) ∧ 0 ≤ x.2 ∧ x.2 ≤ 1125899906842624) → 0 ≤ n → n + T.length * 1125899906842624 ≤ 4611686018427387904 → (T.map fun x => (x.1.1, x.2)).foldl (shareI R o p) n = n + valP o p T
  | [], n, _, _, _ => by simp [valP]
  | x :: T, n, h, h0, hb => by
    obtain ⟨⟨r, hr, e⟩, v0, v1⟩ := h x (by simp)
    have hb : n + ((T.length : Int) + 1) * 1125899906842624 ≤ 4611686018427387904 := by simpa using hb
    rw [List.map_cons, List.foldl_cons, valP_cons]
    have e1 : shareI R o p n (x.1.1, x.2) = n + (if atB o p x.1 then x.2 else 0) := by
      rw [e]
      show shareI R o p n (r.id, x.2) = _
      rw [shareI_at R n hn hr]
      unfold atB
      by_cases g : r.owner = o ∧ r.place = p
      · rw [if_pos g]
        simp [g.1, g.2]
        exact wrap64_of (by omega)
      · rw [if_neg g, if_neg (by simpa using g)]; omega
    rw [e1]
    have hv : 0 ≤ (if atB o p x.1 then x.2 else 0) ∧ (if atB o p x.1 then x.2 else 0) ≤ 1125899906842624 := by split <;> omega
    rw [share_fold hn T _ (fun y hy => h y (by simp [hy])) (by omega) (by omega)]
    omega
theorem valP_pos : ∀ T : List (SP.T3 × Int), (∀ x ∈ T, 0 ≤ x.2) → valP o p (T.filter fun x => decide (0 < x.2)) = valP o p T
  | [], _ => rfl
  | x :: T, h => by
    have ih := valP_pos T (fun y hy => h y (by simp [hy]))
    have hx := h x (by simp)
    rw [List.filter_cons, valP_cons]
    by_cases g : 0 < x.2
    · rw [if_pos (by simpa using g), valP_cons, ih]
    · have : x.2 = 0 := by omega
      rw [if_neg (by simpa using g), ih, this]; simp
theorem valP_all {m : List (SP.T3 × Int)} (hn : (m.map (·.1)).Nodup) : allM o p m = valP o p m := by
  unfold allM sumT valP
  rw [List.map_map]
  congr 1
  refine List.map_congr_left fun x hx => ?_
  show valM o p m x.1 = _
  unfold valM lookX
  rw [getX_of m hn x hx]
  rfl
/-- What an owner has of the day's grants at a place. -/
theorem share_day (hM : CM.Modest pl R (supF S) S.length) (hn : (R.map (·.id)).Nodup) (hr : R.length ≤ 8) : shareF R (dayLs pl R S) o p = allM o p (dayX pl R S) := by
  have hk := dayX_keys (pl := pl) (S := S) hn
  have hx : ∀ x ∈ dayT pl R S, (∃ r ∈ R, x.1 = (r.id, r.owner, r.place)) ∧ 0 ≤ x.2 ∧ x.2 ≤ 1125899906842624 := fun x hx => by
    obtain ⟨i, hi, rfl⟩ := List.mem_map.1 hx
    have hi := List.mem_range.1 hi
    have e : R[i]? = some (rtN R i) := by unfold rtN; rw [List.getD_eq_getElem?_getD, List.getElem?_eq_getElem hi]; rfl
    exact ⟨⟨_, List.mem_of_getElem? e, rfl⟩, litN_bd hM i⟩
  rw [valP_all hk]
  unfold dayX
  rw [valP_pos _ (fun x h => (hx x h).2.1)]
  unfold shareF
  have hlen : (dayT pl R S).length = R.length := by simp [dayT]
  rw [dayT_day, share_fold hn _ 0 hx (by omega) (by rw [hlen]; omega)]
  omega
end
end Go.Proofs.Ythoigjkelinjhaa

/- SettleCorrects: for every input the law answers true. (Printed by gen_l4.py.) -/
namespace Go.Proofs.Ythoigjkelinjhaa
open Go.RowKit CM LD.LG
attribute [local go_sem] alloc_drewN setCell_drewN shape_drewN
set_option maxRecDepth 100000 in
set_option maxHeartbeats 8000000 in
theorem settleCorrects_any (X : Bas) (pl : Pl) (L : List Rep) (C : Option Addr) (cr : Nat) (w : World) (hX : RT.BasOk w w.heap.size X pl) (hnm : X.nm.size ≤ 9223372036854775807) (hP : PlacesAt w w.heap.size X.P pl) (hL : RepsAt w w.heap.size C L) (hpl : pl.length ≤ 9223372036854775807) (hl : L.length ≤ 9223372036854775807) (hcap : L.length ≤ cr) (hcr : cr ≤ 9223372036854775807) :
    Calls Try.prog 6 #[.agg #[.string X.nm, .slice X.a1 X.l1 X.c1, .int .i64 X.cl, .slice X.P pl.length X.cP, .slice X.a4 X.l4 X.c4, .slice X.a5 X.l5 X.c5, .slice X.a6 X.l6 X.c6, .slice X.a7 X.l7 X.c7, .slice X.a8 X.l8 X.c8, .slice X.a9 X.l9 X.c9, .int .i64 X.er], .slice C L.length cr] w (BoolIs true w) := by
  have K0 := Lib.hid (fun wx => small4_any wx)
  have KSo : Hid (∀ wx, Below w.heap.size w wx → Calls Try.prog 16 #[.agg #[.string X.nm, .slice X.a1 X.l1 X.c1, .int .i64 X.cl, .slice X.P pl.length X.cP, .slice X.a4 X.l4 X.c4, .slice X.a5 X.l5 X.c5, .slice X.a6 X.l6 X.c6, .slice X.a7 X.l7 X.c7, .slice X.a8 X.l8 X.c8, .slice X.a9 X.l9 X.c9, .int .i64 X.er], .slice C L.length cr] wx (IfB (Sound4 X pl L) wx)) := fun wx h => sound_any X pl L C cr wx (hX.up h) hnm ((hL.below h).more h.size) hl hpl
  clear hX hnm
  by_cases c1 : L.length = 0
  case pos =>
    have d1 : (L.length == 0) = true := by simpa using c1
    have d2 : ((L.length : Int) == 0) = true := by rw [show (L.length : Int) = 0 by omega]; rfl
    clear c1 hP hL
    go_enter Try.func6, Try.ntmps6
    go_wp2_with (first | (go_at_call 7; ((with_reducible refine (K0.out _).mono ?_); rintro e1 w1 ⟨rfl, hb1⟩; have hB1 : Below w.heap.size w w1 := (below_new w _).trans (hb1.mono (by simp)); have hX1 : BoxB w1 w.heap.size X pl := (BoxB.new w X pl).below hb1 (by simp); have hz1 : w.heap.size < w1.heap.size := Nat.lt_of_lt_of_le (by simp) hb1.size; obtain ⟨x0, x1, x2, x3, x4, x5, x6, x7, x8, x9, x10⟩ := hX1.cells)) | (go_at_call 16; ((with_reducible refine (KSo.out _ hB1).mono ?_); rintro e2 w2 ⟨b2, rfl, hp2, hb2⟩; have hB2 := hB1.trans (hb2.mono hB1.size); have hX2 := hX1.below hb2 hz1; have hz2 : w.heap.size < w2.heap.size := Nat.lt_of_lt_of_le hz1 hb2.size; clear x0 x1 x2 x3 x4 x5 x6 x7 x8 x9 x10; obtain ⟨x0, x1, x2, x3, x4, x5, x6, x7, x8, x9, x10⟩ := hX2.cells); cases b2) | fail)
    go_ret
    exact ⟨rfl, hB1⟩
  have d1 : (L.length == 0) = false := by simpa using c1
  have d2 : ((L.length : Int) == 0) = false := by rw [beq_eq_false_iff_ne]; omega
  by_cases hall : Sound4 X pl L
  case neg =>
    have HA := Lib.hid hall
    clear hall hP hL c1
    go_enter Try.func6, Try.ntmps6
    go_wp2_with (first | (go_at_call 7; ((with_reducible refine (K0.out _).mono ?_); rintro e1 w1 ⟨rfl, hb1⟩; have hB1 : Below w.heap.size w w1 := (below_new w _).trans (hb1.mono (by simp)); have hX1 : BoxB w1 w.heap.size X pl := (BoxB.new w X pl).below hb1 (by simp); have hz1 : w.heap.size < w1.heap.size := Nat.lt_of_lt_of_le (by simp) hb1.size; obtain ⟨x0, x1, x2, x3, x4, x5, x6, x7, x8, x9, x10⟩ := hX1.cells)) | (go_at_call 16; ((with_reducible refine (KSo.out _ hB1).mono ?_); rintro e2 w2 ⟨b2, rfl, hp2, hb2⟩; have hB2 := hB1.trans (hb2.mono hB1.size); have hX2 := hX1.below hb2 hz1; have hz2 : w.heap.size < w2.heap.size := Nat.lt_of_lt_of_le hz1 hb2.size; clear x0 x1 x2 x3 x4 x5 x6 x7 x8 x9 x10; obtain ⟨x0, x1, x2, x3, x4, x5, x6, x7, x8, x9, x10⟩ := hX2.cells); cases b2; rotate_left; exact absurd (hp2 (by trivial)) HA.out) | fail)
    go_ret
    exact ⟨rfl, hB2⟩
  obtain ⟨hS, hl5⟩ := hall
  obtain ⟨j, hj⟩ : ∃ j, L.length = j + 1 := ⟨L.length - 1, by omega⟩
  obtain ⟨r, hx⟩ : ∃ r, L[j]? = some r := ⟨_, List.getElem?_eq_getElem (by omega)⟩
  have hsr := hS r (List.mem_of_getElem? hx)
  have hrep := repOf_at hx
  have hM := sound_modest hsr
  have hn := hsr.2.1.2
  have hr8 := hsr.1.2.1
  have hp8 := hsr.1.1.1
  have ho4 := hsr.1.1.2.2.2.2
  have hdl := dayLs_len (pl := pl) (R := r.R) (S := r.S)
  have h64 := day_in64 hM
  have hbl := books_len hS L.length (Nat.le_refl _)
  have hbi := books_in64 hS hl5 (Nat.le_refl L.length)
  have hacc := Lib.hid (fun (o p : Int) (ho : 0 ≤ o) (hp : 0 ≤ p) => (show LD.LG.account (booksF pl L L.length) o p 5 16777216 = shareF r.R (dayLs pl r.R r.S) o p from by
    rw [hj, books_account hS hl5 ho hp (by omega), hrep, share_day hM hn hr8]; rfl))
  have hbef := Lib.hid (fun (o p : Int) => books_before hS hl5 (Nat.le_refl L.length) o p)
  have hwho := Lib.hid (books_whole hS hl5 (Nat.le_refl L.length))
  have hbal := Lib.hid (books_bal hS hl5 (Nat.le_refl L.length))
  have hgot : gotF pl L L.length = dayLs pl r.R r.S := by
    unfold gotF
    rw [if_neg (by omega), show L.length - 1 = j by omega, hrep]
  obtain ⟨N2, hN2⟩ : ∃ N, (booksF pl L L.length).length = N := ⟨_, rfl⟩
  have KC : Hid (∀ wx, Below w.heap.size w wx → Calls Try.prog 17 #[.agg #[.string X.nm, .slice X.a1 X.l1 X.c1, .int .i64 X.cl, .slice X.P pl.length X.cP, .slice X.a4 X.l4 X.c4, .slice X.a5 X.l5 X.c5, .slice X.a6 X.l6 X.c6, .slice X.a7 X.l7 X.c7, .slice X.a8 X.l8 X.c8, .slice X.a9 X.l9 X.c9, .int .i64 X.er], .slice C L.length cr] wx (fun e w' => ∃ CB cb DG cd, e = .returned (.tuple #[.slice CB N2 cb, .slice DG r.R.length cd, .bool true]) ∧ RowAt etC 7 w' w'.heap.size CB (booksF pl L L.length) ∧ PairsAt w' w'.heap.size DG (dayLs pl r.R r.S) ∧ Below wx.heap.size wx w')) := fun wx h => by
    have z := course_any X pl L C cr wx (hP.below h) (hL.below h) h.size hS hl5 (by omega)
    rw [hgot] at z
    exact z.mono fun e w' ⟨CB, cb, DG, cd, he, h1, h2, h3⟩ => ⟨CB, cb, DG, cd, by rw [he, hN2, hdl], h1, h2, h3⟩
  obtain ⟨b, off, ec, hb, C1, c1', C2, c2', r0, r1, hR, hSu, hrl, hsl, hs64⟩ := hL.at_ hx
  have KD : Hid (∀ wx, Below w.heap.size w wx → Calls Try.prog 11 #[.agg #[.string X.nm, .slice X.a1 X.l1 X.c1, .int .i64 X.cl, .slice X.P pl.length X.cP, .slice X.a4 X.l4 X.c4, .slice X.a5 X.l5 X.c5, .slice X.a6 X.l6 X.c6, .slice X.a7 X.l7 X.c7, .slice X.a8 X.l8 X.c8, .slice X.a9 X.l9 X.c9, .int .i64 X.er], .slice C1 r.R.length c1', .slice C2 r.S.length c2'] wx (fun e w' => ∃ D cd, e = .returned (.tuple #[.slice D r.R.length cd, .slice (some ⟨wx.heap.size + 1 + 1, 0, none⟩) pl.length pl.length]) ∧ PairsAt w' w'.heap.size D (dayLs pl r.R r.S) ∧ Below wx.heap.size wx w')) := fun wx h => (day_any X pl r.R r.S C1 c1' C2 c2' wx (B := w.heap.size) (hP.below h) (hR.below h) (hSu.below h) h.size (by omega) (by omega) hsl hs64).mono fun e w' hd => day_pairs4 hd
  have KS : Hid (∀ (G : Option Addr) (cg : Nat) (H : Option Addr) (ch : Nat) (wx : World), PairsAt wx wx.heap.size G (dayLs pl r.R r.S) → PairsAt wx wx.heap.size H (dayLs pl r.R r.S) → Calls Try.prog 14 #[.slice G r.R.length cg, .slice H r.R.length ch] wx (fun e w' => e = .returned (.bool true) ∧ ∃ n, w' = wx.drewN n)) := fun G cg H ch wx hG hH => by
    have q := sameG_any (dayLs pl r.R r.S) (dayLs pl r.R r.S) G H cg ch wx hG hH (by omega) (by omega)
    rw [hdl] at q
    exact q.mono fun e w' ⟨he, hw⟩ => ⟨by rw [he]; unfold SameL; simp, hw⟩
  have KH : Hid (∀ (G : Option Addr) (cg : Nat) (o p : Int) (wx : World), Below w.heap.size w wx → PairsAt wx wx.heap.size G (dayLs pl r.R r.S) → Calls Try.prog 15 #[.slice C1 r.R.length c1', .slice G r.R.length cg, .int .i64 o, .int .i64 p] wx (fun e w' => e = .returned (.int .i64 (shareF r.R (dayLs pl r.R r.S) o p)) ∧ Below wx.heap.size wx w')) := fun G cg o p wx h hG => by
    have z := share_any r.R (dayLs pl r.R r.S) o p C1 c1' G cg wx ((hR.below h).more h.size) hG (Nat.le_refl _) (by omega) (by omega)
    rw [hdl] at z
    exact z
  obtain ⟨BL, hBL⟩ : ∃ Q, booksF pl L L.length = Q := ⟨_, rfl⟩
  rw [hBL] at hacc hbef hwho hbal hbl hbi hN2 KC
  have KA := Lib.hid (fun (CB : Option Addr) (cb : Nat) (o p d : Int) (wx : World) (h : RowAt etC 7 wx wx.heap.size CB BL) => (show Calls Try.prog 18 #[.slice CB N2 cb, .int .i64 o, .int .i64 p, .int .i64 d, .int .i64 16777216] wx (fun e w' => e = .returned (.int .i64 (LD.LG.account BL o p d 16777216)) ∧ Below wx.heap.size wx w') from by
    have z := LD.account_any BL CB cb o p d 16777216 wx (show LD.EntsAt _ _ _ _ from h) (Nat.le_refl _) (by omega) hbi
    rw [hN2] at z
    exact z))
  have KB := Lib.hid (fun (CB : Option Addr) (cb : Nat) (wx : World) (h : RowAt etC 7 wx wx.heap.size CB BL) => (show Calls Try.prog 19 #[.slice CB N2 cb, .int .i64 16777216] wx (fun e w' => e = .returned (.bool true) ∧ Below wx.heap.size wx w') from by
    have z := LD.balanced_any BL CB cb 16777216 wx (show LD.EntsAt _ _ _ _ from h) (Nat.le_refl _) (by omega) hbi
    rw [hN2, hbal.out] at z
    exact z))
  have v2 : (L.length : Int) - 1 = (j : Int) := by omega
  have v1 : IntKind.i64.wrap ((L.length : Int) - 1) = (j : Int) := by rw [v2, IntWalk.i64_left, IntWalk.wrap64_in _ (by omega)]
  have hjj : 0 ≤ (j : Int) ∧ (j : Int) < (L.length : Int) := by omega
  have HC := Lib.hid ec
  have HR0 := Lib.hid (And.intro r0 r1)
  have HV := Lib.hid (And.intro v1 v2)
  clear hP hL hS hsr hrep hM hn hr8 hdl h64 hbl hbi hgot hN2 hBL hbal hx r0 r1 hR hSu hrl hsl hs64 c1 hj v1 v2
  subst ec
  go_enter Try.func6, Try.ntmps6
  go_upto_region 4 with (first | (go_at_call 7; ((with_reducible refine (K0.out _).mono ?_); rintro e1 w1 ⟨rfl, hb1⟩; have hB1 : Below w.heap.size w w1 := (below_new w _).trans (hb1.mono (by simp)); have hX1 : BoxB w1 w.heap.size X pl := (BoxB.new w X pl).below hb1 (by simp); have hz1 : w.heap.size < w1.heap.size := Nat.lt_of_lt_of_le (by simp) hb1.size; obtain ⟨x0, x1, x2, x3, x4, x5, x6, x7, x8, x9, x10⟩ := hX1.cells)) | (go_at_call 16; ((with_reducible refine (KSo.out _ hB1).mono ?_); rintro e2 w2 ⟨b2, rfl, hp2, hb2⟩; have hB2 := hB1.trans (hb2.mono hB1.size); have hX2 := hX1.below hb2 hz1; have hz2 : w.heap.size < w2.heap.size := Nat.lt_of_lt_of_le hz1 hb2.size; clear x0 x1 x2 x3 x4 x5 x6 x7 x8 x9 x10; obtain ⟨x0, x1, x2, x3, x4, x5, x6, x7, x8, x9, x10⟩ := hX2.cells); cases b2) | fail)
  any_goals
    go_ret
    exact ⟨rfl, hB2⟩
  clear hp2 hb2 hX1 hB1 K0 KSo d1 d2
  go_upto_region 5 with (first | (go_at_call 17; ((with_reducible refine (KC.out _ hB2).mono ?_); rintro e3 w3 ⟨CB, cb, DG, cd, rfl, hE3, hG3, hb3⟩; have hB3 := hB2.trans (hb3.mono hB2.size); have hX3 := hX2.below hb3 hz2; have hz3 : w.heap.size < w3.heap.size := Nat.lt_of_lt_of_le hz2 hb3.size; clear x0 x1 x2 x3 x4 x5 x6 x7 x8 x9 x10; obtain ⟨x0, x1, x2, x3, x4, x5, x6, x7, x8, x9, x10⟩ := hX3.cells)) | fail)
  clear hX2 hB2 hb3 KC
  obtain ⟨r0, r1⟩ := HR0.out
  have r0 := (hB3.cell (p := ⟨b, _, none⟩) (show b < w.heap.size from hb)).trans r0
  have r1 := (hB3.cell (p := ⟨b, _, none⟩) (show b < w.heap.size from hb)).trans r1
  obtain ⟨v1, v2⟩ := HV.out
  go_upto_region 6 with fail
  clear v1 v2 r0 r1
  have hbn := below_new w3 (.cells #[.slice C1 r.R.length c1', .slice C2 r.S.length c2'] 58)
  have hbx := RT.Box.new w3 #[.slice C1 r.R.length c1', .slice C2 r.S.length c2'] 58
  have hB4 := hB3.trans (hbn.mono hB3.size)
  have hX4 := hX3.below hbn hz3
  have hE4 := (hE3.below hbn).more hbn.size
  have hG4 := (hG3.below hbn).more hbn.size
  have hz4 := Nat.lt_of_lt_of_le hz3 hbn.size
  have hbz := hbx.lt
  clear hE3 hG3 hX3 hB3 hbn x0 x1 x2 x3 x4 x5 x6 x7 x8 x9 x10
  obtain ⟨ob, hob⟩ : ∃ ob, w3.heap.size = ob := ⟨_, rfl⟩
  generalize hW4 : w3.alloc (.cells #[.slice C1 r.R.length c1', .slice C2 r.S.length c2'] 58) = w4 at hbx hB4 hX4 hE4 hG4 hz4 hbz ⊢
  rw [hob] at hbx hbz ⊢
  clear hob hW4
  have y0 : w4.cell? ⟨ob, 0, none⟩ = some (.slice C1 r.R.length c1') := hbx.cell rfl
  have y1 : w4.cell? ⟨ob, 1, none⟩ = some (.slice C2 r.S.length c2') := hbx.cell rfl
  have HBX := Lib.hid hbx
  clear hbx
  obtain ⟨x0, x1, x2, x3, x4, x5, x6, x7, x8, x9, x10⟩ := hX4.cells
  go_upto_region 7 with (first | (go_at_call 11; ((with_reducible refine (KD.out _ hB4).mono ?_); rintro e5 w5 ⟨D5, cd5, rfl, hD5, hb5⟩; have hB5 := hB4.trans (hb5.mono hB4.size); have hX5 := hX4.below hb5 hz4; have hz5 : w.heap.size < w5.heap.size := Nat.lt_of_lt_of_le hz4 hb5.size; clear x0 x1 x2 x3 x4 x5 x6 x7 x8 x9 x10; obtain ⟨x0, x1, x2, x3, x4, x5, x6, x7, x8, x9, x10⟩ := hX5.cells)) | fail)
  have hG5 := (hG4.below hb5).more hb5.size
  have hE5 := (hE4.below hb5).more hb5.size
  have HBX5 := Lib.hid (HBX.out.below hb5 hbz)
  have hbz5 := Nat.lt_of_lt_of_le hbz hb5.size
  clear hG4 hE4 hX4 hB4 KD HBX hbz hb5 y0 y1 x0 x1 x2 x3 x4 x5 x6 x7 x8 x9 x10
  go_upto_region 9 with (first | (go_at_call 14; ((with_reducible refine (KS.out _ _ _ _ _ hG5 hD5).mono ?_); rintro e6 w6 ⟨rfl, n6, hw6⟩; subst hw6)) | fail)
  have HE5 := Lib.hid hE5
  have HD5 := Lib.hid hD5
  have HX5 := Lib.hid hX5
  have HB5 := Lib.hid hB5
  clear hG5 hE5 hD5 hX5 hB5 KS
  have zs : w5.cell? ⟨w.heap.size, 1, none⟩ = some (.slice X.a1 X.l1 X.c1) := HX5.out.cells.2.1
  go_wp2_with fail
  go_loopw [12] (fun iv wr => ∃ o : Nat, o ≤ X.l1 ∧ iv = .int .i64 o ∧ Below w5.heap.size w5 wr) (fun iv _ => X.l1 - (intOf iv).toNat)
  case atStart => exact ⟨0, Nat.zero_le _, rfl, below_drewN (Below.refl _ _) _⟩
  case round =>
    obtain ⟨o, ho, rfl, hBr⟩ := hrel
    have hX6 := HX5.out.below hBr hz5
    have y1 : wr.cell? ⟨w.heap.size, 1, none⟩ = some (.slice X.a1 X.l1 X.c1) := hX6.cells.2.1
    have hzr : w5.heap.size ≤ wr.heap.size := hBr.size
    by_cases hlt : o < X.l1
    case neg =>
      have hE6 := (HE5.out.below hBr).more hzr
      have KA1 := KA.out CB cb (-1) (-1) 5 wr hE6
      rw [hwho.out] at KA1
      have HA1 := Lib.hid KA1
      have hBB := HB5.out.trans (hBr.mono HB5.out.size)
      clear hX6 KA1 hBr
      go_wp2_with (first | (go_at_call 18; ((with_reducible refine (HA1.out).mono ?_); rintro e7 w7 ⟨rfl, hb7⟩; have hE7 := (hE6.below hb7).more hb7.size)) | (go_at_call 19; ((with_reducible refine (KB.out CB cb _ hE7).mono ?_); rintro e8 w8 ⟨rfl, hb8⟩)) | fail)
      go_ret
      exact ⟨rfl, hBB.trans ((hb7.trans (hb8.mono hb7.size)).mono hBB.size)⟩
    have HBr := Lib.hid hBr
    have Hlt := Lib.hid hlt
    clear hBr hX6
    go_wp2_with fail
    clear y1
    go_loopw [13] (fun iv wr => ∃ p : Nat, p ≤ pl.length ∧ iv = .int .i64 p ∧ Below w5.heap.size w5 wr) (fun iv _ => pl.length - (intOf iv).toNat)
    case atStart => exact ⟨0, Nat.zero_le _, rfl, HBr.out⟩
    case round =>
      clear hzr
      obtain ⟨p, hp, rfl, hBp⟩ := hrel
      have hX7 := HX5.out.below hBp hz5
      have y3 : wr.cell? ⟨w.heap.size, 3, none⟩ = some (.slice X.P pl.length X.cP) := hX7.cells.2.2.2.1
      have hzr : w5.heap.size ≤ wr.heap.size := hBp.size
      by_cases hpt : p < pl.length
      case neg =>
        clear hX7
        go_wp2_with fail
        go_roundw
        case rel => exact ⟨o + 1, by have := Hlt.out; omega, by go_num, hBp⟩
        case measure => have := Hlt.out; simp [intOf]; omega
      have hE7 := (HE5.out.below hBp).more hzr
      have hD7 := (HD5.out.below hBp).more hzr
      have s0 : wr.cell? ⟨ob, 0, none⟩ = some (.slice C1 r.R.length c1') := (HBX5.out.below hBp hbz5).cell rfl
      have hob : ob < wr.heap.size := by omega
      obtain ⟨z, hz⟩ : ∃ z, shareF r.R (dayLs pl r.R r.S) o p = z := ⟨_, rfl⟩
      have KX : Hid (∀ wx, Below wr.heap.size wr wx → Calls Try.prog 18 #[.slice CB N2 cb, .int .i64 o, .int .i64 p, .int .i64 5, .int .i64 16777216] wx (fun e w' => e = .returned (.int .i64 z) ∧ Below wx.heap.size wx w')) := fun wx h => by
        have q := KA.out CB cb o p 5 wx ((hE7.below h).more h.size)
        rw [hacc.out o p (by omega) (by omega), hz] at q
        exact q
      have KY : Hid (∀ wx, Below wr.heap.size wr wx → Calls Try.prog 15 #[.slice C1 r.R.length c1', .slice D5 r.R.length cd5, .int .i64 o, .int .i64 p] wx (fun e w' => e = .returned (.int .i64 z) ∧ Below wx.heap.size wx w')) := fun wx h => by
        have q := KH.out D5 cd5 o p wx (HB5.out.trans ((hBp.trans (h.mono hzr)).mono HB5.out.size)) ((hD7.below h).more h.size)
        rw [hz] at q
        exact q
      have KZ : Hid (∀ wx, Below wr.heap.size wr wx → Calls Try.prog 18 #[.slice CB N2 cb, .int .i64 o, .int .i64 p, .int .i64 4, .int .i64 16777216] wx (fun e w' => e = .returned (.int .i64 0) ∧ Below wx.heap.size wx w')) := fun wx h => by
        have q := KA.out CB cb o p 4 wx ((hE7.below h).more h.size)
        rw [hbef.out o p] at q
        exact q
      have k1 : (z != z) = false := by simp
      clear hz hE7 hD7 hX7
      go_upto_region 15 with fail
      clear y3
      refine Plan.wp_region_tree (.rd 0 (.rd 1 (.rd 2 (.rd 4 (.rd 5 (.rd 6 (.rd 7 (.rd 8 (.wr 3 (.wr 9 (.rd 10 (.rd 11 (.rd 12 (.rd 13 (.rd 14 (.wr 15 (.rd 16 (.rd 17 .done)))))))))))))))))) (by kernel_rfl) (by kernel_rfl) ?_
      (repeat (first | (refine Plan.tree_read (v := ?_) rfl rfl ?_ ?_; rotate_left; (focus ((intro wS hSw; have hkS := (bcell hSw).1; go_simp); try with_reducible rfl)); simp only [Act.put, List.setIfInBounds_toArray, List.set_cons_zero, List.set_cons_succ]) | (refine Plan.tree_skip rfl rfl ?_; simp only [Act.put, List.setIfInBounds_toArray, List.set_cons_zero, List.set_cons_succ])))
      (refine Plan.tree_write rfl (fun K hK => ?_); try go_simp)
      go_at_call 18
      (with_reducible refine (KX.out _ (Below.refl _ _).drew).mono ?_)
      rintro e7 w7 ⟨rfl, hb7⟩
      have kB7 := Plan.below_go ((Below.refl _ _).drew) hb7
      (try go_simp)
      (refine hK.out _ _ (kB7) ?_; clear hK K; try simp only [Act.put, List.setIfInBounds_toArray, List.set_cons_zero, List.set_cons_succ])
      (repeat (first | (refine Plan.tree_read (v := ?_) rfl rfl ?_ ?_; rotate_left; (focus ((intro wS hSw; have hkS := (bcell hSw).1; go_simp); try with_reducible rfl)); simp only [Act.put, List.setIfInBounds_toArray, List.set_cons_zero, List.set_cons_succ]) | (refine Plan.tree_skip rfl rfl ?_; simp only [Act.put, List.setIfInBounds_toArray, List.set_cons_zero, List.set_cons_succ])))
      (refine Plan.tree_write rfl (fun K hK => ?_); try go_simp)
      go_at_call 15
      (with_reducible refine (KY.out _ kB7).mono ?_)
      rintro e8 w8 ⟨rfl, hb8⟩
      have kB8 := Plan.below_go (kB7) hb8
      (try go_simp)
      (refine hK.out _ _ (kB8) ?_; clear hK K; try simp only [Act.put, List.setIfInBounds_toArray, List.set_cons_zero, List.set_cons_succ])
      (repeat (first | (refine Plan.tree_read (v := ?_) rfl rfl ?_ ?_; rotate_left; (focus ((intro wS hSw; have hkS := (bcell hSw).1; go_simp); try with_reducible rfl)); simp only [Act.put, List.setIfInBounds_toArray, List.set_cons_zero, List.set_cons_succ]) | (refine Plan.tree_skip rfl rfl ?_; simp only [Act.put, List.setIfInBounds_toArray, List.set_cons_zero, List.set_cons_succ])))
      (refine Plan.tree_write rfl (fun K hK => ?_); try go_simp)
      go_at_call 18
      (with_reducible refine (KZ.out _ kB8).mono ?_)
      rintro e9 w9 ⟨rfl, hb9⟩
      have kB9 := Plan.below_go (kB8) hb9
      (try go_simp)
      (refine hK.out _ _ (kB9) ?_; clear hK K; try simp only [Act.put, List.setIfInBounds_toArray, List.set_cons_zero, List.set_cons_succ])
      (repeat (first | (refine Plan.tree_read (v := ?_) rfl rfl ?_ ?_; rotate_left; (focus ((intro wS hSw; have hkS := (bcell hSw).1; go_simp); try with_reducible rfl)); simp only [Act.put, List.setIfInBounds_toArray, List.set_cons_zero, List.set_cons_succ]) | (refine Plan.tree_skip rfl rfl ?_; simp only [Act.put, List.setIfInBounds_toArray, List.set_cons_zero, List.set_cons_succ])))
      refine Plan.tree_done ?_
      have hB9 := hBp.trans (kB9.mono hzr)
      clear hBp hb7 hb8 hb9 kB7 kB8 kB9 s0
      go_wp2_with fail
      go_roundw
      case rel => exact ⟨p + 1, by omega, by go_num, hB9⟩
      case measure => simp [intOf]; omega
end Go.Proofs.Ythoigjkelinjhaa

/- An opened argument: a slice of reports. -/
namespace Go.Proofs.Ythoigjkelinjhaa
open Go.ChangeShapes Go.WideShapes Go.ChangeAt Go.RowKit Go.Deep CM
set_option maxRecDepth 100000

section
variable {P : Program} {w : World} {B : Nat}
theorem ints_of_struct {n k : Nat} {t ti : TypeId} {fs : Array Field} {cs : List Value} (hu : P.underlying t = some (.struct fs)) (hc : P.cellsOf t = k) (hm : ∀ j, j < k → ∃ f, fs[j]? = some f ∧ f.type = ti ∧ f.offset = j) (h1 : P.cellsOf ti = 1) (hi : P.underlying ti = some (.int .i64)) (h : Okv P w B n t cs) :
    cs.length = k ∧ ∀ j, j < k → ∃ z : Int, In64 z ∧ cs[j]? = some (.int .i64 z) := by
  obtain ⟨hl, m, hF⟩ := Okv.fields hu h
  refine ⟨hl.trans hc, fun j hj => ?_⟩
  obtain ⟨f, hf, ht, ho⟩ := hm j hj
  have q := hF j f hf
  rw [ht, ho, h1] at q
  obtain ⟨z, hz, e⟩ := Okv.int hi q
  refine ⟨z, hz, ?_⟩
  have g := congrArg (fun l : List Value => l[0]?) e
  simpa [List.getElem?_take, List.getElem?_drop] using g
end
section
variable {w : World} {B : Nat}
theorem rightT_fields : ∃ fs, Try.prog.underlying 49 = some (.struct fs) ∧ fs.map (fun f => (f.type, f.offset, Try.prog.cellsOf f.type)) = #[(3, 0, 1), (3, 1, 1), (3, 2, 1), (3, 3, 1), (3, 4, 1), (3, 5, 1), (3, 6, 1), (3, 7, 1), (3, 8, 1)] := ⟨_, Try.underlying49, by kernel_rfl⟩
theorem repT_fields : Try.prog.cellsOf 58 = 2 ∧ ∃ fs, Try.prog.underlying 58 = some (.struct fs) ∧ fs.map (fun f => (f.type, f.offset, Try.prog.cellsOf f.type)) = #[(32, 0, 1), (29, 1, 1)] := ⟨by kernel_rfl, _, Try.underlying58, by kernel_rfl⟩
theorem rights_okv {m len : Nat} {C : Option Addr} (h : SlT Try.prog w B m 49 9 C len) : ∃ A : List Rt, A.length = len ∧ RightsAt w B C A := by
  by_cases h0 : len = 0
  · exact ⟨[], by simp [h0], fun h => absurd h (by simp)⟩
  obtain ⟨b, off, e, hb, hc⟩ := h (by omega)
  obtain ⟨fs, hu, hm⟩ := rightT_fields
  have key : ∀ i, ∃ r : Rt, i < len → ∀ (j : Nat) (v : Value), r.cells[j]? = some v → w.cell? ⟨b, off + (i * 9 + j), none⟩ = some v := by
    intro i
    by_cases hi : i < len
    · obtain ⟨F, f1, f2, f3⟩ := hc i hi
      obtain ⟨_, hz⟩ := ints_of_struct (ti := 3) hu cellsRight (fun j hj => by
        have hx : ∃ x : Nat × Nat × Nat, (#[(3, 0, 1), (3, 1, 1), (3, 2, 1), (3, 3, 1), (3, 4, 1), (3, 5, 1), (3, 6, 1), (3, 7, 1), (3, 8, 1)] : Array (Nat × Nat × Nat))[j]? = some x ∧ x.1 = 3 ∧ x.2.1 = j := by
          match j, hj with
          | 0, _ => exact ⟨_, rfl, rfl, rfl⟩
          | 1, _ => exact ⟨_, rfl, rfl, rfl⟩
          | 2, _ => exact ⟨_, rfl, rfl, rfl⟩
          | 3, _ => exact ⟨_, rfl, rfl, rfl⟩
          | 4, _ => exact ⟨_, rfl, rfl, rfl⟩
          | 5, _ => exact ⟨_, rfl, rfl, rfl⟩
          | 6, _ => exact ⟨_, rfl, rfl, rfl⟩
          | 7, _ => exact ⟨_, rfl, rfl, rfl⟩
          | 8, _ => exact ⟨_, rfl, rfl, rfl⟩
        obtain ⟨x, hx, e1, e2⟩ := hx
        obtain ⟨f, g1, g2, g3, _⟩ := field_at hm hx
        exact ⟨f, g1, g2.trans e1, g3.trans e2⟩) cellsI Try.underlying3 f3
      obtain ⟨z0, _, e0⟩ := hz 0 (by omega)
      obtain ⟨z1, _, e1⟩ := hz 1 (by omega)
      obtain ⟨z2, _, e2⟩ := hz 2 (by omega)
      obtain ⟨z3, _, e3⟩ := hz 3 (by omega)
      obtain ⟨z4, _, e4⟩ := hz 4 (by omega)
      obtain ⟨z5, _, e5⟩ := hz 5 (by omega)
      obtain ⟨z6, _, e6⟩ := hz 6 (by omega)
      obtain ⟨z7, _, e7⟩ := hz 7 (by omega)
      obtain ⟨z8, _, e8⟩ := hz 8 (by omega)
      refine ⟨⟨z0, z1, z2, z3, z4, z5, z6, z7, z8⟩, fun _ j v hv => f2 j v ?_⟩
      have hj : j < 9 := (List.getElem?_eq_some_iff.1 hv).1
      rw [← hv]
      match j, hj with
      | 0, _ => exact e0
      | 1, _ => exact e1
      | 2, _ => exact e2
      | 3, _ => exact e3
      | 4, _ => exact e4
      | 5, _ => exact e5
      | 6, _ => exact e6
      | 7, _ => exact e7
      | 8, _ => exact e8
    · exact ⟨⟨0, 0, 0, 0, 0, 0, 0, 0, 0⟩, fun h => absurd h hi⟩
  obtain ⟨G, hG⟩ := Classical.skolem.1 key
  refine ⟨(List.range len).map G, by simp, fun _ => ⟨b, off, e, hb, fun k r hk j v hj => ?_⟩⟩
  have hkl : k < len := by have := (List.getElem?_eq_some_iff.1 hk).1; simpa using this
  have hr : G k = r := by simpa [hkl] using hk
  subst hr
  exact hG k hkl j v hj
theorem ints_okv {m len : Nat} {C : Option Addr} (h : SlT Try.prog w B m 3 1 C len) : ∃ A : List Int, A.length = len ∧ IntsAt w B C A ∧ ∀ x ∈ A, In64 x := by
  by_cases h0 : len = 0
  · exact ⟨[], by simp [h0], (fun h => absurd h (by simp)), fun x hx => by cases hx⟩
  obtain ⟨b, off, e, hb, hc⟩ := h (by omega)
  have key : ∀ i, ∃ z : Int, i < len → w.cell? ⟨b, off + i, none⟩ = some (.int .i64 z) ∧ In64 z := by
    intro i
    by_cases hi : i < len
    · obtain ⟨F, f1, f2, f3⟩ := hc i hi
      obtain ⟨z, hz, rfl⟩ := Okv.int Try.underlying3 f3
      have q := f2 0 _ rfl
      rw [Nat.mul_one, Nat.add_zero] at q
      exact ⟨z, fun _ => ⟨q, hz⟩⟩
    · exact ⟨0, fun h => absurd h hi⟩
  obtain ⟨G, hG⟩ := Classical.skolem.1 key
  have hA : ((List.range len).map G).length = len := by simp
  refine ⟨(List.range len).map G, hA, fun _ => ⟨b, off, e, hb, fun j hj => ?_⟩, fun x hx => ?_⟩
  · rw [hA] at hj
    rw [(hG j hj).1]
    simp [intF, List.getD_eq_getElem?_getD, hj]
  · obtain ⟨i, hi, rfl⟩ := List.mem_map.1 hx
    exact (hG i (List.mem_range.1 hi)).2
theorem reps_okv {n : Nat} {t : TypeId} {cs : List Value} (ht : Try.prog.underlying t = some (.slice 58)) (h : Okv Try.prog w B n t cs) : ∃ C cap, ∃ L : List Rep, cs = [.slice C L.length cap] ∧ L.length ≤ 9223372036854775807 ∧ RepsAt w B C L := by
  obtain ⟨m, C, len, cap, e, hl, hs⟩ := Okv.slice ht repT_fields.1 (by omega) h
  by_cases h0 : len = 0
  · exact ⟨C, cap, [], by simp [e, h0], by simp, fun h => absurd h (by simp)⟩
  obtain ⟨b, off, eC, hb, hc⟩ := hs (by omega)
  obtain ⟨_, fs, hu, hm⟩ := repT_fields
  have key : ∀ i, ∃ r : Rep, i < len → RepAt w B b (off + i * 2) r := by
    intro i
    by_cases hi : i < len
    · obtain ⟨F, f1, f2, f3⟩ := hc i hi
      obtain ⟨hFl, m2, hF⟩ := Okv.fields hu f3
      obtain ⟨g0, a0, b0, c0, d0⟩ := field_at hm (j := 0) rfl
      obtain ⟨g1, a1, b1, c1, d1⟩ := field_at hm (j := 1) rfl
      have q0 := hF 0 g0 a0
      have q1 := hF 1 g1 a1
      rw [b0, c0] at q0
      rw [b0] at d0
      rw [d0] at q0
      rw [b1, c1] at q1
      rw [b1] at d1
      rw [d1] at q1
      obtain ⟨m3, C1, l1, k1, e1, hl1, s1⟩ := Okv.slice Try.underlying32 cellsRight (by omega) q0
      obtain ⟨m4, C2, l2, k2, e2, hl2, s2⟩ := Okv.slice Try.underlying29 cellsI (by omega) q1
      obtain ⟨A1, hA1, hR⟩ := rights_okv s1
      obtain ⟨A2, hA2, hI, h64⟩ := ints_okv s2
      have v0 : F[0]? = some (.slice C1 l1 k1) := by
        have g := congrArg (fun l : List Value => l[0]?) e1
        simpa [List.getElem?_take, List.getElem?_drop] using g
      have v1 : F[1]? = some (.slice C2 l2 k2) := by
        have g := congrArg (fun l : List Value => l[0]?) e2
        simpa [List.getElem?_take, List.getElem?_drop] using g
      refine ⟨⟨A1, A2⟩, fun _ => ⟨C1, k1, C2, k2, ?_, ?_, hR, hI, by rw [hA1]; exact hl1, by rw [hA2]; exact hl2, h64⟩⟩
      · have := f2 0 _ v0
        rw [Nat.add_zero] at this
        rw [this, hA1]
      · have := f2 1 _ v1
        rw [← Nat.add_assoc] at this
        rw [this, hA2]
    · exact ⟨⟨[], []⟩, fun h => absurd h hi⟩
  obtain ⟨G, hG⟩ := Classical.skolem.1 key
  have hA : ((List.range len).map G).length = len := by simp
  refine ⟨C, cap, (List.range len).map G, by rw [e, hA], by rw [hA]; exact hl, fun _ => ⟨b, off, eC, hb, fun k r hk => ?_⟩⟩
  have hkl : k < len := by have := (List.getElem?_eq_some_iff.1 hk).1; simpa using this
  have hr : G k = r := by simpa [hkl] using hk
  subst hr
  exact hG k hkl
end
section
variable {H : Type} {enc : TypeId × Value → H} {w : World} {base : Nat} {spare : Nat → Bool} {held : Bool} {r : Reach} {b0 : Nat}
theorem open_reps {v : Value} {d : DataW H} {p : List MemPlace} (hv : Value.okWide Try.prog w r b0 51 v) (h : DataW.Trod enc Try.prog w base spare held 51 v d p) :
    ∃ (C : Option Addr) (cc : Nat) (L : List Rep), v = .slice C L.length cc ∧ L.length ≤ 9223372036854775807 ∧ RepsAt w w.heap.size C L ∧ L.length ≤ cc ∧ cc ≤ 9223372036854775807 := by
  obtain ⟨a0, len, cap, rfl⟩ := okWide_slice Try.underlying51 hv
  obtain ⟨fuel, hf⟩ := h
  have hO := okv_of typesOk _ _ _ _ (of_decide_eq_true (by kernel_rfl)) hf
  obtain ⟨C, cap', L, e, hl, hL⟩ := reps_okv Try.underlying51 hO
  have e : [Value.slice a0 len cap] = [Value.slice C L.length cap'] := e
  injection e with e _
  injection e with e1 e2 e3
  have hc : len ≤ cap ∧ cap ≤ 9223372036854775807 := by
    rcases open_slice Try.underlying51 hf with ⟨hcs, _⟩ | ⟨a, len', cap'', m, k, D, Pl, hcs, hb, hl2, hm, hmm, _, hel⟩
    · simp [Value.cells] at hcs
      obtain ⟨rfl, rfl, rfl⟩ := hcs
      exact ⟨by omega, by omega⟩
    · simp [Value.cells] at hcs
      obtain ⟨rfl, rfl, rfl⟩ := hcs
      unfold maxLen at hm
      exact ⟨hl2, by omega⟩
  exact ⟨C, cap', L, by rw [e1, e2, e3], hl, hL, by omega, by omega⟩
end
end Go.Proofs.Ythoigjkelinjhaa

