/- Joined of: A5. -/
import Derived.Test.YtminphldifncaaaDoorA4
import Derived.Test.YtminphldifncaaaDoorA3
import Derived.Test.YtminphldifncaaaDoorRoundReg
import Derived.Test.YtminphldifncaaaDoorG04
/- The walk of Statement. (Printed by gen_a5.py.) -/
set_option linter.unusedSimpArgs false
set_option linter.unusedVariables false
namespace Go.Proofs.YtminphldifncaaaDoor
open Go.RowKit LG
attribute [local go_sem] alloc_drewN setCell_drewN shape_drewN

def wAcc : Bts := [97, 99, 99, 111, 117, 110, 116]
def wKno : Bts := [107, 110, 111, 119, 110]
def wOpe : Bts := [111, 112, 101, 110, 105, 110, 103]
def wClo : Bts := [99, 108, 111, 115, 105, 110, 103]
noncomputable def rowL (pl : List Bts) (e : Et) : Bts := lineL [dayL e.day, placeL pl e.place, sgnL e.litres, whyL e.why, sgnL e.ref]
noncomputable def headL (ow : List Bts) (owner fr un known : Int) : Bts := lineL [wAcc, ow.getD owner.toNat [], dayL fr, dayL un, wKno, textR known]
/-- The statement. -/
noncomputable def stmtL (ow pl : List Bts) (l : List Et) (owner fr un known : Int) : Bts :=
  if owner < 0 ∨ (ow.length : Int) ≤ owner ∨ known < 0 ∨ 16777216 < known ∨ fr < 0 ∨ un < fr ∨ 699050 < un then [] else
    headL ow owner fr un known ++ lineL [wOpe, sgnL (account l owner (-1) (fr - 1) known)] ++ (linesR l owner fr un known).flatMap (rowL pl) ++ lineL [wClo, sgnL (account l owner (-1) un known)]
def RefsIn (l : List Et) : Prop := ∀ e ∈ l, In64 e.ref
theorem account_in (l : List Et) (owner place day known : Int) : In64 (account l owner place day known) := by
  unfold account sumX
  split
  · rename_i h
    unfold inB at h
    simp only [Bool.and_eq_true, decide_eq_true_eq] at h
    exact h
  · exact ⟨by omega, by omega⟩
theorem join_len2 (xs : List Bts) : (Lib.join xs [32]).length ≤ (xs.map fun x => x.length + 1).sum := by
  cases xs with
  | nil => simp [Lib.join_nil]
  | cons x r =>
    rw [Lib.join_cons, List.length_append, List.map_cons, List.sum_cons]
    have : (Lib.joinTail [32] r).length = (r.map fun x => x.length + 1).sum := by
      unfold Lib.joinTail
      rw [List.length_flatten, List.map_map]
      have : (List.length ∘ fun y : Bts => [32] ++ y) = fun y : Bts => y.length + 1 := by funext y; simp [Nat.add_comm]
      rw [this]
    omega
theorem dayL_len (d : Int) : (dayL d).length ≤ 10 := by unfold dayL; rw [List.length_take]; omega
theorem textL_len (n : Int) : (textR n).length ≤ 14 := by rcases textR_len n with h | h <;> omega
theorem whyL_len (y : Int) : (whyL y).length ≤ 7 := by unfold whyL; (repeat' split) <;> decide
theorem sgnL_len (n : Int) (h : In64 n) : (sgnL n).length ≤ 22 := by
  have := Lib.itoa_length_le n h.1 h.2
  unfold sgnL; split <;> simp <;> omega
theorem placeL_len {pl : List Bts} (h : ∀ x ∈ pl, x.length ≤ 1100000) (i : Int) : (placeL pl i).length ≤ 1100000 := by
  unfold placeL
  split
  · simp
  · rw [List.getD_eq_getElem?_getD]
    cases hq : pl[i.toNat]? with
    | none => simp
    | some x => exact h x (List.mem_of_getElem? hq)
theorem stmt_no (X : Bas) (pl ow : List Bts) (l : List Et) (C : Option Addr) (cc : Nat) (owner fr un known : Int) (w : World) (hX : X.l1 = ow.length) (h : owner < 0 ∨ (ow.length : Int) ≤ owner ∨ known < 0 ∨ 16777216 < known ∨ fr < 0 ∨ un < fr ∨ 699050 < un) :
    Calls Tryd.prog 15 #[.agg #[.string X.nm, .slice X.a1 X.l1 X.c1, .int .i64 X.cl, .slice X.P pl.length X.cP, .slice X.a4 X.l4 X.c4, .slice X.a5 X.l5 X.c5, .slice X.a6 X.l6 X.c6, .slice X.a7 X.l7 X.c7, .slice X.a8 X.l8 X.c8, .slice X.a9 X.l9 X.c9, .int .i64 X.er], .slice C l.length cc, .int .i64 owner, .int .i64 fr, .int .i64 un, .int .i64 known] w fun e w' => e = .returned (.string (bs [])) ∧ Below w.heap.size w w' := by
  rw [hX]
  obtain ⟨no, hno⟩ : ∃ n, ow.length = n := ⟨_, rfl⟩
  rw [hno] at h ⊢
  by_cases g1 : owner < 0
  · go_enter Tryd.func15, Tryd.ntmps15
    go_wp2_with fail
    go_ret
    exact ⟨rfl, below_new _ _⟩
  by_cases g2 : (no : Int) ≤ owner
  · go_enter Tryd.func15, Tryd.ntmps15
    go_wp2_with fail
    go_ret
    exact ⟨rfl, below_new _ _⟩
  by_cases g3 : known < 0
  · go_enter Tryd.func15, Tryd.ntmps15
    go_wp2_with fail
    go_ret
    exact ⟨rfl, below_new _ _⟩
  by_cases g4 : 16777216 < known
  · go_enter Tryd.func15, Tryd.ntmps15
    go_wp2_with fail
    go_ret
    exact ⟨rfl, below_new _ _⟩
  by_cases g5 : fr < 0
  · go_enter Tryd.func15, Tryd.ntmps15
    go_wp2_with fail
    go_ret
    exact ⟨rfl, below_new _ _⟩
  by_cases g6 : un < fr
  · go_enter Tryd.func15, Tryd.ntmps15
    go_wp2_with fail
    go_ret
    exact ⟨rfl, below_new _ _⟩
  by_cases g7 : 699050 < un
  · go_enter Tryd.func15, Tryd.ntmps15
    go_wp2_with fail
    go_ret
    exact ⟨rfl, below_new _ _⟩
  omega
def basO (X : Bas) (A : Option Addr) (no np : Nat) : Obj := .cells #[.string X.nm, .slice A no X.c1, .int .i64 X.cl, .slice X.P np X.cP, .slice X.a4 X.l4 X.c4, .slice X.a5 X.l5 X.c5, .slice X.a6 X.l6 X.c6, .slice X.a7 X.l7 X.c7, .slice X.a8 X.l8 X.c8, .slice X.a9 X.l9 X.c9, .int .i64 X.er] 31 (0, 0)
theorem basO_cells {w : World} {N no np : Nat} {X : Bas} {A : Option Addr} (h : w.heap[N]? = some (basO X A no np)) : w.cell? ⟨N, 0, none⟩ = some (.string X.nm) ∧ w.cell? ⟨N, 1, none⟩ = some (.slice A no X.c1) ∧ w.cell? ⟨N, 2, none⟩ = some (.int .i64 X.cl) ∧ w.cell? ⟨N, 3, none⟩ = some (.slice X.P np X.cP) ∧ w.cell? ⟨N, 4, none⟩ = some (.slice X.a4 X.l4 X.c4) ∧ w.cell? ⟨N, 5, none⟩ = some (.slice X.a5 X.l5 X.c5) ∧ w.cell? ⟨N, 6, none⟩ = some (.slice X.a6 X.l6 X.c6) ∧ w.cell? ⟨N, 7, none⟩ = some (.slice X.a7 X.l7 X.c7) ∧ w.cell? ⟨N, 8, none⟩ = some (.slice X.a8 X.l8 X.c8) ∧ w.cell? ⟨N, 9, none⟩ = some (.slice X.a9 X.l9 X.c9) ∧ w.cell? ⟨N, 10, none⟩ = some (.int .i64 X.er) := by
  unfold basO at h
  refine ⟨?_, ?_, ?_, ?_, ?_, ?_, ?_, ?_, ?_, ?_, ?_⟩ <;> simp [World.cell?, h]
set_option maxRecDepth 100000 in
set_option maxHeartbeats 8000000 in
theorem lines2_any (l : List Et) (C : Option Addr) (cc : Nat) (owner fr un known : Int) (w : World) {B : Nat} (hC : EntsAt w B C l) (hB : B ≤ w.heap.size) (hl : l.length ≤ 1000000) :
    Calls Tryd.prog 26 #[.slice C l.length cc, .int .i64 owner, .int .i64 fr, .int .i64 un, .int .i64 known] w (fun x w' => ∃ C cc, x = .returned (.slice C (linesR l owner fr un known).length cc) ∧ (∀ a, C = some a → w.heap.size ≤ a.block) ∧ EntsAt w' w'.heap.size C (linesR l owner fr un known) ∧ Below w.heap.size w w') := by
  obtain ⟨i0, hi, hz0, hz1, hz2⟩ := info_parts Tryd.infoEntry
  have hL : Hid (linesR l owner fr un known = ST.insSort ltDay (filT (lineB owner fr un known) l l.length)) := by show _ = _; unfold linesR filT; rw [List.take_length]
  obtain ⟨acc, hacc⟩ : ∃ f : Nat → List Et, f = filT (lineB owner fr un known) l := ⟨_, rfl⟩
  have hstep : Hid (∀ k e, l[k]? = some e → acc (k + 1) = if lineB owner fr un known e then acc k ++ [e] else acc k) := fun k e h => by rw [hacc]; exact filT_succ _ l h
  have hlenA : Hid (∀ k, (acc k).length ≤ l.length) := fun k => by rw [hacc]; exact filT_len _ l k
  have h0A : Hid (acc 0 = []) := by show _ = _; rw [hacc]; rfl
  rw [← hacc] at hL
  have KW := fun n a b w => within_any n a b w
  clear hacc
  go_enter Tryd.func26, Tryd.ntmps26
  go_wp2_with fail
  go_loopw [11, 16] (fun out i wr => ∃ k : Nat, k ≤ l.length ∧ i = .int .i64 k ∧ wr.ownsRow w.heap.size 34 7 out (acc k).length (rowE (acc k)) ∧ Below w.heap.size w wr ∧ w.heap.size ≤ wr.heap.size) (fun _ i _ => l.length - (intOf i).toNat)
  case atStart => exact ⟨0, Nat.zero_le _, rfl, by rw [h0A.out]; exact World.ownsRow_nil _ _ _ _, Below.refl _ _, Nat.le_refl _⟩
  case round =>
    obtain ⟨k, hk, rfl, hrow, hBw, hz⟩ := hrel
    by_cases hlt : k < l.length
    · obtain ⟨e, hx⟩ : ∃ e, l[k]? = some e := ⟨_, List.getElem?_eq_getElem hlt⟩
      obtain ⟨b, off, rfl, hb, r0, r1, r2, r3, r4, r5, r6⟩ := (hC.below (hBw.mono hB)).at_ hx
      have hs := hstep.out k e hx
      have hlen := hlenA.out k
      have hbw : b < wr.heap.size := by omega
      clear hx
      obtain ⟨b1, g1⟩ : ∃ b, (e.owner == owner) = b := ⟨_, rfl⟩
      obtain ⟨b2, g2⟩ : ∃ b, wit e.day fr un = b := ⟨_, rfl⟩
      obtain ⟨b3, g3⟩ : ∃ b, decide (e.known ≤ known) = b := ⟨_, rfl⟩
      rw [lineB_of g1 g2 g3] at hs
      have HS := Lib.hid hs
      have KD : Hid (∀ w, Calls Tryd.prog 49 #[.int .i64 e.day, .int .i64 fr, .int .i64 un] w fun x w' => x = .returned (.bool b2) ∧ w = w') := fun w => by rw [← g2]; exact KW _ _ _ w
      clear hs g2
      go_wp2_with (first | (go_at_call 49; (with_reducible refine (KD.out _).mono ?_); rintro e1 w1 ⟨rfl, rfl⟩) | (at_builtin; refine wpList_append_own _ rfl _ _ 32 rfl w.heap.size 34 i0 _ 7 56 Tryd.underlying32 hi hz0 hz1 hz2 rfl (by decide) _ (acc k).length _ rfl ((hrow.alloc _).alloc _) ⟨wr.heap.size + 1, 0, none⟩ 1 1 e.cells rfl rfl (cells_at (by simp) _ _) (cells_one e) (by unfold maxLen; omega) (by omega) (by simp; omega) ?_; intro v' w2 hown' hgrow _; obtain ⟨g', cap', rfl, hgq1, hgq2⟩ := hown'.form (by omega); have hb2 := below_app (hrow.alloc _) (by simp; omega) hgrow) | fail)
      all_goals first
        | (go_roundw
           case rel =>
             have hs2 := HS.out
             rw [if_pos (by simp [*])] at hs2
             exact ⟨k + 1, by omega, by go_num, by rw [hs2, rowE_snoc, List.length_append]; exact hown', (hBw.alloc hz _).trans hb2, by have := hb2.size; simp at this; omega⟩
           case measure => simp [intOf]; omega)
        | (go_roundw
           case rel =>
             have hs2 := HS.out
             rw [if_neg (by simp [*])] at hs2
             exact ⟨k + 1, by omega, by go_num, by rw [hs2]; exact hrow.alloc _, hBw.alloc hz _, by simp; omega⟩
           case measure => simp [intOf]; omega)
        | fail
    · have hke : k = l.length := by omega
      subst hke
      have hlen := hlenA.out l.length
      have K := Lib.hid (sort_any (acc l.length) u11 wr hrow hz (by omega))
      have hfm := (ents_of_owns hrow)
      obtain ⟨D, cd, he, _, _⟩ := hfm
      have hcap := owns_cap hrow he
      subst he
      clear hrow
      go_wp2_with (first | (go_at_call 34; (with_reducible refine K.out.mono ?_); rintro x1 w1 ⟨rfl, C1, c1, he1, hE, hF, hb1⟩; have HE1 := Lib.hid he1; clear he1) | fail)
      have he1 := HE1.out
      injection he1 with q1 q2 q3
      subst q1
      subst q3
      go_ret
      rw [hL.out]
      exact ⟨D, cd, by rw [insSort_len]; rfl, hF, hE, hBw.trans hb1⟩
/-- The statement's world: the boxed basin (block N), the builder (block N + 1) with its buffer v and its text. -/
structure StW (w : World) (N : Nat) (X : Bas) (A : Option Addr) (no np : Nat) (v : Value) (txt : Bts) (wr : World) : Prop where
  below : Below N w wr
  box : wr.heap[N]? = some (basO X A no np)
  bld : Bld (N + 1) (N + 1) v txt wr
  tabs : Tabs wr
  size : N + 1 + 1 ≤ wr.heap.size
section
variable {w wr w1 : World} {N no np : Nat} {X : Bas} {A : Option Addr} {v : Value} {txt x : Bts}
theorem StW.go (h : StW w N X A no np v txt wr) (hb : Below wr.heap.size wr w1) : StW w N X A no np v txt w1 :=
  ⟨h.below.trans (hb.mono (by have := h.size; omega)), (hb.block N (by have := h.size; omega)).trans h.box, h.bld.below hb, h.tabs.below h.tabs.size hb hb.size, Nat.le_trans h.size hb.size⟩
/-- Behind a write. -/
theorem StW.put (h : StW w N X A no np v txt wr) (h3 : 3 ≤ N) (hw : ∃ v', Bld (N + 1) (N + 1) v' (txt ++ x) w1 ∧ (v'.ownBlock = v.ownBlock ∨ ∃ g, v'.ownBlock = some g ∧ wr.heap.size ≤ g) ∧ w1.os = wr.os ∧ w1.tape = wr.tape ∧ w1.output = wr.output ∧ wr.heap.size ≤ w1.heap.size ∧ ∀ k, k < wr.heap.size → k ≠ N + 1 → v.ownBlock ≠ some k → w1.heap[k]? = wr.heap[k]?) :
    ∃ v', StW w N X A no np v' (txt ++ x) w1 ∧ wr.heap.size ≤ w1.heap.size ∧ ∀ lo hi, Off v (N + 1) lo hi → hi ≤ wr.heap.size → Off v' (N + 1) lo hi ∧ ∀ k, lo ≤ k → k < hi → w1.heap[k]? = wr.heap[k]? := by
  obtain ⟨v', hd, ho, h1, h2, h4, hz, hk⟩ := hw
  have hs := h.size
  have hb : Below (N + 1) wr w1 := ⟨h1, h2, h4, hz, fun k hkk => hk k (by omega) (by omega) (fun q => by have := (h.bld.own.lt k q).1; omega)⟩
  refine ⟨v', ⟨h.below.trans (hb.mono (by omega)), (hb.block N (by omega)).trans h.box, hd, h.tabs.below (by omega) hb hb.size, Nat.le_trans h.size hb.size⟩, hz, fun lo hi hf hhi => ⟨⟨hf.1, fun g q => ?_⟩, fun k q1 q2 => hk k (by omega) (by have := hf.1; omega) (fun q => by have := hf.2 k q; omega)⟩⟩
  rcases ho with q1 | ⟨g', q1, q2⟩
  · exact hf.2 g (q1.symm.trans q)
  · rw [q1] at q; injection q with q; subst q; exact .inr (by omega)
end
theorem strs_row (w : World) (xs : List Bts) (t : Nat) : ∀ (j : Nat) x, xs[j]? = some x → (w.alloc (.cells (xs.map fun x => Value.string (bs x)).toArray t)).cell? ⟨w.heap.size, 0 + j, none⟩ = some (.string (bs x)) := fun j x hx => by
  have := cells_at (w := w) rfl t (xs.map fun x => Value.string (bs x)) j (.string (bs x)) (by rw [List.getElem?_map, hx]; rfl)
  rw [Addr.add_lit] at this
  exact this
/-- A line of parts that have just been laid into a row. -/
theorem line_row (w : World) (xs : List Bts) (n : Nat) (hn : xs.length = n) (hN : n ≤ 1000) (hp : 0 < n) (hlen : (Lib.join xs [32]).length ≤ 100000000) :
    Calls Tryd.prog 38 #[.slice (some ⟨w.heap.size, 0, none⟩) n n] (w.alloc (.cells (xs.map fun x => Value.string (bs x)).toArray 9)) fun e w' => e = .returned (.string (bs (lineL xs))) ∧ Below (w.alloc (.cells (xs.map fun x => Value.string (bs x)).toArray 9)).heap.size (w.alloc (.cells (xs.map fun x => Value.string (bs x)).toArray 9)) w' := by
  subst hn
  exact line_any w.heap.size 0 xs.length xs _ (strs_row w xs 9) (by simp) hN (Nat.le_refl _) hlen
theorem cells11 {wx : World} {N E no np : Nat} {X : Bas} {A : Option Addr} {e : Et} (h : wx.heap[N]? = some (basO X A no np) ∧ wx.heap[E]? = some (.cells e.cells.toArray 34 (0, 0))) :
    (wx.cell? ⟨N, 0, none⟩ = some (.string X.nm) ∧ wx.cell? ⟨N, 1, none⟩ = some (.slice A no X.c1) ∧ wx.cell? ⟨N, 2, none⟩ = some (.int .i64 X.cl) ∧ wx.cell? ⟨N, 3, none⟩ = some (.slice X.P np X.cP) ∧ wx.cell? ⟨N, 4, none⟩ = some (.slice X.a4 X.l4 X.c4) ∧ wx.cell? ⟨N, 5, none⟩ = some (.slice X.a5 X.l5 X.c5) ∧ wx.cell? ⟨N, 6, none⟩ = some (.slice X.a6 X.l6 X.c6) ∧ wx.cell? ⟨N, 7, none⟩ = some (.slice X.a7 X.l7 X.c7) ∧ wx.cell? ⟨N, 8, none⟩ = some (.slice X.a8 X.l8 X.c8) ∧ wx.cell? ⟨N, 9, none⟩ = some (.slice X.a9 X.l9 X.c9) ∧ wx.cell? ⟨N, 10, none⟩ = some (.int .i64 X.er)) ∧
      wx.cell? ⟨E, 0, none⟩ = some (.int .i64 e.day) ∧ wx.cell? ⟨E, 3, none⟩ = some (.int .i64 e.place) ∧ wx.cell? ⟨E, 4, none⟩ = some (.int .i64 e.litres) ∧ wx.cell? ⟨E, 5, none⟩ = some (.int .i64 e.why) ∧ wx.cell? ⟨E, 6, none⟩ = some (.int .i64 e.ref) := by
  refine ⟨basO_cells h.1, ?_, ?_, ?_, ?_, ?_⟩ <;> simp [World.cell?, h.2, Et.cells]
theorem lines_mem {l : List Et} {owner fr un known : Int} {e : Et} (h : e ∈ linesR l owner fr un known) : e ∈ l ∧ fr ≤ e.day ∧ e.day ≤ un := by
  have h1 := (ST.insSort_stab ltDay swoDay (l.filter (lineB owner fr un known))).perm.mem_iff (a := e)
  have h2 := List.mem_filter.1 (h1.1 h)
  have h3 := h2.2
  unfold lineB wit at h3
  simp only [Bool.and_eq_true, decide_eq_true_eq] at h3
  exact ⟨h2.1, h3.1.2.1, h3.1.2.2⟩
set_option maxRecDepth 100000 in
set_option maxHeartbeats 8000000 in
theorem stmt_yes (X : Bas) (pl ow : List Bts) (l : List Et) (C : Option Addr) (cc : Nat) (owner fr un known : Int) (w : World) (hT : Tabs w) (hX : X.l1 = ow.length) (hO : StrsAt w w.heap.size X.a1 ow) (hN : NamesAt w w.heap.size X.P pl) (hC : EntsAt w w.heap.size C l)
    (h : ¬ (owner < 0 ∨ (ow.length : Int) ≤ owner ∨ known < 0 ∨ 16777216 < known ∨ fr < 0 ∨ un < fr ∨ 699050 < un)) (hl : l.length ≤ 200000) (hI : LitsIn l) (hR : RefsIn l) (hpl : pl.length ≤ 9223372036854775807) (ho1 : Hid (∀ x ∈ ow, x.length ≤ 1100000)) (hp1 : Hid (∀ x ∈ pl, x.length ≤ 1100000)) :
    Calls Tryd.prog 15 #[.agg #[.string X.nm, .slice X.a1 X.l1 X.c1, .int .i64 X.cl, .slice X.P pl.length X.cP, .slice X.a4 X.l4 X.c4, .slice X.a5 X.l5 X.c5, .slice X.a6 X.l6 X.c6, .slice X.a7 X.l7 X.c7, .slice X.a8 X.l8 X.c8, .slice X.a9 X.l9 X.c9, .int .i64 X.er], .slice C l.length cc, .int .i64 owner, .int .i64 fr, .int .i64 un, .int .i64 known] w fun e w' => e = .returned (.string (bs (stmtL ow pl l owner fr un known))) ∧ Below w.heap.size w w' := by
  have hS : Hid (stmtL ow pl l owner fr un known = headL ow owner fr un known ++ lineL [wOpe, sgnL (account l owner (-1) (fr - 1) known)] ++ (linesR l owner fr un known).flatMap (rowL pl) ++ lineL [wClo, sgnL (account l owner (-1) un known)]) := by
    show _ = _; unfold stmtL; rw [if_neg h]
  rw [hX]
  obtain ⟨no, hno⟩ : ∃ n, ow.length = n := ⟨_, rfl⟩
  rw [hno] at h ⊢
  have g1 : ¬ owner < 0 := by omega
  have g2 : ¬ (no : Int) ≤ owner := by omega
  have g3 : ¬ known < 0 := by omega
  have g4 : ¬ 16777216 < known := by omega
  have g5 : ¬ fr < 0 := by omega
  have g6 : ¬ un < fr := by omega
  have g7 : ¬ 699050 < un := by omega
  obtain ⟨k, rfl⟩ : ∃ k : Nat, owner = k := ⟨owner.toNat, by omega⟩
  have hkn : k < no := by omega
  obtain ⟨nm, hnm⟩ : ∃ x, ow[k]? = some x := ⟨_, List.getElem?_eq_getElem (by omega)⟩
  obtain ⟨ob, oo, e1, hob, hoc⟩ := hO.at_ hnm
  have hnl := ho1.out nm (List.mem_of_getElem? hnm)
  have hHd : Hid (headL ow k fr un known = lineL [wAcc, nm, dayL fr, dayL un, wKno, textR known]) := by
    show _ = _; unfold headL; rw [Int.toNat_natCast, List.getD_eq_getElem?_getD, hnm]; rfl
  obtain ⟨N, hNN⟩ : ∃ N, w.heap.size = N := ⟨_, rfl⟩
  rw [e1]
  clear h hnm hno hX
  go_enter Tryd.func15, Tryd.ntmps15
  go_upto_region 6 with fail
  obtain ⟨W, hW0⟩ : ∃ W, W = (w.alloc (.cells #[.string X.nm, .slice (some ⟨ob, oo, none⟩) no X.c1, .int .i64 X.cl, .slice X.P pl.length X.cP, .slice X.a4 X.l4 X.c4, .slice X.a5 X.l5 X.c5, .slice X.a6 X.l6 X.c6, .slice X.a7 X.l7 X.c7, .slice X.a8 X.l8 X.c8, .slice X.a9 X.l9 X.c9, .int .i64 X.er] 31)).alloc (.cells #[.pointer none, .slice none 0 0] 72) := ⟨_, rfl⟩
  rw [← hW0]
  have hSt : StW w N X (some ⟨ob, oo, none⟩) no pl.length (.slice none 0 0) [] W := by
    have hbd := Bld.new (w.alloc (.cells #[.string X.nm, .slice (some ⟨ob, oo, none⟩) no X.c1, .int .i64 X.cl, .slice X.P pl.length X.cP, .slice X.a4 X.l4 X.c4, .slice X.a5 X.l5 X.c5, .slice X.a6 X.l6 X.c6, .slice X.a7 X.l7 X.c7, .slice X.a8 X.l8 X.c8, .slice X.a9 X.l9 X.c9, .int .i64 X.er] 31))
    rw [World.size_alloc, hNN] at hbd
    have hb := ((Below.refl w.heap.size w).alloc (Nat.le_refl _) (.cells #[.string X.nm, .slice (some ⟨ob, oo, none⟩) no X.c1, .int .i64 X.cl, .slice X.P pl.length X.cP, .slice X.a4 X.l4 X.c4, .slice X.a5 X.l5 X.c5, .slice X.a6 X.l6 X.c6, .slice X.a7 X.l7 X.c7, .slice X.a8 X.l8 X.c8, .slice X.a9 X.l9 X.c9, .int .i64 X.er] 31)).alloc (by simp) (.cells #[.pointer none, .slice none 0 0] 72)
    refine ⟨?_, ?_, by rw [hW0]; exact hbd, by rw [hW0]; exact hT.below hT.size hb hb.size, by rw [hW0]; simp; omega⟩
    · rw [hW0, ← hNN]; exact hb
    · rw [hW0, Below.heap_alloc _ _ _ (by simp; omega), ← hNN]; exact heap_alloc_new _ _
  clear hW0
  have hN3 : 3 ≤ N := by have := hT.size; omega
  have hCo := Lib.hid hC
  have hNo := Lib.hid hN
  obtain ⟨d0, d1, d2, d3, d4, d5, d6, d7, d8, d9, d10⟩ := basO_cells hSt.box
  have hoW : W.cell? ⟨ob, oo + k, none⟩ = some (.string (bs nm)) := (hSt.below.cell (p := ⟨ob, oo + k, none⟩) (by show ob < N; omega)).trans hoc
  have hzW : N + 1 + 1 ≤ W.heap.size := hSt.size
  have hobW : ob < W.heap.size := by omega
  have hobN : ob < N := by omega
  have hNW : N < W.heap.size := by omega
  have KD := fun (d : Int) (wx : World) (hx : Tabs wx) (a : 0 ≤ d) (b : d ≤ 699050) => day_any d wx hx a b
  have hSH := Lib.hid hSt
  have cf : ∀ wx v t, StW w N X (some ⟨ob, oo, none⟩) no pl.length v t wx → (wx.cell? ⟨N, 1, none⟩ = some (.slice (some ⟨ob, oo, none⟩) no X.c1) ∧ wx.cell? ⟨ob, oo + k, none⟩ = some (.string (bs nm))) := fun wx v t h => ⟨(basO_cells h.box).2.1, (h.below.cell (p := ⟨ob, oo + k, none⟩) (by show ob < N; omega)).trans hoc⟩
  replace cf := Lib.hid cf
  have KT := fun (wx : World) (hx : Tabs wx) => text_any known wx hx
  clear hC hN hO hoc hT
  refine Plan.wp_region_treeS (fun wx => wx.cell? ⟨N, 1, none⟩ = some (.slice (some ⟨ob, oo, none⟩) no X.c1) ∧ wx.cell? ⟨ob, oo + k, none⟩ = some (.string (bs nm))) (.rd 0 (.rd 1 (.rd 2 (.rd 3 (.rd 4 (.rd 5 (.rd 7 (.rd 9 (.wr 6 (.wr 8 (.wr 10 (.wr 11 (.wr 12 (.wr 13 .done)))))))))))))) (by kernel_rfl) (by kernel_rfl) ⟨d1, hoW⟩ ?_
  (repeat (refine Plan.tree_read (v := ?_) rfl rfl ?_ ?_; rotate_left; (focus ((intro wS hSw; (try dsimp only at hSw); go_simp); try with_reducible rfl)); simp only [Act.put, List.setIfInBounds_toArray, List.set_cons_zero, List.set_cons_succ]))
  (refine Plan.tree_write rfl (fun K hK => ?_); try go_simp)
  go_at_call 39
  refine (KD fr W.drew (hSH.out.tabs.drewN 1) (by omega) (by omega)).mono ?_
  rintro e1 w1 ⟨rfl, hb1⟩
  have s1 := hSH.out.go ((Below.refl _ _).drew.trans hb1)
  (refine hK.out _ _ (cf.out _ _ _ s1) ?_; clear hK K; try simp only [Act.put, List.setIfInBounds_toArray, List.set_cons_zero, List.set_cons_succ])
  (repeat (refine Plan.tree_read (v := ?_) rfl rfl ?_ ?_; rotate_left; (focus ((intro wS hSw; (try dsimp only at hSw); go_simp); try with_reducible rfl)); simp only [Act.put, List.setIfInBounds_toArray, List.set_cons_zero, List.set_cons_succ]))
  (refine Plan.tree_write rfl (fun K hK => ?_); try go_simp)
  go_at_call 39
  refine (KD un w1 s1.tabs (by omega) (by omega)).mono ?_
  rintro e1 w2 ⟨rfl, hb2⟩
  have s2 := s1.go hb2
  (refine hK.out _ _ (cf.out _ _ _ s2) ?_; clear hK K; try simp only [Act.put, List.setIfInBounds_toArray, List.set_cons_zero, List.set_cons_succ])
  (repeat (refine Plan.tree_read (v := ?_) rfl rfl ?_ ?_; rotate_left; (focus ((intro wS hSw; (try dsimp only at hSw); go_simp); try with_reducible rfl)); simp only [Act.put, List.setIfInBounds_toArray, List.set_cons_zero, List.set_cons_succ]))
  (refine Plan.tree_write rfl (fun K hK => ?_); try go_simp)
  go_at_call 27
  refine (KT w2 s2.tabs).mono ?_
  rintro e1 w3 ⟨rfl, hb3⟩
  have s3 := s2.go hb3
  (refine hK.out _ _ (cf.out _ _ _ s3) ?_; clear hK K; try simp only [Act.put, List.setIfInBounds_toArray, List.set_cons_zero, List.set_cons_succ])
  (repeat (refine Plan.tree_read (v := ?_) rfl rfl ?_ ?_; rotate_left; (focus ((intro wS hSw; (try dsimp only at hSw); go_simp); try with_reducible rfl)); simp only [Act.put, List.setIfInBounds_toArray, List.set_cons_zero, List.set_cons_succ]))
  (refine Plan.tree_write rfl (fun K hK => ?_); try go_simp)
  have s4 := s3.go (below_new w3 (.cells #[.string (bs wAcc), .string (bs nm), .string (bs (dayL fr)), .string (bs (dayL un)), .string (bs wKno), .string (bs (textR known))] 9))
  (refine hK.out _ _ (cf.out _ _ _ s4) ?_; clear hK K; try simp only [Act.put, List.setIfInBounds_toArray, List.set_cons_zero, List.set_cons_succ])
  (repeat (refine Plan.tree_read (v := ?_) rfl rfl ?_ ?_; rotate_left; (focus ((intro wS hSw; (try dsimp only at hSw); go_simp); try with_reducible rfl)); simp only [Act.put, List.setIfInBounds_toArray, List.set_cons_zero, List.set_cons_succ]))
  (refine Plan.tree_write rfl (fun K hK => ?_); try go_simp)
  go_at_call 38
  refine (line_row w3 [wAcc, nm, dayL fr, dayL un, wKno, textR known] 6 rfl (by omega) (by omega) ?_).mono ?_
  · have h1 := join_len2 [wAcc, nm, dayL fr, dayL un, wKno, textR known]
    have h2 := dayL_len fr
    have h3 := dayL_len un
    have h4 := textL_len known
    simp [wAcc, wKno] at h1
    simp only [wAcc, wKno]
    omega
  rintro e1 w5 ⟨rfl, hb5⟩
  have s5 := s4.go hb5
  (refine hK.out _ _ (cf.out _ _ _ s5) ?_; clear hK K; try simp only [Act.put, List.setIfInBounds_toArray, List.set_cons_zero, List.set_cons_succ])
  (repeat (refine Plan.tree_read (v := ?_) rfl rfl ?_ ?_; rotate_left; (focus ((intro wS hSw; (try dsimp only at hSw); go_simp); try with_reducible rfl)); simp only [Act.put, List.setIfInBounds_toArray, List.set_cons_zero, List.set_cons_succ]))
  (refine Plan.tree_write rfl (fun K hK => ?_); try go_simp)
  obtain ⟨t1, ht1⟩ : ∃ t, lineL [wAcc, nm, dayL fr, dayL un, wKno, textR known] = t := ⟨_, rfl⟩
  have htl1 : t1.length ≤ 1200000 := by
    have h1 := join_len2 [wAcc, nm, dayL fr, dayL un, wKno, textR known]
    have h2 := dayL_len fr
    have h3 := dayL_len un
    have h4 := textL_len known
    simp [wAcc, wKno] at h1
    rw [← ht1]; unfold lineL
    rw [List.length_append]
    simp [wAcc, wKno]
    omega
  rw [ht1] at hHd ⊢
  go_at_call 37
  refine (write2 (N + 1) (N + 1) _ [] t1 w5 s5.bld (by simp; omega) (by have := s5.size; omega)).mono ?_
  rintro e1 w6 ⟨rfl, hwr⟩
  obtain ⟨v6, s6, -, -⟩ := s5.put hN3 hwr
  rw [List.nil_append] at s6
  (refine hK.out _ _ (cf.out _ _ _ s6) ?_; clear hK K; try simp only [Act.put, List.setIfInBounds_toArray, List.set_cons_zero, List.set_cons_succ])
  (repeat (refine Plan.tree_read (v := ?_) rfl rfl ?_ ?_; rotate_left; (focus ((intro wS hSw; (try dsimp only at hSw); go_simp); try with_reducible rfl)); simp only [Act.put, List.setIfInBounds_toArray, List.set_cons_zero, List.set_cons_succ]))
  refine Plan.tree_done ?_
  clear cf KT d0 d1 d2 d3 d4 d5 d6 d7 d8 d9 d10 hoW s1 s2 s3 s4 s5 hSH hSt hb1 hb2 hb3 hb5 hzW hobW hNW hwr
  obtain ⟨a1, ha1⟩ : ∃ a, account l k (-1) (fr - 1) known = a := ⟨_, rfl⟩
  have hi1 : In64 a1 := by rw [← ha1]; exact account_in _ _ _ _ _
  obtain ⟨a2, ha2⟩ : ∃ a, account l k (-1) un known = a := ⟨_, rfl⟩
  have hi2 : In64 a2 := by rw [← ha2]; exact account_in _ _ _ _ _
  obtain ⟨o1, ho1x⟩ : ∃ x, lineL [wOpe, sgnL a1] = x := ⟨_, rfl⟩
  obtain ⟨c1, hc1x⟩ : ∃ x, lineL [wClo, sgnL a2] = x := ⟨_, rfl⟩
  have hol : o1.length ≤ 1000 ∧ (Lib.join [wOpe, sgnL a1] [32]).length ≤ 1000 := by
    have h1 := join_len2 [wOpe, sgnL a1]
    have h2 := sgnL_len a1 hi1
    simp [wOpe] at h1
    rw [← ho1x]; unfold lineL
    rw [List.length_append]
    simp [wOpe]; omega
  have hcl : c1.length ≤ 1000 ∧ (Lib.join [wClo, sgnL a2] [32]).length ≤ 1000 := by
    have h1 := join_len2 [wClo, sgnL a2]
    have h2 := sgnL_len a2 hi2
    simp [wClo] at h1
    rw [← hc1x]; unfold lineL
    rw [List.length_append]
    simp [wClo]; omega
  obtain ⟨L, hL⟩ : ∃ L, linesR l k fr un known = L := ⟨_, rfl⟩
  have ha2x : Hid (account l k (-1) un known = a2) := ha2
  have hc1y : Hid (lineL [wClo, sgnL a2] = c1) := hc1x
  rw [hHd.out, ha1, ha2, ho1x, hc1x, hL] at hS
  have hwf : IntKind.i64.wrap (fr - 1) = fr - 1 := by rw [IntKind.wrap_i64]; omega
  have KA := Lib.hid (fun (day : Int) (wx : World) (hz : N ≤ wx.heap.size) (hb : Below N w wx) => at_any l C cc k (-1) day known wx (EntsAt.below (by have := hCo.out; rw [hNN] at this; exact this) hb) hz (by omega) hI)
  have hz6 := s6.size
  go_upto_region 8 with (first | (go_at_call 16; refine (KA.out (fr - 1) w6 (by omega) s6.below).mono ?_; rw [ha1]; rintro e7 w7 ⟨rfl, hb7⟩; have s7 := s6.go hb7; have KG := Lib.hid (signed_any a1 w7 s7.tabs hi1.1 hi1.2)) | (go_at_call 40; refine KG.out.mono ?_; rintro e8 w8 ⟨rfl, hb8⟩; have s8 := s7.go hb8; have s9 := s8.go (below_new w8 (.cells #[.string (bs wOpe), .string (bs (sgnL a1))] 9)); have KL := Lib.hid (line_row w8 [wOpe, sgnL a1] 2 rfl (by omega) (by omega) (by omega)); rw [ho1x] at KL) | (go_at_call 38; refine KL.out.mono ?_; rintro e9 w9 ⟨rfl, hb9⟩; have s10 := s9.go hb9; have KW := Lib.hid (write2 (N + 1) (N + 1) _ t1 o1 w9 s10.bld (by omega) (by have := s10.size; omega))) | (go_at_call 37; refine KW.out.mono ?_; rintro e10 w10 ⟨rfl, hwr⟩; obtain ⟨v10, s11, -, -⟩ := s10.put hN3 hwr) | fail)

  have K2 := Lib.hid (lines2_any l C cc k fr un known w10 (EntsAt.below (by have := hCo.out; rw [hNN] at this; exact this) s11.below) (by have := s11.size; omega) (by omega))
  rw [hL] at K2
  have hLm : Hid (∀ e ∈ L, In64 e.litres ∧ In64 e.ref ∧ 0 ≤ e.day ∧ e.day ≤ 699050) := fun e he => by
    rw [← hL] at he
    obtain ⟨q1, q2, q3⟩ := lines_mem he
    exact ⟨hI e q1, hR e q1, by omega, by omega⟩
  have hLl : L.length ≤ 200000 := by
    rw [← hL]; unfold linesR; rw [insSort_len]
    exact Nat.le_trans (List.length_filter_le _ _) hl
  clear hL ha1 ha2 ho1x hc1x KG KL KW hb7 hb8 hb9 s7 s8 s9 s10 hwr hHd s6 hz6 hwf
  go_wp2_with fail
  go_at_call 26
  refine K2.out.mono ?_
  rintro e11 wl ⟨D, dc, rfl, hF, hE, hbl⟩
  have s12 := s11.go hbl
  have hof : Off v10 (N + 1) w10.heap.size wl.heap.size := ⟨by have := s11.size; omega, fun g q => .inl (s11.bld.own.lt g q).2⟩
  obtain ⟨lo, hlo⟩ : ∃ n, w10.heap.size = n := ⟨_, rfl⟩
  obtain ⟨hi, hhi⟩ : ∃ n, wl.heap.size = n := ⟨_, rfl⟩
  rw [hlo] at hF hof
  rw [hhi] at hE hof
  clear K2 s11 hbl hlo
  have hz12 := s12.size
  rw [hhi] at hz12
  have hloN : N + 1 < lo := hof.1
  obtain ⟨tx, htx⟩ : ∃ t, t1 ++ o1 = t := ⟨_, rfl⟩
  have htxl : tx.length ≤ 1201000 := by rw [← htx, List.length_append]; omega
  rw [htx] at s12 hS
  obtain ⟨Lf, hLf⟩ : ∃ f : Nat → Bts, f = fun j => (L.take j).flatMap (rowL pl) := ⟨_, rfl⟩
  have hL0 : Hid (Lf 0 = []) := by show _ = _; rw [hLf]; rfl
  have hLs : Hid (∀ j e, L[j]? = some e → Lf (j + 1) = Lf j ++ rowL pl e) := fun j e h => by
    rw [hLf]; simp only [List.take_add_one, h, List.flatMap_append]; simp
  have hLe : Hid ((L.flatMap (rowL pl)) = Lf L.length) := by show _ = _; rw [hLf]; simp
  rw [hLe.out] at hS
  clear hLf hLe htx
  replace s12 := Lib.hid s12
  replace hof := Lib.hid hof
  replace hE := Lib.hid hE
  replace hF := Lib.hid hF
  go_wp2_with fail
  go_loopw [75] (fun u75 wr => ∃ (j : Nat) (v : Value), j ≤ L.length ∧ u75 = .int .i64 j ∧ Hid (StW w N X (some ⟨ob, oo, none⟩) no pl.length v (tx ++ Lf j) wr) ∧ Hid (Off v (N + 1) lo hi) ∧ Hid (∀ q, lo ≤ q → q < hi → wr.heap[q]? = wl.heap[q]?) ∧ hi ≤ wr.heap.size ∧ (Lf j).length ≤ j * 1100100) (fun u75 _ => L.length - (intOf u75).toNat)
  case atStart => exact ⟨0, v10, Nat.zero_le _, rfl, by show StW _ _ _ _ _ _ _ _ _; rw [hL0.out, List.append_nil]; exact s12.out, hof, fun _ _ _ => rfl, by omega, by rw [hL0.out]; simp⟩
  case round =>
    obtain ⟨j, v, hj, rfl, hs, hofr, hkp, hzr, hlj⟩ := hrel
    have hsz := hs.out.size
    by_cases hlt : j < L.length
    · obtain ⟨e, hx⟩ : ∃ e, L[j]? = some e := ⟨_, List.getElem?_eq_getElem hlt⟩
      obtain ⟨b, off, hDb, hb, r0, r1, r2, r3, r4, r5, r6⟩ := hE.out.at_ hx
      have hbl := hF.out _ hDb
      have hbl : lo ≤ b := hbl
      subst hDb
      obtain ⟨i1, i2, i3, i4⟩ := hLm.out e (List.mem_of_getElem? hx)
      have hstep := Lib.hid (hLs.out j e hx)
      have hcb : ∀ o, wr.cell? ⟨b, o, none⟩ = wl.cell? ⟨b, o, none⟩ := fun o => World.cell?_of_block (a := ⟨b, o, none⟩) (hkp.out b hbl hb)
      replace r0 := (hcb _).trans r0
      replace r1 := (hcb _).trans r1
      replace r2 := (hcb _).trans r2
      replace r3 := (hcb _).trans r3
      replace r4 := (hcb _).trans r4
      replace r5 := (hcb _).trans r5
      replace r6 := (hcb _).trans r6
      have hbw : b < wr.heap.size := by omega
      clear hx hcb
      go_upto_region 11 with fail
      have KP := fun (q : Int) (wx : World) (hz : N ≤ wx.heap.size) (hb : Below N w wx) => place_any ⟨X.nm, some ⟨ob, oo, none⟩, no, X.c1, X.cl, X.P, X.cP, X.a4, X.l4, X.c4, X.a5, X.l5, X.c5, X.a6, X.l6, X.c6, X.a7, X.l7, X.c7, X.a8, X.l8, X.c8, X.a9, X.l9, X.c9, X.er⟩ pl q wx (NamesAt.below (by have := hNo.out; rw [hNN] at this; exact this) hb) hz hpl
      dsimp only at KP
      obtain ⟨Wr, hWr⟩ : ∃ W, W = wr.alloc (.cells #[.int .i64 e.day, .int .i64 e.known, .int .i64 e.owner, .int .i64 e.place, .int .i64 e.litres, .int .i64 e.why, .int .i64 e.ref] 34) := ⟨_, rfl⟩
      rw [← hWr]
      have hb20 : Below wr.heap.size wr Wr := by rw [hWr]; exact below_new _ _
      have s20 := hs.out.go hb20
      have h20 : Wr.heap[wr.heap.size]? = some (.cells e.cells.toArray 34 (0, 0)) := by rw [hWr]; exact heap_alloc_new _ _
      have z20 : wr.heap.size < Wr.heap.size := by rw [hWr]; simp
      have hbig : Hid ((rowL pl e).length ≤ 1100100 ∧ (Lib.join [dayL e.day, placeL pl e.place, sgnL e.litres, whyL e.why, sgnL e.ref] [32]).length ≤ 1100100) := by
        have h1 := join_len2 [dayL e.day, placeL pl e.place, sgnL e.litres, whyL e.why, sgnL e.ref]
        have h2 := dayL_len e.day
        have h3 := placeL_len hp1.out e.place
        have h4 := sgnL_len e.litres i1
        have h5 := whyL_len e.why
        have h6 := sgnL_len e.ref i2
        simp at h1
        unfold rowL lineL
        rw [List.length_append]
        exact ⟨by simp; omega, by omega⟩
      clear hWr r0 r1 r2 r3 r4 r5 r6
      refine Plan.wp_region_treeS (fun wx => wx.heap[N]? = some (basO X (some ⟨ob, oo, none⟩) no pl.length) ∧ wx.heap[wr.heap.size]? = some (.cells e.cells.toArray 34 (0, 0))) (.rd 0 (.rd 1 (.rd 3 (.rd 4 (.rd 5 (.rd 7 (.rd 8 (.rd 10 (.rd 11 (.rd 13 (.rd 14 (.wr 2 (.wr 6 (.wr 9 (.wr 12 (.wr 15 (.wr 16 (.wr 17 (.wr 18 .done))))))))))))))))))) (by kernel_rfl) (by kernel_rfl) ⟨s20.box, h20⟩ ?_
      (repeat (first | (refine Plan.tree_read (v := ?_) rfl rfl ?_ ?_; rotate_left; (focus ((intro wS hSw; have hSx := cells11 hSw; go_simp); try with_reducible rfl)); simp only [Act.put, List.setIfInBounds_toArray, List.set_cons_zero, List.set_cons_succ]) | (refine Plan.tree_skip rfl rfl ?_; simp only [Act.put, List.setIfInBounds_toArray, List.set_cons_zero, List.set_cons_succ])))
      (refine Plan.tree_write rfl (fun K hK => ?_); try go_simp)
      go_at_call 39
      refine (KD e.day Wr.drew (s20.tabs.drewN 1) i3 i4).mono ?_
      rintro e21 w21 ⟨rfl, hb21⟩
      replace hb21 := (Below.refl _ _).drew.trans hb21
      have s21 := s20.go hb21
      have h21 := (hb21.block wr.heap.size z20).trans h20
      have z21 := Nat.lt_of_lt_of_le z20 hb21.size
      (refine hK.out _ _ (⟨s21.box, h21⟩) ?_; clear hK K; try simp only [Act.put, List.setIfInBounds_toArray, List.set_cons_zero, List.set_cons_succ])
      (repeat (first | (refine Plan.tree_read (v := ?_) rfl rfl ?_ ?_; rotate_left; (focus ((intro wS hSw; have hSx := cells11 hSw; go_simp); try with_reducible rfl)); simp only [Act.put, List.setIfInBounds_toArray, List.set_cons_zero, List.set_cons_succ]) | (refine Plan.tree_skip rfl rfl ?_; simp only [Act.put, List.setIfInBounds_toArray, List.set_cons_zero, List.set_cons_succ])))
      (refine Plan.tree_write rfl (fun K hK => ?_); try go_simp)
      go_at_call 41
      refine (KP e.place w21 (by have := s21.size; omega) s21.below).mono ?_
      rintro e22 w22 ⟨rfl, hb22⟩
      have s22 := s21.go hb22
      have h22 := (hb22.block wr.heap.size z21).trans h21
      have z22 := Nat.lt_of_lt_of_le z21 hb22.size
      (refine hK.out _ _ (⟨s22.box, h22⟩) ?_; clear hK K; try simp only [Act.put, List.setIfInBounds_toArray, List.set_cons_zero, List.set_cons_succ])
      (repeat (first | (refine Plan.tree_read (v := ?_) rfl rfl ?_ ?_; rotate_left; (focus ((intro wS hSw; have hSx := cells11 hSw; go_simp); try with_reducible rfl)); simp only [Act.put, List.setIfInBounds_toArray, List.set_cons_zero, List.set_cons_succ]) | (refine Plan.tree_skip rfl rfl ?_; simp only [Act.put, List.setIfInBounds_toArray, List.set_cons_zero, List.set_cons_succ])))
      (refine Plan.tree_write rfl (fun K hK => ?_); try go_simp)
      go_at_call 40
      refine (signed_any e.litres w22 s22.tabs i1.1 i1.2).mono ?_
      rintro e23 w23 ⟨rfl, hb23⟩
      have s23 := s22.go hb23
      have h23 := (hb23.block wr.heap.size z22).trans h22
      have z23 := Nat.lt_of_lt_of_le z22 hb23.size
      (refine hK.out _ _ (⟨s23.box, h23⟩) ?_; clear hK K; try simp only [Act.put, List.setIfInBounds_toArray, List.set_cons_zero, List.set_cons_succ])
      (repeat (first | (refine Plan.tree_read (v := ?_) rfl rfl ?_ ?_; rotate_left; (focus ((intro wS hSw; have hSx := cells11 hSw; go_simp); try with_reducible rfl)); simp only [Act.put, List.setIfInBounds_toArray, List.set_cons_zero, List.set_cons_succ]) | (refine Plan.tree_skip rfl rfl ?_; simp only [Act.put, List.setIfInBounds_toArray, List.set_cons_zero, List.set_cons_succ])))
      (refine Plan.tree_write rfl (fun K hK => ?_); try go_simp)
      go_at_call 42
      refine (reason_any e.why w23).mono ?_
      rintro e24 _ ⟨rfl, rfl⟩
      (refine hK.out _ _ (⟨s23.box, h23⟩) ?_; clear hK K; try simp only [Act.put, List.setIfInBounds_toArray, List.set_cons_zero, List.set_cons_succ])
      (repeat (first | (refine Plan.tree_read (v := ?_) rfl rfl ?_ ?_; rotate_left; (focus ((intro wS hSw; have hSx := cells11 hSw; go_simp); try with_reducible rfl)); simp only [Act.put, List.setIfInBounds_toArray, List.set_cons_zero, List.set_cons_succ]) | (refine Plan.tree_skip rfl rfl ?_; simp only [Act.put, List.setIfInBounds_toArray, List.set_cons_zero, List.set_cons_succ])))
      (refine Plan.tree_write rfl (fun K hK => ?_); try go_simp)
      go_at_call 40
      refine (signed_any e.ref w23 s23.tabs i2.1 i2.2).mono ?_
      rintro e25 w25 ⟨rfl, hb25⟩
      have s25 := s23.go hb25
      have h25 := (hb25.block wr.heap.size z23).trans h23
      have z25 := Nat.lt_of_lt_of_le z23 hb25.size
      (refine hK.out _ _ (⟨s25.box, h25⟩) ?_; clear hK K; try simp only [Act.put, List.setIfInBounds_toArray, List.set_cons_zero, List.set_cons_succ])
      (repeat (first | (refine Plan.tree_read (v := ?_) rfl rfl ?_ ?_; rotate_left; (focus ((intro wS hSw; have hSx := cells11 hSw; go_simp); try with_reducible rfl)); simp only [Act.put, List.setIfInBounds_toArray, List.set_cons_zero, List.set_cons_succ]) | (refine Plan.tree_skip rfl rfl ?_; simp only [Act.put, List.setIfInBounds_toArray, List.set_cons_zero, List.set_cons_succ])))
      (refine Plan.tree_write rfl (fun K hK => ?_); try go_simp)
      have hb26 := below_new w25 (.cells #[.string (bs (dayL e.day)), .string (bs (placeL pl e.place)), .string (bs (sgnL e.litres)), .string (bs (whyL e.why)), .string (bs (sgnL e.ref))] 9)
      have s26 := s25.go hb26
      have h26 := (hb26.block wr.heap.size z25).trans h25
      have z26 := Nat.lt_of_lt_of_le z25 hb26.size
      (refine hK.out _ _ (⟨s26.box, h26⟩) ?_; clear hK K; try simp only [Act.put, List.setIfInBounds_toArray, List.set_cons_zero, List.set_cons_succ])
      (repeat (first | (refine Plan.tree_read (v := ?_) rfl rfl ?_ ?_; rotate_left; (focus ((intro wS hSw; have hSx := cells11 hSw; go_simp); try with_reducible rfl)); simp only [Act.put, List.setIfInBounds_toArray, List.set_cons_zero, List.set_cons_succ]) | (refine Plan.tree_skip rfl rfl ?_; simp only [Act.put, List.setIfInBounds_toArray, List.set_cons_zero, List.set_cons_succ])))
      (refine Plan.tree_write rfl (fun K hK => ?_); try go_simp)
      go_at_call 38
      refine (line_row w25 [dayL e.day, placeL pl e.place, sgnL e.litres, whyL e.why, sgnL e.ref] 5 rfl (by omega) (by omega) (by have := hbig.out.2; omega)).mono ?_
      rw [show lineL [dayL e.day, placeL pl e.place, sgnL e.litres, whyL e.why, sgnL e.ref] = rowL pl e from rfl]
      rintro e27 w27 ⟨rfl, hb27⟩
      have s27 := s26.go hb27
      have h27 := (hb27.block wr.heap.size z26).trans h26
      have z27 := Nat.lt_of_lt_of_le z26 hb27.size
      (refine hK.out _ _ (⟨s27.box, h27⟩) ?_; clear hK K; try simp only [Act.put, List.setIfInBounds_toArray, List.set_cons_zero, List.set_cons_succ])
      (repeat (first | (refine Plan.tree_read (v := ?_) rfl rfl ?_ ?_; rotate_left; (focus ((intro wS hSw; have hSx := cells11 hSw; go_simp); try with_reducible rfl)); simp only [Act.put, List.setIfInBounds_toArray, List.set_cons_zero, List.set_cons_succ]) | (refine Plan.tree_skip rfl rfl ?_; simp only [Act.put, List.setIfInBounds_toArray, List.set_cons_zero, List.set_cons_succ])))
      (refine Plan.tree_write rfl (fun K hK => ?_); try go_simp)
      go_at_call 37
      refine (write2 (N + 1) (N + 1) v (tx ++ Lf j) (rowL pl e) w27 s27.bld (by rw [List.length_append]; have := hbig.out.1; have : j * 1100100 ≤ 200000 * 1100100 := Nat.mul_le_mul_right _ (by omega); omega) (by have := s27.size; omega)).mono ?_
      rintro e28 w28 ⟨rfl, hwr⟩
      obtain ⟨v28, s28, hz28, hof28⟩ := s27.put hN3 hwr
      obtain ⟨hofn, hkn2⟩ := hof28 lo hi hofr.out (by have := hb27.size; have := hb26.size; omega)
      have h28 : w28.heap[wr.heap.size]? = some (.cells e.cells.toArray 34 (0, 0)) := by
        obtain ⟨v', hd, ho, q1, q2, q4, hz, hk⟩ := hwr
        rw [hk wr.heap.size (by omega) (by omega) (fun q => by
          have q5 := hs.out.bld.own.lt wr.heap.size q
          omega)]
        exact h27
      (refine hK.out _ _ (⟨s28.box, h28⟩) ?_; clear hK K; try simp only [Act.put, List.setIfInBounds_toArray, List.set_cons_zero, List.set_cons_succ])
      (repeat (first | (refine Plan.tree_read (v := ?_) rfl rfl ?_ ?_; rotate_left; (focus ((intro wS hSw; have hSx := cells11 hSw; go_simp); try with_reducible rfl)); simp only [Act.put, List.setIfInBounds_toArray, List.set_cons_zero, List.set_cons_succ]) | (refine Plan.tree_skip rfl rfl ?_; simp only [Act.put, List.setIfInBounds_toArray, List.set_cons_zero, List.set_cons_succ])))
      refine Plan.tree_done ?_
      go_wp2_with fail
      have hlo2 : (Lf (j + 1)).length ≤ (j + 1) * 1100100 := by
        rw [hstep.out, List.length_append, Nat.succ_mul]
        have := hbig.out.1
        omega
      go_roundw
      case rel => exact ⟨j + 1, v28, by omega, by go_num, (by show StW _ _ _ _ _ _ _ _ _; rw [hstep.out, ← List.append_assoc]; exact s28), hofn, fun q q1 q2 => (hkn2 q q1 q2).trans (by
        have e1 : wr.heap.size ≤ w27.heap.size := Nat.le_of_lt z27
        have k1 := hb20.block q (by omega)
        have k2 := hb21.block q (Nat.lt_of_lt_of_le (by omega) (Nat.le_of_lt z20))
        have k3 := hb22.block q (Nat.lt_of_lt_of_le (by omega) (Nat.le_of_lt z21))
        have k4 := hb23.block q (Nat.lt_of_lt_of_le (by omega) (Nat.le_of_lt z22))
        have k5 := hb25.block q (Nat.lt_of_lt_of_le (by omega) (Nat.le_of_lt z23))
        have k6 := hb26.block q (Nat.lt_of_lt_of_le (by omega) (Nat.le_of_lt z25))
        have k7 := hb27.block q (Nat.lt_of_lt_of_le (show q < wr.heap.size by omega) (Nat.le_of_lt z26))
        exact k7.trans (k6.trans (k5.trans (k4.trans (k3.trans (k2.trans (k1.trans (hkp.out q q1 q2)))))))), by omega, hlo2⟩
      case measure => simp [intOf]; omega
    · have hje : j = L.length := by omega
      subst hje
      have KA2 := KA.out un wr (by omega) hs.out.below
      rw [ha2x.out] at KA2
      replace KA2 := Lib.hid KA2
      have hlj2 : (Lf L.length).length ≤ 220020000000 := Nat.le_trans hlj (by have : L.length * 1100100 ≤ 200000 * 1100100 := Nat.mul_le_mul_right _ (by omega); omega)
      go_wp2_with (first | (go_at_call 16; refine KA2.out.mono ?_; rintro e31 w31 ⟨rfl, hb31⟩; have s31 := hs.out.go hb31; have KG := Lib.hid (signed_any a2 w31 s31.tabs hi2.1 hi2.2)) | (go_at_call 40; refine KG.out.mono ?_; rintro e32 w32 ⟨rfl, hb32⟩; have s32 := s31.go hb32; have s33 := s32.go (below_new w32 (.cells #[.string (bs wClo), .string (bs (sgnL a2))] 9)); have KL := Lib.hid (line_row w32 [wClo, sgnL a2] 2 rfl (by omega) (by omega) (by omega)); rw [hc1y.out] at KL) | (go_at_call 38; refine KL.out.mono ?_; rintro e34 w34 ⟨rfl, hb34⟩; have s34 := s33.go hb34; have KW := Lib.hid (write2 (N + 1) (N + 1) _ (tx ++ Lf L.length) c1 w34 s34.bld (by rw [List.length_append]; omega) (by have := s34.size; omega))) | (go_at_call 37; refine KW.out.mono ?_; rintro e35 w35 ⟨rfl, hwr⟩; obtain ⟨v35, s35, -, -⟩ := s34.put hN3 hwr; obtain ⟨pp, -, hbk⟩ := s35.bld.cell; have KS := Lib.hid (string_any (N + 1) (N + 1) _ pp v35 w35 hbk s35.bld.own)) | (go_at_call 43; refine KS.out.mono ?_; rintro e36 w36 ⟨rfl, hg36⟩) | fail)
      go_ret
      refine ⟨by rw [hS.out, List.append_assoc]; rfl, ?_⟩
      rw [hNN]
      exact s35.below.grown hg36 (by have := s35.size; omega) (fun g q => by have := (s35.bld.own.lt g q).1; omega)
/-- Statement. -/
theorem stmt_any (X : Bas) (pl ow : List Bts) (l : List Et) (C : Option Addr) (cc : Nat) (owner fr un known : Int) (w : World) (hT : Tabs w) (hX : X.l1 = ow.length) (hO : StrsAt w w.heap.size X.a1 ow) (hN : NamesAt w w.heap.size X.P pl) (hC : EntsAt w w.heap.size C l)
    (hl : l.length ≤ 200000) (hI : LitsIn l) (hR : RefsIn l) (hpl : pl.length ≤ 9223372036854775807) (ho1 : Hid (∀ x ∈ ow, x.length ≤ 1100000)) (hp1 : Hid (∀ x ∈ pl, x.length ≤ 1100000)) :
    Calls Tryd.prog 15 #[.agg #[.string X.nm, .slice X.a1 X.l1 X.c1, .int .i64 X.cl, .slice X.P pl.length X.cP, .slice X.a4 X.l4 X.c4, .slice X.a5 X.l5 X.c5, .slice X.a6 X.l6 X.c6, .slice X.a7 X.l7 X.c7, .slice X.a8 X.l8 X.c8, .slice X.a9 X.l9 X.c9, .int .i64 X.er], .slice C l.length cc, .int .i64 owner, .int .i64 fr, .int .i64 un, .int .i64 known] w fun e w' => e = .returned (.string (bs (stmtL ow pl l owner fr un known))) ∧ Below w.heap.size w w' := by
  by_cases h : owner < 0 ∨ (ow.length : Int) ≤ owner ∨ known < 0 ∨ 16777216 < known ∨ fr < 0 ∨ un < fr ∨ 699050 < un
  · have hs : stmtL ow pl l owner fr un known = [] := by unfold stmtL; rw [if_pos h]
    rw [hs]
    exact stmt_no X pl ow l C cc owner fr un known w hX h
  · exact stmt_yes X pl ow l C cc owner fr un known w hT hX hO hN hC h hl hI hR hpl ho1 hp1
end Go.Proofs.YtminphldifncaaaDoor

