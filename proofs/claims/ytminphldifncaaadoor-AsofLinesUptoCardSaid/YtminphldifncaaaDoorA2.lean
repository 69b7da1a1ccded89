/- The index: its memory; the walks of New, Add, Len. -/
import Derived.Test.YtminphldifncaaaDoorGE
import Derived.Test.YtminphldifncaaaDoorGI
import Derived.Test.YtminphldifncaaaDoorW10
import Derived.Maps.RangeRun
import Derived.Laws.StructEq
import Derived.Deep.Cut
import Derived.Test.YtminphldifncaaaDoorPlanB
set_option linter.unusedSimpArgs false
set_option linter.unusedVariables false
namespace Go.Proofs.YtminphldifncaaaDoor
open Go.RowKit LG
attribute [local go_sem] alloc_drewN setCell_drewN shape_drewN

def keyV (x : Int × Int) : Value := .agg #[.int .i64 x.1, .int .i64 x.2]
theorem Tryd.eqHold (x y : Int × Int) (w : World) : (Op.equal 84 (keyV x) (keyV y)).run Tryd.prog w = .ok (decide (x = y)) w := by
  have h : (Op.equalIn 10000 84 (keyV x) (keyV y)).run Tryd.prog w = .ok (decide (x = y)) w := by
    unfold keyV
    by_cases h1 : x.1 = y.1
    · by_cases h2 : x.2 = y.2
      · rw [decide_eq_true (Prod.ext h1 h2)]
        have g1 : (x.1 == y.1) = true := by simpa using h1
        have g2 : (x.2 == y.2) = true := by simpa using h2
        go_simp
      · rw [decide_eq_false (fun e => h2 (by rw [e]))]
        have g1 : (x.1 == y.1) = true := by simpa using h1
        have g2 : (x.2 == y.2) = false := by simpa using h2
        go_simp
    · rw [decide_eq_false (fun e => h1 (by rw [e]))]
      have g1 : (x.1 == y.1) = false := by simpa using h1
      go_simp
  exact h
theorem Tryd.keyHold : KeyX Tryd.prog 84 keyV := by
  refine struct_keyX Tryd.underlying84 (fun em x w => ?_) Tryd.eqHold (fun x => ?_)
  · have h : ∀ n, (Instr.checkKey em (n + 2) 84 (keyV x)).run Tryd.prog w = .ok () w := fun n => by
      unfold keyV
      rw [Instr.checkKey]
      simp [go_sem, run_underlying Tryd.underlying84, Instr.checkKey, Result.andThen]
    exact h 9998
  · simp [keyV, Instr.sameBits]
theorem Tryd.zeroEnts (w : World) : (zeroValue 32).run Tryd.prog w = .ok (.slice none 0 0) w := by kernel_rfl
def ixObj (mb n : Nat) : Obj := .cells #[.map (some mb), .int .i64 n] 82 (0, 0)
abbrev Grp (w : World) (base mb : Nat) (es : Array MapEntry) (clock : Nat) (m : List ((Int × Int) × List Et)) : Prop := GrpE w base mb keyV Et.cells 7 34 es clock m
/-- An index in memory: its struct is block xb, its map block mb, its rows lie from base on. -/
structure IxAt (w : World) (base xb mb : Nat) (L : List Et) : Prop where
  box : w.heap[xb]? = some (ixObj mb L.length)
  grp : ∃ es clock m, Grp w base mb es clock m ∧ GI.Good m L
  ord : mb < xb
  lt : xb < base
  size : base ≤ w.heap.size
theorem ix_cells {w : World} {xb mb n : Nat} (h : w.heap[xb]? = some (ixObj mb n)) : w.cell? ⟨xb, 0, none⟩ = some (.map (some mb)) ∧ w.cell? ⟨xb, 1, none⟩ = some (.int .i64 n) ∧ w.frozen? ⟨xb, 1, none⟩ = false := by
  unfold ixObj at h
  refine ⟨?_, ?_, ?_⟩ <;> simp [World.cell?, World.frozen?, h]
theorem IxAt.below {w w' : World} {base xb mb : Nat} {L : List Et} (h : IxAt w base xb mb L) (hb : Below w.heap.size w w') : IxAt w' base xb mb L := by
  obtain ⟨es, clock, m, h1, h2⟩ := h.grp
  exact ⟨(hb.block xb (by have := h.lt; have := h.size; omega)).trans h.box, ⟨es, clock, m, h1.below hb, h2⟩, h.ord, h.lt, Nat.le_trans h.size hb.size⟩
/-- What a call on an index changes. -/
structure OnlyX (base xb mb : Nat) (w w' : World) : Prop where
  os : w'.os = w.os
  tape : w'.tape = w.tape
  output : w'.output = w.output
  size : w.heap.size ≤ w'.heap.size
  block : ∀ k, k < base → k ≠ xb → k ≠ mb → w'.heap[k]? = w.heap[k]?
theorem OnlyX.below {base xb mb B : Nat} {w w' : World} (h : OnlyX base xb mb w w') (hB : B ≤ mb) (ho : mb < xb) (hl : xb < base) : Below B w w' := ⟨h.os, h.tape, h.output, h.size, fun k hk => h.block k (by omega) (by omega) (by omega)⟩
theorem OnlyX.below1 {base mb B : Nat} {w w' : World} (h : OnlyX base mb mb w w') (hB : B ≤ mb) (hl : mb < base) : Below B w w' := ⟨h.os, h.tape, h.output, h.size, fun k hk => h.block k (by omega) (by omega) (by omega)⟩
theorem row_at {w w' : World} {base e size n : Nat} {v : Value} {xs : List Value} (h : w.ownsRow base e size v n xs) (hk : ∀ g, base ≤ g → g < w.heap.size → w'.heap[g]? = w.heap[g]?) : w'.ownsRow base e size v n xs := by
  obtain ⟨h1, h2 | ⟨g, cap, cur, q, h2, h3, h4⟩⟩ := h
  · exact ⟨h1, .inl h2⟩
  · exact ⟨h1, .inr ⟨g, cap, cur, q, h2, (hk g h2 (Array.getElem?_eq_some_iff.1 h3).1).trans h3, h4⟩⟩
/-- An index beside another one's call. -/
theorem IxAt.aside {w w' : World} {base xb mb base' xb' mb' : Nat} {L : List Et} (h : IxAt w base xb mb L) (ho : OnlyX base' xb' mb' w w') (h1 : w.heap.size ≤ base') (h2 : xb ≠ xb' ∧ xb ≠ mb' ∧ mb ≠ xb' ∧ mb ≠ mb') (h3 : xb' < base ∧ mb' < base) : IxAt w' base xb mb L := by
  obtain ⟨es, clock, m, hg, hm⟩ := h.grp
  have hl := h.lt
  have ho1 := h.ord
  have hz := h.size
  exact ⟨(ho.block xb (by omega) h2.1 h2.2.1).trans h.box, ⟨es, clock, m, ⟨(ho.block mb (by omega) h2.2.2.1 h2.2.2.2).trans hg.hb, hg.hbb, hg.len, hg.key, fun i e p he hp => row_at (hg.row i e p he hp) fun g q1 q2 => ho.block g (by omega) (by omega) (by omega), hg.old, hg.nd, hg.apart⟩, hm⟩, h.ord, h.lt, Nat.le_trans h.size ho.size⟩
/-- A new index. -/
theorem IxAt.fresh {w : World} {base xb mb : Nat} (h1 : w.heap[mb]? = some (.map #[] 0)) (h2 : w.heap[xb]? = some (ixObj mb 0)) (h3 : mb < xb) (h4 : xb < base) (h5 : base ≤ w.heap.size) : IxAt w base xb mb [] :=
  ⟨h2, ⟨#[], 0, [], ⟨h1, by omega, rfl, rfl, fun i e p h => by simp at h, fun e h => by simp at h, List.nodup_nil, fun i j ei ej g h => by simp at h⟩, GI.Good.nil⟩, h3, h4, h5⟩
set_option maxHeartbeats 1000000 in
theorem new_any (w : World) : Calls Tryd.prog 17 #[] w fun e w' => e = .returned (.pointer (some ⟨w.heap.size + 1, 0, none⟩)) ∧ w'.heap.size = w.heap.size + 2 ∧ w'.heap[w.heap.size]? = some (.map #[] 0) ∧ w'.heap[w.heap.size + 1]? = some (ixObj w.heap.size 0) ∧ Below w.heap.size w w' := by
  have hmm := @run_makeMap Tryd.prog
  go_enter Tryd.func17, Tryd.ntmps17
  go_wp2_with fail
  go_ret
  refine ⟨rfl, by simp, ?_, ?_, ((Below.refl _ _).alloc (Nat.le_refl _) _).alloc (by simp) _⟩
  · rw [Below.heap_alloc _ _ _ (by simp), heap_alloc_new]
  · have := heap_alloc_new (w.alloc (.map #[] 0)) (.cells #[.map (some w.heap.size), .int .i64 0] 82)
    rw [World.size_alloc] at this
    exact this
theorem len_any (base xb mb : Nat) (L : List Et) (w : World) (h : IxAt w base xb mb L) : Calls Tryd.prog 25 #[.pointer (some ⟨xb, 0, none⟩)] w fun e w' => e = .returned (.int .i64 L.length) ∧ w = w' := by
  obtain ⟨c0, c1, -⟩ := ix_cells h.box
  clear h
  go_enter Tryd.func25, Tryd.ntmps25
  go_wp2_with fail
  go_ret
  exact ⟨rfl, rfl⟩
theorem GrpE.set_ {w : World} {base mb xb : Nat} {es : Array MapEntry} {clock : Nat} {m : List ((Int × Int) × List Et)} (h : Grp w base mb es clock m) (j : Nat) (v : Value) (hx : xb < base) (hne : mb ≠ xb) : Grp (w.setCell ⟨xb, j, none⟩ v) base mb es clock m :=
  ⟨(Below.heap_setCell _ _ _ _ hne).trans h.hb, h.hbb, h.len, h.key, fun i e p he hp => row_at (h.row i e p he hp) fun g q1 q2 => Below.heap_setCell _ _ _ _ (show g ≠ xb by omega), h.old, h.nd, h.apart⟩
theorem ixset {w : World} {xb mb n : Nat} (h : w.heap[xb]? = some (ixObj mb n)) (n' : Nat) : (w.setCell ⟨xb, 1, none⟩ (.int .i64 n')).heap[xb]? = some (ixObj mb n') := by
  unfold ixObj at h ⊢
  simp [World.setCell, Array.getElem?_modify, h]
/-- What the store into the map reads. -/
def S6 (xb N mb : Nat) (e : Et) (w : World) : Prop := w.cell? ⟨xb, 0, none⟩ = some (.map (some mb)) ∧ (∀ j u, e.cells[j]? = some u → w.cell? ⟨N, j, none⟩ = some u) ∧ w.cell? ⟨N + 1, 0, none⟩ = some (.int .i64 e.owner) ∧ w.cell? ⟨N + 1, 1, none⟩ = some (.int .i64 e.place)
theorem S6.cells {xb N mb : Nat} {e : Et} {w : World} (h : S6 xb N mb e w) : w.cell? ⟨xb, 0, none⟩ = some (.map (some mb)) ∧ w.cell? ⟨N, 0, none⟩ = some (.int .i64 e.day) ∧ w.cell? ⟨N, 1, none⟩ = some (.int .i64 e.known) ∧ w.cell? ⟨N, 2, none⟩ = some (.int .i64 e.owner) ∧ w.cell? ⟨N, 3, none⟩ = some (.int .i64 e.place) ∧ w.cell? ⟨N, 4, none⟩ = some (.int .i64 e.litres) ∧ w.cell? ⟨N, 5, none⟩ = some (.int .i64 e.why) ∧ w.cell? ⟨N, 6, none⟩ = some (.int .i64 e.ref) ∧ w.cell? ⟨N + 1, 0, none⟩ = some (.int .i64 e.owner) ∧ w.cell? ⟨N + 1, 1, none⟩ = some (.int .i64 e.place) :=
  ⟨h.1, h.2.1 0 _ rfl, h.2.1 1 _ rfl, h.2.1 2 _ rfl, h.2.1 3 _ rfl, h.2.1 4 _ rfl, h.2.1 5 _ rfl, h.2.1 6 _ rfl, h.2.2⟩
theorem S6.keep {xb N mb : Nat} {e : Et} {w w' : World} (h : S6 xb N mb e w) (hk : ∀ k, k = xb ∨ k = N ∨ k = N + 1 → w'.heap[k]? = w.heap[k]?) : S6 xb N mb e w' := by
  have hc : ∀ k o, k = xb ∨ k = N ∨ k = N + 1 → w'.cell? ⟨k, o, none⟩ = w.cell? ⟨k, o, none⟩ := fun k o q => World.cell?_of_block (a := ⟨k, o, none⟩) (hk k q)
  exact ⟨(hc _ _ (.inl rfl)).trans h.1, fun j u hj => (hc _ _ (.inr (.inl rfl))).trans (h.2.1 j u hj), (hc _ _ (.inr (.inr rfl))).trans h.2.2.1, (hc _ _ (.inr (.inr rfl))).trans h.2.2.2⟩
set_option maxRecDepth 100000 in
set_option maxHeartbeats 8000000 in
theorem add_any (base xb mb : Nat) (L l : List Et) (C : Option Addr) (cc : Nat) (w : World) {B : Nat} (h : IxAt w base xb mb L) (hC : EntsAt w B C l) (hB : B ≤ mb) (hl : l.length ≤ 1000) (hL : L.length ≤ 1000) :
    Calls Tryd.prog 18 #[.pointer (some ⟨xb, 0, none⟩), .slice C l.length cc] w fun e w' => e = .returned (.tuple #[]) ∧ IxAt w' base xb mb (L ++ l) ∧ OnlyX base xb mb w w' := by
  obtain ⟨i0, hi, hz0, hz1, hz2⟩ := info_parts Tryd.infoEntry
  obtain ⟨c0, c1, c2⟩ := ix_cells h.box
  have ho := h.ord
  have hlt := h.lt
  have hsz := h.size
  obtain ⟨es0, clock0, m0, hG0, hM0⟩ := h.grp
  have hbox := Lib.hid h.box
  have hG0 := Lib.hid hG0
  have hM0 := Lib.hid hM0
  clear h
  have hq : ∀ w, (binOp .eql 80 (.map (some mb)) (.map none)).run Tryd.prog w = .ok (.bool false) w := fun w => run_eql_map_nil w _ _ _ (some mb) Tryd.underlying80
  go_enter Tryd.func18, Tryd.ntmps18
  go_wp2_with fail
  go_loopw [18] (fun i wr => ∃ (k : Nat) (es : Array MapEntry) (clock : Nat) (m : List ((Int × Int) × List Et)), k ≤ l.length ∧ i = .int .i64 k ∧ Hid (Grp wr base mb es clock m) ∧ Hid (GI.Good m (L ++ l.take k)) ∧ Hid (OnlyX base mb mb w wr)) (fun i _ => l.length - (intOf i).toNat)
  case atStart => exact ⟨0, es0, clock0, m0, Nat.zero_le _, rfl, hG0, by show GI.Good _ _; rw [List.take_zero, List.append_nil]; exact hM0.out, ⟨rfl, rfl, rfl, Nat.le_refl _, fun _ _ _ _ => rfl⟩⟩
  case round =>
    obtain ⟨k, es, clock, m, hk, rfl, hG, hM, hO⟩ := hrel
    have hzr : base ≤ wr.heap.size := Nat.le_trans hsz hO.out.size
    have hboxr := ix_cells ((hO.out.block xb hlt (by omega) (by omega)).trans hbox.out)
    obtain ⟨d0, d1, d2⟩ := hboxr
    by_cases hlt2 : k < l.length
    · obtain ⟨e, hx⟩ : ∃ e, l[k]? = some e := ⟨_, List.getElem?_eq_getElem hlt2⟩
      obtain ⟨b, off, rfl, hb, r0, r1, r2, r3, r4, r5, r6⟩ := (hC.below (hO.out.below1 (B := B) hB (by omega))).at_ hx
      have hbw : b < wr.heap.size := by omega
      have hxw : xb < wr.heap.size := by omega
      have hT : Hid (L ++ l.take (k + 1) = (L ++ l.take k) ++ [e]) := by show _ = _; rw [List.take_add_one, hx, List.append_assoc]; rfl
      have HLk : Hid ((L ++ l.take k).length ≤ 2000) := by show _ ≤ _; rw [List.length_append, List.length_take]; omega
      clear hx
      obtain ⟨W3, hW3⟩ : ∃ W3, W3 = (((wr.alloc (.cells #[.int .i64 e.day, .int .i64 e.known, .int .i64 e.owner, .int .i64 e.place, .int .i64 e.litres, .int .i64 e.why, .int .i64 e.ref] 34)).alloc (.cells #[.int .i64 e.owner, .int .i64 e.place] 84)).alloc (.cells #[.int .i64 e.day, .int .i64 e.known, .int .i64 e.owner, .int .i64 e.place, .int .i64 e.litres, .int .i64 e.why, .int .i64 e.ref] 34)).drew := ⟨_, rfl⟩
      have hb3 : Below wr.heap.size wr W3 := by rw [hW3]; exact ((((Below.refl _ _).alloc (Nat.le_refl _) _).alloc (by simp) _).alloc (by simp; omega) _).drew
      have hz3 : W3.heap.size = wr.heap.size + 1 + 1 + 1 := by rw [hW3]; simp
      have hc3 : ∀ j u, e.cells[j]? = some u → W3.cell? ⟨wr.heap.size + 1 + 1, j, none⟩ = some u := fun j u hj => by
        have := cells_at (w := (wr.alloc (.cells #[.int .i64 e.day, .int .i64 e.known, .int .i64 e.owner, .int .i64 e.place, .int .i64 e.litres, .int .i64 e.why, .int .i64 e.ref] 34)).alloc (.cells #[.int .i64 e.owner, .int .i64 e.place] 84)) (b := wr.heap.size + 1 + 1) (by simp) 34 e.cells j u hj
        rw [Addr.add_lit, Nat.zero_add] at this
        rw [hW3]; exact this
      obtain ⟨es1, clock1, i1, e1, L1, m1, hrun, hG1, he1, hp1, hm1, hv1⟩ := (hG.out.below hb3).entry (P := Tryd.prog) (t := 80) Tryd.keyHold Tryd.underlying80 Tryd.zeroEnts (e.owner, e.place)
      have hgo : ∀ g, e1.val.ownBlock = some g → base ≤ g ∧ g < wr.heap.size := fun g q => by
        rcases hv1 with q1 | q1
        · exact hG.out.val_lt q1 q
        · rw [q1] at q; cases q
      have hS2 : S6 xb wr.heap.size mb e ((wr.alloc (.cells #[.int .i64 e.day, .int .i64 e.known, .int .i64 e.owner, .int .i64 e.place, .int .i64 e.litres, .int .i64 e.why, .int .i64 e.ref] 34)).alloc (.cells #[.int .i64 e.owner, .int .i64 e.place] 84)) := by
        have hb2 : Below wr.heap.size wr ((wr.alloc (.cells #[.int .i64 e.day, .int .i64 e.known, .int .i64 e.owner, .int .i64 e.place, .int .i64 e.litres, .int .i64 e.why, .int .i64 e.ref] 34)).alloc (.cells #[.int .i64 e.owner, .int .i64 e.place] 84)) := ((Below.refl _ _).alloc (Nat.le_refl _) _).alloc (by simp) _
        refine ⟨(hb2.cell (p := ⟨xb, 0, none⟩) hxw).trans d0, fun j u hj => ?_, by go_simp, by go_simp⟩
        have := cells_at (w := wr) rfl 34 e.cells j u hj
        rw [Addr.add_lit, Nat.zero_add] at this
        exact ((below_new (wr.alloc (.cells e.cells.toArray 34)) (.cells #[.int .i64 e.owner, .int .i64 e.place] 84)).cell (p := ⟨wr.heap.size, j, none⟩) (by simp)).trans this
      have hS3 : S6 xb wr.heap.size mb e W3 := hS2.keep fun k hk => by rw [hW3]; exact (below_new _ _).block k (by simp; omega)
      have hg1 : W3.grownBy (Go.ChangeMaps.setBlock W3 mb (.map es1 clock1)) (some mb) := ⟨rfl, rfl, rfl, by simp [Go.ChangeMaps.setBlock], fun i _ hi => Go.ChangeMaps.heap_setBlock_other (hG.out.below hb3).hb _ (fun e => hi (by rw [e]))⟩
      have hz1' : (Go.ChangeMaps.setBlock W3 mb (.map es1 clock1)).heap.size = W3.heap.size := by simp [Go.ChangeMaps.setBlock]
      generalize Go.ChangeMaps.setBlock W3 mb (.map es1 clock1) = w1 at hrun hG1 hg1 hz1'
      have hc1 : ∀ j u, e.cells[j]? = some u → w1.cell? ((⟨wr.heap.size + 1 + 1, 0, none⟩ : Addr).add j) = some u := fun j u hj => by
        rw [Addr.add_lit, Nat.zero_add]
        exact (Plan.grown_cells hg1 _ _ (by omega) (by simp; omega)).trans (hc3 j u hj)
      have hS4 : S6 xb wr.heap.size mb e w1 := hS3.keep fun k hk => hg1.block k (by omega) (by simp; omega)
      have hrow1 := Lib.hid (hG1.row i1 e1 _ he1 hp1)
      have hO1 : Hid (OnlyX base mb mb w w1) := ⟨hg1.os.trans (hb3.os.trans hO.out.os), hg1.tape.trans (hb3.tape.trans hO.out.tape), hg1.output.trans (hb3.output.trans hO.out.output), Nat.le_trans hO.out.size (Nat.le_trans hb3.size (by omega)), fun j h1 h2 h3 => (hg1.block j (by omega) (by simp; omega)).trans ((hb3.block j (by omega)).trans (hO.out.block j h1 h2 h3))⟩
      have hGd := Lib.hid (hM.out.step (e := e) hm1 hp1)
      have HL : Hid (L1.length ≤ 2000) := by
        show _ ≤ _
        have h1 := (hM.out.step (e := e) hm1 hp1).val _ (List.mem_of_getElem? (show (m1.set i1 (GI.keyE e, L1 ++ [e]))[i1]? = some (GI.keyE e, L1 ++ [e]) by rw [List.getElem?_set]; simp [(List.getElem?_eq_some_iff.1 hp1).1]))
        have h2 := congrArg List.length h1
        have h3 : (((L ++ l.take k) ++ [e]).filter (fun x => decide (GI.keyE x = GI.keyE e))).length ≤ ((L ++ l.take k) ++ [e]).length := List.length_filter_le _ _
        have h4 := HLk.out
        simp only [List.length_append, List.length_cons, List.length_nil] at h2 h3 h4
        have h5 : (((L ++ l.take k) ++ [e]).filter (fun x => decide (GI.keyE x = GI.keyE e))).length = L1.length + 1 := h2.symm
        omega
      simp only [keyV, goInt] at hrun
      have HG1 := Lib.hid hG1
      have hS2 := Lib.hid hS2
      have hS3 := Lib.hid hS3
      have hS4 := Lib.hid hS4
      have hgo := Lib.hid hgo
      clear hM hm1 hb3 hc3 hG1 HLk hv1
      have hll : L1.length ≤ 2000 := HL.out
      rw [hW3] at hrun
      go_upto_region 6 with fail
      refine Plan.wp_region_plan (S6 xb wr.heap.size mb e) 11 [(0, true), (1, true), (2, true), (3, true), (4, true), (5, true), (6, false), (7, false), (8, true), (10, true), (9, false), (11, false)] (by kernel_rfl) (by kernel_rfl) ?_ ?_
      · exact hS2.out
      (repeat (refine Plan.plan_read (v := ?_) rfl rfl ?_ ?_; rotate_left; (focus ((intro wS hSw; have hSw := S6.cells hSw; go_simp); try with_reducible rfl)); simp only [Act.put, List.setIfInBounds_toArray, List.set_cons_zero, List.set_cons_succ]))
      refine Plan.plan_write rfl (fun K hK => ?_)
      go_simp
      refine hK.out _ _ (by rw [hW3] at hS3; exact hS3.out) ?_
      clear hK K
      try simp only [Act.put, List.setIfInBounds_toArray, List.set_cons_zero, List.set_cons_succ]
      refine Plan.plan_write rfl (fun K hK => ?_)
      go_simp
      refine hK.out _ _ hS4.out ?_
      clear hK K hrun hS2 hS3
      try simp only [Act.put, List.setIfInBounds_toArray, List.set_cons_zero, List.set_cons_succ]
      (repeat (refine Plan.plan_read (v := ?_) rfl rfl ?_ ?_; rotate_left; (focus ((intro wS hSw; have hSw := S6.cells hSw; go_simp); try with_reducible rfl)); simp only [Act.put, List.setIfInBounds_toArray, List.set_cons_zero, List.set_cons_succ]))
      refine Plan.plan_write rfl (fun K hK => ?_)
      refine step_append_any _ (by rfl) _ _ 32 (by rfl) base 34 i0 _ 7 56 Tryd.underlying32 hi hz0 hz1 hz2 rfl (by decide) e1.val L1.length _ (by rfl) hrow1.out (wr.heap.size + 1 + 1 + 1) (some ⟨wr.heap.size + 1 + 1, 0, none⟩) 1 1 e.cells (by rfl) ⟨rfl, fun _ => ⟨_, rfl, Nat.lt_succ_self _, hc1⟩⟩ (cells_one e) (by unfold maxLen; omega) (by omega) (by omega) ?_
      intro v' w2 hown' hgrow hat
      obtain ⟨es', w3, hrun2, hG3, hg3⟩ := HG1.out.store (t := 80) (P := Tryd.prog) (L' := L1 ++ [e]) he1 hp1 hgrow (by rw [List.flatMap_append, List.length_append]; simpa using hown') hat
      simp only [goInt] at hrun2
      refine hK.out _ _ (hS4.out.keep fun k hk => hgrow.block k (by omega) (fun q => by have := hgo.out k q.symm; omega)) ?_
      clear hK K
      try simp only [Act.put, List.setIfInBounds_toArray, List.set_cons_zero, List.set_cons_succ]
      (refine Plan.plan_last rfl (fun K hK => ?_); go_simp; refine hK.out _ _ ?_; clear hK K; try simp only [Act.put, List.setIfInBounds_toArray, List.set_cons_zero, List.set_cons_succ])
      have hO3 : Hid (OnlyX base mb mb w w3) := ⟨hg3.os.trans (hgrow.os.trans hO1.out.os), hg3.tape.trans (hgrow.tape.trans hO1.out.tape), hg3.output.trans (hgrow.output.trans hO1.out.output), Nat.le_trans hO1.out.size (Nat.le_trans hgrow.size hg3.size), fun j h1 h2 h3 => (hg3.block j (by have := hgrow.size; omega) (by simp; omega)).trans ((hgrow.block j (by omega) (fun q => by have := hgo.out j q.symm; omega)).trans (hO1.out.block j h1 h2 h3))⟩
      go_wp2_with fail
      go_roundw
      case rel => exact ⟨k + 1, es', clock1, _, by omega, by go_num, hG3, (show GI.Good _ _ by rw [hT.out]; exact hGd.out), hO3⟩
      case measure => simp [intOf]; omega
    · have hke : k = l.length := by omega
      subst hke
      have hxw : xb < wr.heap.size := by omega
      have hvo : IntKind.i64.wrap ((L.length : Int) + (l.length : Int)) = ((L.length + l.length : Nat) : Int) := by rw [IntKind.wrap_i64]; omega
      have hM' := hM.out
      rw [List.take_length] at hM'
      have hG' := hG.out.set_ (xb := xb) 1 (.int .i64 ((L.length : Int) + (l.length : Int))) hlt (by omega)
      have hbx := ixset ((hO.out.block xb hlt (by omega) (by omega)).trans hbox.out) (L.length + l.length)
      go_wp2_with fail
      go_end0
      refine ⟨rfl, ⟨?_, ⟨es, clock, m, hG', hM'⟩, ho, hlt, by simpa using hzr⟩, ⟨hO.out.os, hO.out.tape, hO.out.output, by simpa using hO.out.size, fun j h1 h2 h3 => (Below.heap_setCell _ _ _ _ h2).trans (hO.out.block j h1 h3 h3)⟩⟩
      rw [List.length_append]
      simpa using hbx
end Go.Proofs.YtminphldifncaaaDoor
