/- The walk of Reach. -/
import Derived.Test.YthoigjkelinjhaaW1
import Derived.Test.YthoigjkelinjhaaRowK
import Derived.Deep.AppendLies
set_option linter.unusedSimpArgs false
set_option linter.unusedVariables false
namespace Go.Proofs.Ythoigjkelinjhaa
open Go.RowKit CM
attribute [local go_sem] alloc_drewN setCell_drewN shape_drewN

theorem Try.infoInt : (Try.prog.info? 3).map (fun i => (i.zero, i.size, i.bytes)) = some (some (.int .i64 0), 1, 8) := by kernel_rfl
theorem Try.infoBool : (Try.prog.info? 4).map (fun i => (i.zero, i.size, i.bytes)) = some (some (.bool false), 1, 1) := by kernel_rfl
/-- A basin in a block of its own. -/
def BoxB (w : World) (b : Nat) (X : Bas) (pl : Pl) : Prop := w.heap[b]? = some (.cells #[.string X.nm, .slice X.a1 X.l1 X.c1, .int .i64 X.cl, .slice X.P pl.length X.cP, .slice X.a4 X.l4 X.c4, .slice X.a5 X.l5 X.c5, .slice X.a6 X.l6 X.c6, .slice X.a7 X.l7 X.c7, .slice X.a8 X.l8 X.c8, .slice X.a9 X.l9 X.c9, .int .i64 X.er] 31 (0, 0))
theorem BoxB.new (w : World) (X : Bas) (pl : Pl) : BoxB (w.alloc (.cells #[.string X.nm, .slice X.a1 X.l1 X.c1, .int .i64 X.cl, .slice X.P pl.length X.cP, .slice X.a4 X.l4 X.c4, .slice X.a5 X.l5 X.c5, .slice X.a6 X.l6 X.c6, .slice X.a7 X.l7 X.c7, .slice X.a8 X.l8 X.c8, .slice X.a9 X.l9 X.c9, .int .i64 X.er] 31)) w.heap.size X pl := heap_alloc_new w _
theorem BoxB.below {w w' : World} {b B : Nat} {X : Bas} {pl : Pl} (h : BoxB w b X pl) (hb : Below B w w') (hlt : b < B) : BoxB w' b X pl := (hb.block b hlt).trans h
theorem BoxB.cells {w : World} {b : Nat} {X : Bas} {pl : Pl} (h : BoxB w b X pl) : w.cell? ⟨b, 0, none⟩ = some (.string X.nm) ∧ w.cell? ⟨b, 1, none⟩ = some (.slice X.a1 X.l1 X.c1) ∧ w.cell? ⟨b, 2, none⟩ = some (.int .i64 X.cl) ∧ w.cell? ⟨b, 3, none⟩ = some (.slice X.P pl.length X.cP) ∧
    w.cell? ⟨b, 4, none⟩ = some (.slice X.a4 X.l4 X.c4) ∧ w.cell? ⟨b, 5, none⟩ = some (.slice X.a5 X.l5 X.c5) ∧ w.cell? ⟨b, 6, none⟩ = some (.slice X.a6 X.l6 X.c6) ∧ w.cell? ⟨b, 7, none⟩ = some (.slice X.a7 X.l7 X.c7) ∧ w.cell? ⟨b, 8, none⟩ = some (.slice X.a8 X.l8 X.c8) ∧ w.cell? ⟨b, 9, none⟩ = some (.slice X.a9 X.l9 X.c9) ∧ w.cell? ⟨b, 10, none⟩ = some (.int .i64 X.er) := by
  have h : w.heap[b]? = _ := h
  refine ⟨?_, ?_, ?_, ?_, ?_, ?_, ?_, ?_, ?_, ?_, ?_⟩ <;> simp [World.cell?, h]
theorem row_store {w : World} {n₀ e size k : Nat} {v : Value} {xs : List Value} (h : w.ownsRow n₀ e size v k xs) {p : Addr} (hp : p.block < n₀) (u : Value) : (w.setCell p u).ownsRow n₀ e size v k xs := by
  refine h.kept (row := some p.block) ⟨rfl, rfl, rfl, ((Below.refl 0 w).setCell (p := p) (Nat.zero_le _) u).size, fun j _ hj => Below.heap_setCell _ _ _ j (fun e => hj (by rw [e]))⟩ ?_
  rcases h.2 with ⟨rfl, _⟩ | ⟨g, cap, cur, rfl, hb, _, _⟩
  · exact .inl rfl
  · refine .inr ?_
    simp only [Value.ownBlock]
    intro e
    injection e with e
    omega
theorem cell_one_at {w : World} {b : Nat} (hb : w.heap.size = b) (e : Nat) (x : Value) : ∀ j u, [x][j]? = some u → (w.alloc (.cells #[x] e)).cell? ((⟨b, 0, none⟩ : Addr).add j) = some u := by
  subst hb; exact cell_one_new _ _ _
def natsV (l : List Nat) : List Value := l.map fun q : Nat => .int .i64 (q : Int)
def natsI (l : List Nat) : List Int := l.map fun q : Nat => (q : Int)
def lenV (v : Value) : Nat := match v with | .slice _ l _ => l | _ => 0
def ReachIs (l : List Nat) (w : World) (e : Ending) (w' : World) : Prop := ∃ C cc, e = .returned (.slice C l.length cc) ∧ IntsAt w' w'.heap.size C (natsI l) ∧ (∀ a, C = some a → w.heap.size ≤ a.block) ∧ Below w.heap.size w w'
theorem nats_of_owns {w : World} {base e : Nat} {v : Value} {l : List Nat} (h : w.ownsRow base e 1 v l.length (natsV l)) : ∃ C cc, v = .slice C l.length cc ∧ IntsAt w w.heap.size C (natsI l) ∧ ∀ a, C = some a → base ≤ a.block := by
  have e1 : natsV l = (natsI l).map (Value.int .i64) := by simp [natsV, natsI]
  have e2 : (natsI l).length = l.length := by simp [natsI]
  rw [e1, ← e2] at h
  have h0 := h
  obtain ⟨C, cc, h1, h2⟩ := ints_of_owns h
  rw [e2] at h1
  refine ⟨C, cc, h1, h2, fun a ha => ?_⟩
  subst ha
  rcases h0.2 with ⟨e, _⟩ | ⟨g, cap, cur, e, hb, _, _⟩
  · rw [h1] at e; injection e with e _ _; cases e
  · rw [h1] at e; injection e with e _ _; injection e with e; rw [e]; exact hb
theorem natsV_snoc (l : List Nat) (n : Nat) : natsV (l ++ [n]) = natsV l ++ [.int .i64 (n : Int)] := by simp [natsV]
theorem seen_snoc (acc : List Nat) (n j : Nat) : updF (fun j => .bool (decide (j ∈ acc))) n (.bool true) j = .bool (decide (j ∈ acc ++ [n])) := by
  unfold updF
  by_cases h : j = n
  · subst h; simp
  · rw [if_neg h]
    show Value.bool (decide (j ∈ acc)) = Value.bool (decide (j ∈ acc ++ [n]))
    congr 1
    simp [h]
theorem slice_ret {C : Option Addr} {cc : Nat} {a b : List Nat} (h : a = b) : Ending.returned (.slice C a.length cc) = .returned (.slice C b.length cc) := by rw [h]
/-- How the search for places stands. -/
structure RInv (pl : Pl) (p0 : Int) (acc : List Nat) (f : Nat) (p : Int) : Prop where
  eq : reach pl p0 = acc ++ reachG pl f p acc
  fuel : f + acc.length = pl.length + 1
  nd : acc.Nodup
  lt : ∀ q ∈ acc, q < pl.length
theorem RInv.start (pl : Pl) (p : Int) : RInv pl p [] (pl.length + 1) p := ⟨rfl, rfl, List.nodup_nil, fun _ h => nomatch h⟩
theorem RInv.len {pl : Pl} {p0 : Int} {acc : List Nat} {f : Nat} {p : Int} (h : RInv pl p0 acc f p) : acc.length ≤ pl.length := nodup_len _ _ h.nd h.lt
theorem RInv.stop {pl : Pl} {p0 : Int} {acc : List Nat} {f : Nat} {p : Int} (h : RInv pl p0 acc f p) (hn : ¬ (0 ≤ p ∧ p < pl.length ∧ p.toNat ∉ acc)) : reach pl p0 = acc := by rw [h.eq, reachG_no hn, List.append_nil]
theorem RInv.go {pl : Pl} {p0 : Int} {acc : List Nat} {f : Nat} {n : Nat} (h : RInv pl p0 acc f n) (hn : n < pl.length) (ha : n ∉ acc) :
    (24 ≤ delayP pl n → reach pl p0 = acc ++ [n]) ∧ (¬ 24 ≤ delayP pl n → RInv pl p0 (acc ++ [n]) (f - 1) (downP pl n)) := by
  have hl := h.len
  have hf := h.fuel
  obtain ⟨g, rfl⟩ : ∃ g, f = g + 1 := ⟨f - 1, by omega⟩
  have e := h.eq
  rw [reachG_yes hn ha] at e
  constructor
  · intro q; rw [if_pos q] at e; exact e
  · intro q
    rw [if_neg q] at e
    refine ⟨by rw [e]; simp, by simp; omega, ?_, fun m hm => ?_⟩
    · rw [List.nodup_append]
      exact ⟨h.nd, by simp, fun a ha1 b hb e1 => by simp at hb; subst hb; subst e1; exact ha ha1⟩
    · rcases List.mem_append.1 hm with q1 | q1
      · exact h.lt m q1
      · simp at q1; subst q1; exact hn
set_option maxRecDepth 100000 in
set_option maxHeartbeats 4000000 in
theorem reach_no (X : Bas) (pl : Pl) (p : Int) (w : World) {B : Nat} (hP : PlacesAt w B X.P pl) (hB : B ≤ w.heap.size) (hl : pl.length ≤ 1000000) (h0 : pl.length = 0) :
    Calls Try.prog 22 #[.agg #[.string X.nm, .slice X.a1 X.l1 X.c1, .int .i64 X.cl, .slice X.P pl.length X.cP, .slice X.a4 X.l4 X.c4, .slice X.a5 X.l5 X.c5, .slice X.a6 X.l6 X.c6, .slice X.a7 X.l7 X.c7, .slice X.a8 X.l8 X.c8, .slice X.a9 X.l9 X.c9, .int .i64 X.er], .int .i64 p] w (ReachIs (reach pl p) w) := by
  obtain ⟨i0, hi, hz0, hz1, hz2⟩ := info_parts Try.infoInt
  obtain ⟨i1, ki, kz0, kz1, kz2⟩ := info_parts Try.infoBool
  have hmk := fun wx => run_make1 (P := Try.prog) 94 4 i1 (.bool false) Try.underlying94 ki kz0 kz1 rfl pl.length pl.length (Nat.le_refl _) (by rw [kz2]; omega) (by omega) wx
  have K1 := fun p wx => isPlace_any X pl p wx (by omega)
  unfold BoolIs at K1
  have H0 := Lib.hid h0
  clear h0
  have K1 := Lib.hid K1
  go_enter Try.func22, Try.ntmps22
  go_wp2_with fail
  clear hmk
  go_loopw [1, 5] (fun q out wr => ∃ (acc : List Nat) (f : Nat) (p1 : Int), q = .int .i64 p1 ∧ Hid (RInv pl p acc f p1) ∧ lenV out = acc.length ∧ wr.ownsRow (w.heap.size + 1 + 1) 3 1 out acc.length (natsV acc) ∧
      Arr wr (w.heap.size + 1) pl.length (fun j => .bool (decide (j ∈ acc))) ∧ BoxB wr w.heap.size X pl ∧ Below w.heap.size w wr ∧ w.heap.size + 1 + 1 ≤ wr.heap.size) (fun _ out _ => pl.length + 1 - lenV out)
  case atStart =>
    refine ⟨[], pl.length + 1, p, rfl, RInv.start pl p, rfl, World.ownsRow_nil _ _ _ _, ?_, ?_, ((Below.refl _ _).alloc (Nat.le_refl _) _).alloc (by simp) _, by simp⟩
    · have m1 := Arr.made (w.alloc (.cells #[.string X.nm, .slice X.a1 X.l1 X.c1, .int .i64 X.cl, .slice X.P pl.length X.cP, .slice X.a4 X.l4 X.c4, .slice X.a5 X.l5 X.c5, .slice X.a6 X.l6 X.c6, .slice X.a7 X.l7 X.c7, .slice X.a8 X.l8 X.c8, .slice X.a9 X.l9 X.c9, .int .i64 X.er] 31)) (.bool false) pl.length 4
      rw [World.size_alloc] at m1
      exact m1.congr (fun j _ => by simp)
    · exact (BoxB.new w X pl).below (B := w.heap.size + 1) ((Below.refl _ _).alloc (by simp) _) (by omega)
  case round =>
    obtain ⟨acc, f, p1, rfl, hR, hlo, hrow, hA, hX, hBw, hz⟩ := hrel
    obtain ⟨x0, x1, x2, x3, x4, x5, x6, x7, x8, x9, x10⟩ := hX.cells
    by_cases hp : isPl pl p1 = true
    case pos => exact absurd hp (by have := H0.out; unfold isPl; simp; omega)
    case neg =>
      have hp : isPl pl p1 = false := by simpa using hp
      have hst : Hid (reach pl p = acc) := hR.out.stop (fun h => by unfold isPl at hp; simp at hp; have := hp h.1; omega)
      have K2 := fun wx => K1.out p1 wx
      simp only [hp] at K2
      have K2 := Lib.hid K2
      clear hp K1 hR
      go_wp2_with (first | (go_at_call 39; ((with_reducible refine (K2.out _).mono ?_); rintro e1 w1 ⟨rfl, hb1⟩)) | fail)
      have hr := row_below hrow hb1
      obtain ⟨C, cc, rfl, hI, hF⟩ := nats_of_owns hr
      go_ret
      exact ⟨C, cc, slice_ret hst.out.symm, by rw [hst.out]; exact hI, fun a ha => by have := hF a ha; omega, hBw.trans (hb1.mono hBw.size)⟩
set_option maxRecDepth 100000 in
set_option maxHeartbeats 4000000 in
theorem reach_yes (X : Bas) (pl : Pl) (p : Int) (w : World) {B : Nat} (hP : PlacesAt w B X.P pl) (hB : B ≤ w.heap.size) (hl : pl.length ≤ 1000000) (h0 : 0 < pl.length) :
    Calls Try.prog 22 #[.agg #[.string X.nm, .slice X.a1 X.l1 X.c1, .int .i64 X.cl, .slice X.P pl.length X.cP, .slice X.a4 X.l4 X.c4, .slice X.a5 X.l5 X.c5, .slice X.a6 X.l6 X.c6, .slice X.a7 X.l7 X.c7, .slice X.a8 X.l8 X.c8, .slice X.a9 X.l9 X.c9, .int .i64 X.er], .int .i64 p] w (ReachIs (reach pl p) w) := by
  obtain ⟨i0, hi, hz0, hz1, hz2⟩ := info_parts Try.infoInt
  obtain ⟨i1, ki, kz0, kz1, kz2⟩ := info_parts Try.infoBool
  have hmk := fun wx => run_make1 (P := Try.prog) 94 4 i1 (.bool false) Try.underlying94 ki kz0 kz1 rfl pl.length pl.length (Nat.le_refl _) (by rw [kz2]; omega) (by omega) wx
  have K1 := fun p wx => isPlace_any X pl p wx (by omega)
  unfold BoolIs at K1
  obtain ⟨bq, oq, hPe, hbq, hcq⟩ := hP h0
  simp only [hPe] at K1
  have hcq := Lib.hid hcq
  have K1 := Lib.hid K1
  go_enter Try.func22, Try.ntmps22
  go_wp2_with fail
  clear hmk
  go_loopw [1, 5] (fun q out wr => ∃ (acc : List Nat) (f : Nat) (p1 : Int), q = .int .i64 p1 ∧ Hid (RInv pl p acc f p1) ∧ lenV out = acc.length ∧ wr.ownsRow (w.heap.size + 1 + 1) 3 1 out acc.length (natsV acc) ∧
      Arr wr (w.heap.size + 1) pl.length (fun j => .bool (decide (j ∈ acc))) ∧ BoxB wr w.heap.size X pl ∧ Below w.heap.size w wr ∧ w.heap.size + 1 + 1 ≤ wr.heap.size) (fun _ out _ => pl.length + 1 - lenV out)
  case atStart =>
    refine ⟨[], pl.length + 1, p, rfl, RInv.start pl p, rfl, World.ownsRow_nil _ _ _ _, ?_, ?_, ((Below.refl _ _).alloc (Nat.le_refl _) _).alloc (by simp) _, by simp⟩
    · have m1 := Arr.made (w.alloc (.cells #[.string X.nm, .slice X.a1 X.l1 X.c1, .int .i64 X.cl, .slice X.P pl.length X.cP, .slice X.a4 X.l4 X.c4, .slice X.a5 X.l5 X.c5, .slice X.a6 X.l6 X.c6, .slice X.a7 X.l7 X.c7, .slice X.a8 X.l8 X.c8, .slice X.a9 X.l9 X.c9, .int .i64 X.er] 31)) (.bool false) pl.length 4
      rw [World.size_alloc] at m1
      rw [hPe] at m1
      exact m1.congr (fun j _ => by simp)
    · have q0 := BoxB.new w X pl
      rw [hPe] at q0
      exact q0.below (B := w.heap.size + 1) ((Below.refl _ _).alloc (by simp) _) (by omega)
  case round =>
    obtain ⟨acc, f, p1, rfl, hR, hlo, hrow, hA, hX, hBw, hz⟩ := hrel
    obtain ⟨x0, x1, x2, x3, x4, x5, x6, x7, x8, x9, x10⟩ := hX.cells
    rw [hPe] at x3
    by_cases hp : isPl pl p1 = true
    case neg =>
      have hp : isPl pl p1 = false := by simpa using hp
      have hst : Hid (reach pl p = acc) := hR.out.stop (fun h => by unfold isPl at hp; simp at hp; have := hp h.1; omega)
      have K2 := fun wx => K1.out p1 wx
      simp only [hp] at K2
      have K2 := Lib.hid K2
      clear hp K1 hR
      go_wp2_with (first | (go_at_call 39; ((with_reducible refine (K2.out _).mono ?_); rintro e1 w1 ⟨rfl, hb1⟩)) | fail)
      have hr := row_below hrow hb1
      obtain ⟨C, cc, rfl, hI, hF⟩ := nats_of_owns hr
      go_ret
      exact ⟨C, cc, slice_ret hst.out.symm, by rw [hst.out]; exact hI, fun a ha => by have := hF a ha; omega, hBw.trans (hb1.mono hBw.size)⟩
    obtain ⟨n, rfl⟩ : ∃ n : Nat, p1 = n := ⟨p1.toNat, by unfold isPl at hp; simp at hp; omega⟩
    have hn : n < pl.length := by unfold isPl at hp; simp at hp; omega
    obtain ⟨a0, f0⟩ := hA n hn
    dsimp only at a0
    have K2 := fun wx => K1.out (n : Int) wx
    simp only [hp] at K2
    have K2 := Lib.hid K2
    have hal := hR.out.len
    by_cases hm : n ∈ acc
    · have hst : Hid (reach pl p = acc) := hR.out.stop (fun h => h.2.2 (by simpa using hm))
      rw [decide_eq_true hm] at a0
      clear hp K1 hR hm
      go_wp2_with (first | (go_at_call 39; ((with_reducible refine (K2.out _).mono ?_); rintro e1 w1 ⟨rfl, hb1⟩; have a0 := (hb1.cell (p := ⟨w.heap.size + 1, n, none⟩) (by show w.heap.size + 1 < _; omega)).trans a0)) | fail)
      have hr := row_below hrow hb1
      obtain ⟨C, cc, rfl, hI, hF⟩ := nats_of_owns hr
      go_ret
      exact ⟨C, cc, slice_ret hst.out.symm, by rw [hst.out]; exact hI, fun a ha => by have := hF a ha; omega, hBw.trans (hb1.mono hBw.size)⟩
    · obtain ⟨r1, r2⟩ := hR.out.go hn hm
      rw [decide_eq_false hm] at a0
      have hlen := hal
      have HA := Lib.hid hm
      clear hp K1 hR hm
      obtain ⟨c8, c9⟩ := hcq.out n hn
      have dl := Lib.hid (rfl : delayP pl n = delayP pl n)
      by_cases hd : 24 ≤ delayP pl n
      · have r1 := Lib.hid (r1 hd)
        clear r2 dl
        go_wp2_with (first | (go_at_call 39; ((with_reducible refine (K2.out _).mono ?_); rintro e1 w1 ⟨rfl, hb1⟩; have a0 := (hb1.cell (p := ⟨w.heap.size + 1, n, none⟩) (by show w.heap.size + 1 < _; omega)).trans a0; have f0 := (hb1.frozen (p := ⟨w.heap.size + 1, n, none⟩) (by show w.heap.size + 1 < _; omega)).trans f0; have hzw := hb1.size; have hrow1 := row_store (row_below hrow hb1) (p := ⟨w.heap.size + 1, n, none⟩) (by simp) (.bool true); have hB1 : Below w.heap.size w (w1.setCell ⟨w.heap.size + 1, n, none⟩ (.bool true)) := (hBw.trans (hb1.mono hBw.size)).setCell (p := ⟨w.heap.size + 1, n, none⟩) (by simp) _; have hA1 := ((hA.below hb1 (by omega)).set hn (.bool true)); have hX1 : BoxB (w1.setCell ⟨w.heap.size + 1, n, none⟩ (.bool true)) w.heap.size X pl := (hX.below hb1 (by omega)).below (B := w.heap.size + 1) ((Below.refl _ _).setCell (p := ⟨w.heap.size + 1, n, none⟩) (Nat.le_refl _) _) (by omega))) | (at_builtin; refine wpList_append_own _ rfl _ _ 29 rfl (w.heap.size + 1 + 1) 3 i0 (.int .i64 0) 1 8 Try.underlying29 hi hz0 hz1 hz2 rfl (by decide) _ acc.length _ rfl (hrow1.alloc _) ⟨w1.heap.size, 0, none⟩ 1 1 [.int .i64 n] rfl rfl (cell_one_at (by simp) _ _) (by simp [Value.oneCell']) (by unfold maxLen; omega) (by omega) (by simp; omega) ?_; intro v' w2 hown' hgrow _; obtain ⟨g', cap', rfl, hg1, hg2⟩ := hown'.form (by omega); have hb2 := below_app hrow1 (by simp; omega) hgrow; have x3b := (hX1.below hb2 (by omega)).cells.2.2.2.1; rw [hPe] at x3b; have hBw2 := hB1.trans (hb2.mono (by omega)); have c8 := (hBw2.cell (p := ⟨bq, _, none⟩) (by show bq < _; omega)).trans c8; have c9 := (hBw2.cell (p := ⟨bq, _, none⟩) (by show bq < _; omega)).trans c9) | fail)
        have hr2 : w2.ownsRow (w.heap.size + 1 + 1) 3 1 (.slice (some ⟨g', 0, none⟩) (acc.length + 1) cap') (acc ++ [n]).length (natsV (acc ++ [n])) := by rw [natsV_snoc, List.length_append]; exact hown'
        rw [← r1.out] at hr2
        obtain ⟨C, cc, he, hI, hF⟩ := nats_of_owns hr2
        go_ret
        exact ⟨C, cc, by rw [← he]; rfl, hI, fun a ha => by have := hF a ha; omega, hBw2⟩
      · have r3 := Lib.hid (r2 hd)
        clear r1 r2 dl
        go_wp2_with (first | (go_at_call 39; ((with_reducible refine (K2.out _).mono ?_); rintro e1 w1 ⟨rfl, hb1⟩; have a0 := (hb1.cell (p := ⟨w.heap.size + 1, n, none⟩) (by show w.heap.size + 1 < _; omega)).trans a0; have f0 := (hb1.frozen (p := ⟨w.heap.size + 1, n, none⟩) (by show w.heap.size + 1 < _; omega)).trans f0; have hzw := hb1.size; have hrow1 := row_store (row_below hrow hb1) (p := ⟨w.heap.size + 1, n, none⟩) (by simp) (.bool true); have hB1 : Below w.heap.size w (w1.setCell ⟨w.heap.size + 1, n, none⟩ (.bool true)) := (hBw.trans (hb1.mono hBw.size)).setCell (p := ⟨w.heap.size + 1, n, none⟩) (by simp) _; have hA1 := ((hA.below hb1 (by omega)).set hn (.bool true)); have hX1 : BoxB (w1.setCell ⟨w.heap.size + 1, n, none⟩ (.bool true)) w.heap.size X pl := (hX.below hb1 (by omega)).below (B := w.heap.size + 1) ((Below.refl _ _).setCell (p := ⟨w.heap.size + 1, n, none⟩) (Nat.le_refl _) _) (by omega))) | (at_builtin; refine wpList_append_own _ rfl _ _ 29 rfl (w.heap.size + 1 + 1) 3 i0 (.int .i64 0) 1 8 Try.underlying29 hi hz0 hz1 hz2 rfl (by decide) _ acc.length _ rfl (hrow1.alloc _) ⟨w1.heap.size, 0, none⟩ 1 1 [.int .i64 n] rfl rfl (cell_one_at (by simp) _ _) (by simp [Value.oneCell']) (by unfold maxLen; omega) (by omega) (by simp; omega) ?_; intro v' w2 hown' hgrow _; obtain ⟨g', cap', rfl, hg1, hg2⟩ := hown'.form (by omega); have hb2 := below_app hrow1 (by simp; omega) hgrow; have x3b := (hX1.below hb2 (by omega)).cells.2.2.2.1; rw [hPe] at x3b; have hBw2 := hB1.trans (hb2.mono (by omega)); have c8 := (hBw2.cell (p := ⟨bq, _, none⟩) (by show bq < _; omega)).trans c8; have c9 := (hBw2.cell (p := ⟨bq, _, none⟩) (by show bq < _; omega)).trans c9) | fail)
        have hr2 : w2.ownsRow (w.heap.size + 1 + 1) 3 1 (.slice (some ⟨g', 0, none⟩) (acc.length + 1) cap') (acc ++ [n]).length (natsV (acc ++ [n])) := by rw [natsV_snoc, List.length_append]; exact hown'
        have hA2 : Arr w2 (w.heap.size + 1) pl.length (fun j => .bool (decide (j ∈ acc ++ [n]))) := (hA1.below hb2 (by omega)).congr (fun j _ => seen_snoc acc n j)
        have hX2 := hX1.below hb2 (by omega)
        have hz2 : w.heap.size + 1 + 1 ≤ w2.heap.size := by have := hb2.size; simp at this; omega
        clear hown' hgrow hA1 hX1 hb2 hrow1 hrow hA hX x0 x1 x2 x3 x4 x5 x6 x7 x8 x9 x10 x3b c8 c9 a0 f0 hB1 hb1 hBw
        rw [hPe]
        go_roundw
        case rel => exact ⟨acc ++ [n], f - 1, downP pl n, rfl, r3, by simp [lenV], hr2, hA2, hX2, hBw2, hz2⟩
        case measure =>
          show pl.length + 1 - (acc.length + 1) < pl.length + 1 - lenV _
          rw [hlo]; omega
theorem reach_any (X : Bas) (pl : Pl) (p : Int) (w : World) {B : Nat} (hP : PlacesAt w B X.P pl) (hB : B ≤ w.heap.size) (hl : pl.length ≤ 1000000) :
    Calls Try.prog 22 #[.agg #[.string X.nm, .slice X.a1 X.l1 X.c1, .int .i64 X.cl, .slice X.P pl.length X.cP, .slice X.a4 X.l4 X.c4, .slice X.a5 X.l5 X.c5, .slice X.a6 X.l6 X.c6, .slice X.a7 X.l7 X.c7, .slice X.a8 X.l8 X.c8, .slice X.a9 X.l9 X.c9, .int .i64 X.er], .int .i64 p] w (ReachIs (reach pl p) w) := by
  rcases Nat.eq_zero_or_pos pl.length with h | h
  · exact reach_no X pl p w hP hB hl h
  · exact reach_yes X pl p w hP hB hl h
end Go.Proofs.Ythoigjkelinjhaa
